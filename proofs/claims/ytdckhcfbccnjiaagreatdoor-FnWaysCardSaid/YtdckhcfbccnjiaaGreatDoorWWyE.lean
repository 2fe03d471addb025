/- The code does what the functions of data say. Printed by program. -/
import Derived.Test.YtdckhcfbccnjiaaGreatDoorWWyD
namespace Go.Vk
open Value renaming int → I, slice → S, pointer → O, bool → B
open IntKind renaming i64 → J, u8 → K
open Bool renaming true → y, false → n
open Option renaming some → U, none → N
open Res renaming box → b, own → W
open Go.Proofs Go.RowKit
set_option maxHeartbeats 4000000
set_option maxRecDepth 100000
theorem tM (w : World) {o : List Nat} {p0b : List Int} {p0 : ao} {p1 : ab} {b_0 : Nat} {a_p0b : Option Addr} {n_p0b c_p0b : Nat} {e1 : List Value} {r : av × ao} (H : mx p0b p0 p1 = U r) (HS : St w o [b b_0 91 [S a_p0b p0b.length c_p0b, I J p0.i_, I J p0.h_]] w) (g_p0b : (ae e8 5).rd w o p0b [S a_p0b n_p0b c_p0b]) (g1 : (aJ).rd w o p1 e1) :
    Calls Tryz.prog 99 #[O (U ⟨b_0, 0, N⟩), .agg e1.toArray] w (fun en w' => ∃ v, en = .returned v ∧ ∃ (a0 : Option Addr), ∃ (n0 : Nat), ∃ (c0 : Nat), ∃ (F0 : List Nat), ∃ (a1 : Option Addr), ∃ (n1 : Nat), ∃ (c1 : Nat), ∃ (F1 : List Nat), v = .agg #[S a0 n0 c0, S a1 n1 c1] ∧ St w o [W (ae eI 3) F0 r.1.e_ [S a0 n0 c0], W (ae (ae eI 3) 31) F1 r.1.d_ [S a1 n1 c1], b b_0 91 [S a_p0b n_p0b c_p0b, I J r.2.i_, I J r.2.h_]] w') := by
 obtain rfl := fM g_p0b
 obtain ⟨k3, k4, rfl, L, M⟩ := aB g1
 obtain ⟨e2, e3, rfl⟩ := aj L
 obtain ⟨e4, e5, rfl⟩ := aj M
 unfold mx at H
 refine aH Tryz.func99 z Tryz.ntmps99 z (HS) <| sR <| ob _ z fun b2 => aA z z z z cT (fun _ => kp) fun b3 => nR <| o1 z (rx 0 1 _ z cg z) <| bE H fun a9 h4 H => au z yW z z z z (fun c a => kZ c h4 (a.carve [] z z) (af (ad L c a) (ad M c a))) fun k5 c G a f2 => ?_
 obtain ⟨e6, k6, e7, h5, e9, k7, f0, h6, rfl, a5⟩ := f2
 obtain rfl := aI (i := 0) a5 z
 obtain rfl := aI (i := 1) a5 z
 refine ⟨St w o [_, _, _, _, _], a.comp [] z z a5, fun _ _ => Y, ?_⟩
 refine aA z z z z cT (fun _ => kp) fun f1 => sC 0 [S e6 a9.e_.length e7, S e9 a9.d_.length f0] [_, _] 5 z cT z <| nR <| oP z <| bQ (val := I J) (h1 := fun _ => z) [0, 1, 3, 12, 30, 60] [(0, [I J 0]), (1, [I J 1]), (2, [I J 3]), (3, [I J 12]), (4, [I J 30]), (5, [I J 60])] z z z z z aP ty3 z z z ⟨z, z, nl z, z, z, nl z, z, z, nl z, z, z, nl z, z, z, nl z, z, z, nl z, Y⟩ z z (fun _ => kp) fun k8 => bE H fun b0 h7 H => au z jY z z z z (fun c a => bb c h7 (a.carve [0] z z) (rdB [0] z z a g_p0b) (rdO 6 [0] z a z z)) fun k9 c G a f3 => ?_
 obtain ⟨rfl, f4⟩ := f3
 refine ⟨St w o [_, _, _, _, _, _, _, _], a.comp [0] z z f4, fun _ _ => Y, ?_⟩
 refine oP z <| nQ <| ak <| sR <| oP z <| nQ <| az <| CW.at (CB (fun (E : Int) (F : Int) (d : List Int) (h : Option Addr) (j : Nat) (t : List Nat) (f : List (List Int)) (k : Option Addr) (l : Nat) (u : List Nat) (q : Int) => St w o [b b_0 91 [S a_p0b p0b.length c_p0b, I J E, I J F], b b2 27 [S e2 p1.b_.length e3, S e4 p1.l_.length e5], b b3 69 [S N 0 0, S N 0 0], b f1 69 [S h d.length j, S k f.length l], W (ae eI 3) t d [S h d.length j], W (ae (ae eI 3) 31) u f [S k f.length l]]) (fun E F d h j t f k l u q => [(0, O (U ⟨b_0, 0, N⟩)), (3, O (U ⟨b2, 0, N⟩)), (4, O (U ⟨b3, 0, N⟩)), (5, O (U ⟨f1, 0, N⟩)), (6, I J b0.1), (7, I J q)]) (fun kk => fun E F d h j t f k l u q => eN b0 p0b p1 kk E F d f q = U r) (fun _ _ _ _ _ _ _ _ _ _ _ H => ?_) (fun k1 a6 E F d h j t f k l u q H => ?_) be (b0.2.i_) (b0.2.h_) (a9.e_) (e6) (e7) (h5) (a9.d_) (e9) (f0) (h6) (0) (H)) (ss [7, 1, 2, 5, 3, 4] z z) (sb z)
 ·unfold eN at H
  exact absurd H (by simp)
 ·unfold eN at H
  refine ak <| sR <| aa [.p, .p, .p] z <| nQ <| cI H z (fun H => ?_) (fun H => ?_)
  ·refine ar <| ax <| ak <| az <| sR <| oP z <| o1 z (rx 0 1 _ z cg z) <| bE H fun g f5 H => au z Er z z z z (fun c a => nv c f5 (a.carve [0] z z) (rdB [0] z z a g_p0b) (af (rdB [0] z z a L) (rdB [0] z z a M))) fun i1 c G a c8 => ?_
   obtain ⟨A, i2, C, f6, rfl, b1⟩ := c8
   obtain rfl := aI (i := 0) b1 z
   refine ⟨St w o [_, _, _, _, _, _, _, _], a.comp [0] z z b1, fun _ _ => Y, ?_⟩
   refine aA z z z z gm (fun _ => kp) fun f7 => sC 0 [S A g.1.o_.length C, I J g.1.v_] [_, _] 8 z gm z <| nQ <| bE H fun D a7 H => bE H fun m a8 H => BZ [(0, y), (2, y), (3, y)] (Br.alt 1 (Br.pre [(4, n), (5, n), (6, n), (7, y), (8, y), (9, y), (10, n)] Br.done) (Br.pre [(4, n)] (Br.alt 1 (Br.pre [(5, n), (6, n), (7, y), (8, y), (9, y), (10, n)] Br.done) (Br.pre [(5, n), (1, n), (6, n), (7, y), (8, y), (9, y), (10, n)] Br.done)))) (St w o [Res.nil, b b2 27 [S e2 p1.b_.length e3, S e4 p1.l_.length e5], b b3 69 [S N 0 0, S N 0 0], Res.nil, W (ae eI 3) t d [S h d.length j], W (ae (ae eI 3) 31) u f [S k f.length l], W (ae eI 3) f6 g.1.o_ [S A g.1.o_.length C], Res.nil, b f7 33 [S A g.1.o_.length C, I J g.1.v_]]) cj (by kernel_rfl) (bv (aX (dI (bv (aX bn))))) (sm [y, y, y, n, y, y, y, n, y] z) <| bu z (aw z) (rx 0 1 _ z cg z) <| bu z (aw z) (rx 0 8 _ z gm z) <| oP z <| aQ <| eM (sm [y, y, y, n, y, y, y, n, y] z) z ?_ ?_
   ·refine xw z z (aw z) (rx 0 3 _ z cT z) <| bQ (val := I J) (h1 := fun _ => z) [1, 2, 7] [(0, [I J 1]), (1, [I J 2]), (2, [I J 7])] z z z z z aP ty3 z z z ⟨z, z, nl z, z, z, nl z, z, z, nl z, Y⟩ z z (fun _ => (sm [y, y, y, n, y, y, y, n, y] z)) fun i3 => au z jY z z z z (fun c a => bb c a7 (a.carve [7] z z) (rdB [7] z z a g_p0b) (rdO 9 [7] z a z z)) fun i4 c G a c9 => ?_
    obtain ⟨rfl, d0⟩ := c9
    refine ⟨St w o [_, _, _, _, _, _, _, _, _, _, _], a.comp [7] z z d0, (sm [y, y, y, n, y, y, y, n, y] z), ?_⟩
    refine au z yM z z z z (fun c a => kQ c a8 (a.carve [] z z) (af (ad L c a) (ad M c a)) (aF (x := (av.mk d f)) (c0 := [S h d.length j]) (c1 := [S k f.length l]) (ap (e := ae eI 3) (r := 4) z c a) (ap (e := ae (ae eI 3) 31) (r := 5) z c a)) (bM (x := g.1) (c0 := [S A g.1.o_.length C]) (c1 := [I J g.1.v_]) (ap (e := ae eI 3) (r := 6) z c a) z)) (fun i5 c G a d1 => ?_)
    obtain ⟨b4, i6, b5, f8, b6, i7, b7, f9, rfl, P⟩ := d1
    obtain rfl := aI (i := 0) P z
    obtain rfl := aI (i := 1) P z
    refine ⟨St w o [_, _, _, _, _, _, _, _, _, _, _, _, _], a.comp [] z z P, (sm [y, y, y, n, y, y, y, n, y] z), ?_⟩
    refine aa [.p, .p, .p] z <| bq (off := 0) [S b4 m.1.e_.length b5, S b6 m.1.d_.length b7] [_, _] (i := 3) z z z z z z cT z z (al z) z z z (sm [y, y, y, n, y, y, y, n, y] z) <| aQ <| wg <| cd <| ax <| CW.weak (C' := St w o [_, _, _, _, _, _, _, _, _, _, _]) ?_ (ss [1, 2, 3, 4, 5, 6, 8, 9, 10, 11, 12] z z)
    exact aW <| aa [.p, .p, .p] z <| ay <| cD (RW.at (a6 (D.2.i_) (D.2.h_) (m.1.e_) (b4) (b5) (f8) (m.1.d_) (b6) (b7) (f9) (J.wrap (q + 1)) (H)) (ss [8, 0, 1, 2, 9, 10] z z) (sb z))
   refine dM (sm [y, y, y, n, y, y, y, n, y] z) z <| bQ (val := I J) (h1 := fun _ => z) [1, 2, 7] [(0, [I J 1]), (1, [I J 2]), (2, [I J 7])] z z z z z aP ty3 z z z ⟨z, z, nl z, z, z, nl z, z, z, nl z, Y⟩ z z (fun _ => (sm [y, y, y, n, y, y, y, n, y] z)) fun i8 => aQ <| eM (sm [y, y, y, n, y, y, y, n, y] z) z ?_ ?_
   ·refine xw z z (aw z) (rx 0 3 _ z cT z) <| au z jY z z z z (fun c a => bb c a7 (a.carve [7] z z) (rdB [7] z z a g_p0b) (rdO 9 [7] z a z z)) fun i9 c G a d2 => ?_
    obtain ⟨rfl, d3⟩ := d2
    refine ⟨St w o [_, _, _, _, _, _, _, _, _, _, _], a.comp [7] z z d3, (sm [y, y, y, n, y, y, y, n, y] z), ?_⟩
    refine au z yM z z z z (fun c a => kQ c a8 (a.carve [] z z) (af (ad L c a) (ad M c a)) (aF (x := (av.mk d f)) (c0 := [S h d.length j]) (c1 := [S k f.length l]) (ap (e := ae eI 3) (r := 4) z c a) (ap (e := ae (ae eI 3) 31) (r := 5) z c a)) (bM (x := g.1) (c0 := [S A g.1.o_.length C]) (c1 := [I J g.1.v_]) (ap (e := ae eI 3) (r := 6) z c a) z)) (fun j0 c G a d4 => ?_)
    obtain ⟨b8, j1, b9, g0, c2, j2, c3, g2, rfl, Q⟩ := d4
    obtain rfl := aI (i := 0) Q z
    obtain rfl := aI (i := 1) Q z
    refine ⟨St w o [_, _, _, _, _, _, _, _, _, _, _, _, _], a.comp [] z z Q, (sm [y, y, y, n, y, y, y, n, y] z), ?_⟩
    refine aa [.p, .p, .p] z <| bq (off := 0) [S b8 m.1.e_.length b9, S c2 m.1.d_.length c3] [_, _] (i := 3) z z z z z z cT z z (al z) z z z (sm [y, y, y, n, y, y, y, n, y] z) <| aQ <| wg <| cd <| ax <| CW.weak (C' := St w o [_, _, _, _, _, _, _, _, _, _, _]) ?_ (ss [1, 2, 3, 4, 5, 6, 8, 9, 10, 11, 12] z z)
    exact aW <| aa [.p, .p, .p] z <| ay <| cD (RW.at (a6 (D.2.i_) (D.2.h_) (m.1.e_) (b8) (b9) (g0) (m.1.d_) (c2) (c3) (g2) (J.wrap (q + 1)) (H)) (ss [8, 0, 1, 2, 9, 10] z z) (sb z))
   refine dM (sm [y, y, y, n, y, y, y, n, y] z) z <| au z jY z z z z (fun c a => bb c a7 (a.carve [7] z z) (rdB [7] z z a g_p0b) (rdO 9 [7] z a z z)) fun j3 c G a d5 => ?_
   obtain ⟨rfl, d6⟩ := d5
   refine ⟨St w o [_, _, _, _, _, _, _, _, _, _, _], a.comp [7] z z d6, (sm [y, y, y, n, y, y, y, n, y] z), ?_⟩
   refine xw z z (aw z) (rx 0 3 _ z cT z) <| au z yM z z z z (fun c a => kQ c a8 (a.carve [] z z) (af (ad L c a) (ad M c a)) (aF (x := (av.mk d f)) (c0 := [S h d.length j]) (c1 := [S k f.length l]) (ap (e := ae eI 3) (r := 4) z c a) (ap (e := ae (ae eI 3) 31) (r := 5) z c a)) (bM (x := g.1) (c0 := [S A g.1.o_.length C]) (c1 := [I J g.1.v_]) (ap (e := ae eI 3) (r := 6) z c a) z)) fun j4 c G a d7 => ?_
   obtain ⟨c4, j5, c5, g3, c6, j6, c7, g4, rfl, R⟩ := d7
   obtain rfl := aI (i := 0) R z
   obtain rfl := aI (i := 1) R z
   refine ⟨St w o [_, _, _, _, _, _, _, _, _, _, _, _, _], a.comp [] z z R, (sm [y, y, y, n, y, y, y, n, y] z), ?_⟩
   refine aa [.p, .p, .p] z <| bq (off := 0) [S c4 m.1.e_.length c5, S c6 m.1.d_.length c7] [_, _] (i := 3) z z z z z z cT z z (al z) z z z (sm [y, y, y, n, y, y, y, n, y] z) <| aQ <| wg <| cd <| ax <| CW.weak (C' := St w o [_, _, _, _, _, _, _, _, _, _, _]) ?_ (ss [1, 2, 3, 4, 5, 6, 8, 9, 10, 11, 12] z z)
   exact aW <| aa [.p, .p, .p] z <| ay <| cD (RW.at (a6 (D.2.i_) (D.2.h_) (m.1.e_) (c4) (c5) (g3) (m.1.d_) (c6) (c7) (g4) (J.wrap (q + 1)) (H)) (ss [8, 0, 1, 2, 9, 10] z z) (sb z))
  ·refine bF <| aN <| aR <| aO <| ax <| ak <| sR <| oP z <| bE H fun j7 g5 H => au z xD z z z z (fun c a => gL c g5 (a.carve [0] z z) (rdB [0] z z a g_p0b)) fun j8 c G a d8 => ?_
   obtain ⟨rfl, d9⟩ := d8
   refine ⟨St w o [_, _, _, _, _, _, _], a.comp [0] z z d9, fun _ _ => Y, ?_⟩
   refine nQ <| cI H z (fun H => ?_) (fun H => ?_)
   ·refine sR <| o1 z (rx 0 3 _ z cT z) <| bE H fun s g6 H => au z pk z z z z (fun c a => fb c g6 (a.carve [] z z) (aF (x := (av.mk d f)) (c0 := [S h d.length j]) (c1 := [S k f.length l]) (ap (e := ae eI 3) (r := 4) z c a) (ap (e := ae (ae eI 3) 31) (r := 5) z c a))) fun j9 c G a e0 => ?_
    obtain ⟨X, k0, Z, g7, a2, k2, a3, g8, rfl, a4⟩ := e0
    obtain rfl := aI (i := 0) a4 z
    obtain rfl := aI (i := 1) a4 z
    refine ⟨St w o [_, _, _, _, _, _, _, _, _], a.comp [] z z a4, fun _ _ => Y, ?_⟩
    exact sC 0 [S X s.e_.length Z, S a2 s.d_.length a3] [_, _] 2 z cT z <| nT <| am <| bg (rs := [.cell 4 69]) (vs := [.agg #[S X s.e_.length Z, S a2 s.d_.length a3]]) z ⟨⟨_, [S X s.e_.length Z, S a2 s.d_.length a3], _, _, _, z, cT, (bB (T := 69) 0 (bX (i := 2) z) z), z, z⟩, Y⟩ (fun w' hw' => by
     obtain rfl := ai H
     exact ⟨_, z, X, s.e_.length, Z, g7, a2, s.d_.length, a3, g8, z, hw'.sel [7, 8, 6] z z⟩)
   ·exact ar <| ax <| sR <| o1 z (rx 0 3 _ z cT z) <| sC 0 [S h d.length j, S k f.length l] [_, _] 2 z cT z <| nT <| bg (rs := [.cell 4 69]) (vs := [.agg #[S h d.length j, S k f.length l]]) z ⟨⟨_, [S h d.length j, S k f.length l], _, _, _, z, cT, (bB (T := 69) 0 (bX (i := 2) z) z), z, z⟩, Y⟩ (fun w' hw' => by
     obtain rfl := ai H
     exact ⟨_, z, h, d.length, j, t, k, f.length, l, u, z, hw'.sel [4, 5, 6] z z⟩)
theorem uj (w : World) {m : List Nat} {p0b : List Int} {p0 : ao} {p1 : ab} {b_0 : Nat} {a_p0b : Option Addr} {n_p0b c_p0b : Nat} {a5 : List Value} {r : av × ao} (H : ns p0b p0 p1 = U r) (HS : St w m [b b_0 91 [S a_p0b p0b.length c_p0b, I J p0.i_, I J p0.h_]] w) (g_p0b : (ae e8 5).rd w m p0b [S a_p0b n_p0b c_p0b]) (g1 : (aJ).rd w m p1 a5) :
    Calls Tryz.prog 61 #[O (U ⟨b_0, 0, N⟩), .agg a5.toArray] w (fun en w' => ∃ v, en = .returned v ∧ ∃ (a0 : Option Addr), ∃ (n0 : Nat), ∃ (c0 : Nat), ∃ (F0 : List Nat), ∃ (a1 : Option Addr), ∃ (n1 : Nat), ∃ (c1 : Nat), ∃ (F1 : List Nat), v = .agg #[S a0 n0 c0, S a1 n1 c1] ∧ St w m [W (ae eI 3) F0 r.1.e_ [S a0 n0 c0], W (ae (ae eI 3) 31) F1 r.1.d_ [S a1 n1 c1], b b_0 91 [S a_p0b n_p0b c_p0b, I J r.2.i_, I J r.2.h_]] w') := by
 obtain rfl := fM g_p0b
 obtain ⟨g4, g5, rfl, a6, a7⟩ := aB g1
 obtain ⟨L, M, rfl⟩ := aj a6
 obtain ⟨P, Q, rfl⟩ := aj a7
 unfold ns at H
 refine aH Tryz.func61 z Tryz.ntmps61 z (HS) <| sR <| ob _ z fun X => aA z z z z cT (fun _ => kp) fun x => nR <| oP z <| o1 z (rx 0 1 _ z cg z) <| bE H fun a d8 H => au z Gg z z z z (fun l c => tM l d8 (c.carve [0] z z) (rdB [0] z z c g_p0b) (af (rdB [0] z z c a6) (rdB [0] z z c a7))) fun g6 l w2 c b7 => ?_
 obtain ⟨g, g7, k, o, f, g8, d, s, rfl, F⟩ := b7
 obtain rfl := aI (i := 0) F z
 obtain rfl := aI (i := 1) F z
 refine ⟨St w m [_, _, _, _, _, _], c.comp [0] z z F, fun _ _ => Y, ?_⟩
 refine aA z z z z cT (fun _ => kp) fun A => sC 0 [S g a.1.e_.length k, S f a.1.d_.length d] [_, _] 6 z cT z <| nQ <| ak <| sR <| oP z <| bE H fun a8 d9 H => au z qq z z z z (fun l c => cJ l d9 (c.carve [5] z z) (rdB [5] z z c g_p0b)) fun g9 l w2 c b8 => ?_
 obtain ⟨rfl, b9⟩ := b8
 refine ⟨St w m [_, _, _, _, _, _, _, _], c.comp [5] z z b9, fun _ _ => Y, ?_⟩
 refine nQ <| az <| ak <| CW.weak (C' := St w m [_, _, _, _, _, _]) ?_ (ss [1, 2, 3, 4, 6, 7] z z)
 refine aW <| oPP z <| nQ <| cI H z (fun H => ?_) (fun H => ?_)
 ·refine sR <| aa [.fa 69 0 0 jz] z <| o1 z (r1 0 4 z cq z) <| aa [.lenS 31 3 aP, .p] z <| nQ <| cI H z (fun H => ?_) (fun H => ?_)
  ·refine dj 5 [(0, y), (1, y), (2, y), (3, n), (4, n)] (St w m [b X 27 [S L p1.b_.length M, S P p1.l_.length Q], b x 69 [S N 0 0, S N 0 0], W (ae eI 3) o a.1.e_ [S g a.1.e_.length k], W (ae (ae eI 3) 31) s a.1.d_ [S f a.1.d_.length d], b A 69 [S g a.1.e_.length k, S f a.1.d_.length d], Res.nil]) cj (by kernel_rfl) (bv (aX bn)) (sm [y, y, y, y, y, n] z) <| aa [.fa 69 0 0 jz] z <| bu z (aw z) (r1 0 4 z cq z) <| oP z <| bQ (val := I J) (h1 := fun _ => z) [(-1), 999, 998, 1000, 9223372036854775807] [(0, [I J (-1)]), (1, [I J 999]), (2, [I J 998]), (3, [I J 1000]), (4, [I J 9223372036854775807])] z z z z z aP ty3 z z z ⟨z, z, nl z, z, z, nl z, z, z, nl z, z, z, nl z, z, z, nl z, Y⟩ z z (fun _ => (sm [y, y, y, y, y, n] z)) fun h0 => bE H fun h2 e0 H => au z jY z z z z (fun l c => bb l e0 (c.carve [5] z z) (rdB [5] z z c g_p0b) (rdO 6 [5] z c z z)) fun h3 l w2 c c2 => ?_
   obtain ⟨rfl, c3⟩ := c2
   refine ⟨St w m [_, _, _, _, _, _, _, _], c.comp [5] z z c3, (sm [y, y, y, y, y, n] z), ?_⟩
   exact aQ <| kd <| bE H fun h4 a9 H => bo (e := eI) (xs := a.1.e_) (j := 0) z z z z z aP ty3 z (ap (e := ae eI 3) (r := 2) z) a9 (by rw [Nat.mul_one]) <| jN (i := 2) (j := 0) z z z z z z ty3 z a9 (fun _ => z) kp <| ay <| cd <| ax <| sR <| o1 z (rx 0 4 _ z cT z) <| sC 0 [S g a.1.e_.length k, S f a.1.d_.length d] [_, _] 1 z cT z <| nT <| bg (rs := [.cell 4 69]) (vs := [.agg #[S g a.1.e_.length k, S f a.1.d_.length d]]) z ⟨⟨_, [S g a.1.e_.length k, S f a.1.d_.length d], _, _, _, z, cT, (bB (T := 69) 0 (bX (i := 1) z) z), z, z⟩, Y⟩ (fun w' hw' => by
    obtain rfl := ai H
    exact ⟨_, z, g, a.1.e_.length, k, o, f, a.1.d_.length, d, s, z, hw'.sel [2, 3, 7] z z⟩)
  ·exact ar <| cd <| ax <| sR <| o1 z (rx 0 4 _ z cT z) <| sC 0 [S g a.1.e_.length k, S f a.1.d_.length d] [_, _] 1 z cT z <| nT <| bg (rs := [.cell 4 69]) (vs := [.agg #[S g a.1.e_.length k, S f a.1.d_.length d]]) z ⟨⟨_, [S g a.1.e_.length k, S f a.1.d_.length d], _, _, _, z, cT, (bB (T := 69) 0 (bX (i := 1) z) z), z, z⟩, Y⟩ (fun w' hw' => by
    obtain rfl := ai H
    exact ⟨_, z, g, a.1.e_.length, k, o, f, a.1.d_.length, d, s, z, hw'.sel [2, 3, 5] z z⟩)
 ·refine sR <| oPP z <| nQ <| cI H z (fun H => ?_) (fun H => ?_)
  ·exact aW <| aa [.fa 69 0 0 jz] z <| o1 z (r1 0 4 z cq z) <| bQ (val := I J) (h1 := fun _ => z) [0] [(0, [I J 0])] z z z z z aP ty3 z z z ⟨z, z, nl z, Y⟩ z z (fun _ => kp) fun h5 => bE H fun C b0 H => cm (r := 2) (ys := ([0] : List Int)) z z z z z z aP ty3 z z z (ap (e := ae eI 3) (r := 6) z) b0 (fun _ _ _ => kp) fun D E e1 => ct z (fun l c => fh (i := 2) c z (ff b0)) fun f9 => aa [.fa 69 0 0 jz] z <| sC 0 [S D C.length E] [_, _] 4 z cq z <| ay <| cd <| ax <| sR <| o1 z (rx 0 4 _ z cT z) <| sC 0 [S D C.length E, S f a.1.d_.length d] [_, _] 1 z cT z <| nT <| bg (rs := [.cell 4 69]) (vs := [.agg #[S D C.length E, S f a.1.d_.length d]]) z ⟨⟨_, [S D C.length E, S f a.1.d_.length d], _, _, _, z, cT, (bB (T := 69) 0 (bX (i := 1) z) z), z, z⟩, Y⟩ (fun w' hw' => by
    obtain rfl := ai H
    exact ⟨_, z, D, C.length, E, e1, f, a.1.d_.length, d, s, z, hw'.sel [2, 3, 5] z z⟩)
  ·refine sR <| oPP z <| nQ <| cI H z (fun H => ?_) (fun H => ?_)
   ·refine sR <| aa [.fa 69 1 1 eE] z <| o1 z (r1 1 4 z kq z) <| aa [.lenS 67 31 iR, .p, .p] z <| bE H fun e2 Z H => aS [(43, B e2), (0, O (U ⟨b_0, 0, N⟩)), (4, O (U ⟨x, 0, N⟩)), (5, O (U ⟨A, 0, N⟩))] 7 ?_ (fun key => OW.sub (R := [(0, O (U ⟨b_0, 0, N⟩)), (4, O (U ⟨x, 0, N⟩)), (5, O (U ⟨A, 0, N⟩)), (36, B (decide ((a.1.d_.length : Int) > 0)))]) ?_ (sb z))
    ·refine nQ <| cI H z (fun H => ?_) (fun H => ?_)
     ·refine bE H fun G b1 H => rt (fun l c => foc (r := 3) c z b1) fun e3 e4 e5 h6 => ku (fun l c => c.1) fun e6 => ?_
      obtain ⟨a2, a3⟩ := e6
      refine CW.weak (C' := St w m [_, _, _, _, _, _, _, _]) ?_ (fun l c => c.2)
      refine yn (fun l c => yb (i := 7) c z) fun b2 b3 => ku (fun l c => c.1) fun e7 => ?_
      subst e7
      refine CW.weak (C' := St w m [_, _, _, _, _, _, _, _]) ?_ (fun l c => c.2)
      refine dj 7 [(0, y), (1, y), (2, y), (3, y), (4, y), (5, n), (6, n)] (St w m [b X 27 [S L p1.b_.length M, S P p1.l_.length Q], b x 69 [S N 0 0, S N 0 0], W (ae eI 3) o a.1.e_ [S g a.1.e_.length k], Res.nil, b A 69 [S g a.1.e_.length k, S f a.1.d_.length d], Res.nil, Res.hole (ae eI 3) 31 e3 d a.1.d_ ((0 : Int).toNat) e4 [S b2 G.length b3], W (ae eI 3) e5 G [S b2 G.length b3]]) cj (by kernel_rfl) (bv (aX bn)) (sm [y, y, y, y, y, n, y, y] z) <| aa [.fa 69 1 1 eE] z <| bu z (aw z) (r1 1 4 z kq z) <| gx z z z z z iR cq z (fU (p := 6) z) a3 a2 (cL b1).1 <| bu z (aw z) (ow 6 0 z z z cq (by first | rfl | simp only [dm, dB, dd]) z) <| oP z <| bQ (val := I J) (h1 := fun _ => z) [(-1), 500, 1000] [(0, [I J (-1)]), (1, [I J 500]), (2, [I J 1000])] z z z z z aP ty3 z z z ⟨z, z, nl z, z, z, nl z, z, z, nl z, Y⟩ z z (fun _ => (sm [y, y, y, y, y, n, y, y] z)) fun h7 => bE H fun h8 e9 H => au z jY z z z z (fun l c => bb l e9 (c.carve [5] z z) (rdB [5] z z c g_p0b) (rdO 8 [5] z c z z)) fun h9 l w2 c c4 => ?_
      obtain ⟨rfl, c5⟩ := c4
      refine ⟨St w m [_, _, _, _, _, _, _, _, _, _], c.comp [5] z z c5, (sm [y, y, y, y, y, n, y, y] z), ?_⟩
      refine aQ <| kd <| bE H fun i0 b4 H => bo (e := eI) (xs := G) (j := 0) z z z z z aP ty3 z (ap (e := ae eI 3) (r := 7) z) b4 (by rw [Nat.mul_one]) <| jN (i := 7) (j := 0) z z z z z z ty3 z b4 (fun _ => z) kp <| ay <| cd <| ax <| ak <| CW.weak (C' := St w m [_, _, _, _, _, _, _, _]) ?_ (ss [0, 1, 2, 4, 6, 7, 8, 9] z z)
      exact aW <| o1 z (rx 0 3 _ z cT z) <| sC 0 [S g a.1.e_.length k, S f a.1.d_.length d] [_, _] 1 z cT z <| nT <| gO (fun l c => unf (p := 4) (q := 5) c z z z a3 a2) fun f0 => fq (C' := St w m [_, _, _, _, _, _, _, _, _]) (fun _ h => h) <| bg (rs := [.cell 4 69]) (vs := [.agg #[S g a.1.e_.length k, S f a.1.d_.length d]]) z ⟨⟨_, [S g a.1.e_.length k, S f a.1.d_.length d], _, _, _, z, cT, (bB (T := 69) 0 (bX (i := 1) z) z), z, z⟩, Y⟩ (fun w' hw' => by
       obtain rfl := ai H
       exact ⟨_, z, g, a.1.e_.length, k, o, f, a.1.d_.length, d, f0, z, hw'.sel [2, 8, 7] z z⟩)
     ·exact ar <| cd <| ax <| sR <| o1 z (rx 0 4 _ z cT z) <| sC 0 [S g a.1.e_.length k, S f a.1.d_.length d] [_, _] 1 z cT z <| nT <| bg (rs := [.cell 4 69]) (vs := [.agg #[S g a.1.e_.length k, S f a.1.d_.length d]]) z ⟨⟨_, [S g a.1.e_.length k, S f a.1.d_.length d], _, _, _, z, cT, (bB (T := 69) 0 (bX (i := 1) z) z), z, z⟩, Y⟩ (fun w' hw' => by
       obtain rfl := ai H
       exact ⟨_, z, g, a.1.e_.length, k, o, f, a.1.d_.length, d, s, z, hw'.sel [2, 3, 5] z z⟩)
    ·clear H
     have H := Z
     clear Z
     generalize (decide ((a.1.d_.length : Int) > 0)) = f1 at H key ⊢
     cases f1
     ·have H := ba z H
      refine aa [.p, .p, .p, .p, .p, .p, .p] z ?_
      obtain rfl := ai H
      exact OW.sub key (sb z)
     ·have H := aZ z H
      refine aa [.fa 69 1 1 eE] z <| o1 z (r1 1 4 z kq z) <| bE H fun i1 b5 H => bo (e := ae eI 3) (xs := a.1.d_) (j := 0) z z z z z iR cq z (fun l c => ap (e := ae (ae eI 3) 31) (r := 3) z l c) b5 z <| DL z z z z cq (fun l c => ap (e := ae (ae eI 3) 31) (r := 3) z l c) b5 z fun i2 i3 => aa [.lenS 31 3 aP, .p] z <| oP z <| ?_
      obtain rfl := ai H
      exact OW.sub key (sb z)
   ·refine sR <| oPP z <| nQ <| cI H z (fun H => ?_) (fun H => ?_)
    ·refine sR <| aa [.fa 69 1 1 eE] z <| o1 z (r1 1 4 z kq z) <| aa [.lenS 67 31 iR, .p] z <| nQ <| cI H z (fun H => ?_) (fun H => ?_)
     ·refine bE H fun f2 a4 H => rt (fun l c => foc (r := 3) c z a4) fun f3 f4 i4 g0 => ku (fun l c => c.1) fun f5 => ?_
      obtain ⟨t, u⟩ := f5
      refine CW.weak (C' := St w m [_, _, _, _, _, _, _, _]) ?_ (fun l c => c.2)
      refine yn (fun l c => yb (i := 7) c z) fun c6 c7 => ku (fun l c => c.1) fun c8 => ?_
      subst c8
      refine CW.weak (C' := St w m [_, _, _, _, _, _, _, _]) ?_ (fun l c => c.2)
      exact dj 8 [(0, y), (1, y), (2, y), (3, y), (4, y), (5, y), (6, n), (7, n)] (St w m [b X 27 [S L p1.b_.length M, S P p1.l_.length Q], b x 69 [S N 0 0, S N 0 0], W (ae eI 3) o a.1.e_ [S g a.1.e_.length k], Res.nil, b A 69 [S g a.1.e_.length k, S f a.1.d_.length d], b b_0 91 [S a_p0b p0b.length c_p0b, I J a8.2.i_, I J a8.2.h_], Res.hole (ae eI 3) 31 f3 d a.1.d_ ((0 : Int).toNat) f4 [S c6 f2.length c7], Res.nil]) cj (by kernel_rfl) (bv (aX bn)) (sm [y, y, y, y, y, y, y, n] z) <| aa [.fa 69 1 1 eE] z <| bu z (aw z) (r1 1 4 z kq z) <| aa [.fa 69 1 1 eE] z <| bu z (aw z) (r1 1 4 z kq z) <| gx z z z z z iR cq z (fU (p := 6) z) u t (cL a4).1 <| bu z (aw z) (ow 6 0 z z z cq (by first | rfl | simp only [dm, dB, dd]) z) <| bQ (val := I J) (h1 := fun _ => z) [0] [(0, [I J 0])] z z z z z aP ty3 z z z ⟨z, z, nl z, Y⟩ z z (fun _ => (sm [y, y, y, y, y, y, y, n] z)) fun g2 => bE H fun c9 d0 H => cm (r := 7) (ys := ([0] : List Int)) z z z z z z aP ty3 z z z (ap (e := ae eI 3) (r := 8) z) d0 (fun _ _ _ => (sm [y, y, y, y, y, y, y, n] z)) fun d1 d2 g3 => aQ <| kd <| gx z z z z z iR cq z (fU (p := 6) z) u t (cL a4).1 <| gr (off := 0) [S d1 c9.length d2] (p := 6) (c' := [_]) z z z z z (by first | rfl | simp only [dm, dB, dd]) z cq z z (al z) z z z kp <| ay <| cd <| ax <| sR <| o1 z (rx 0 4 _ z cT z) <| sC 0 [S g a.1.e_.length k, S f a.1.d_.length d] [_, _] 1 z cT z <| nT <| gO (fun l c => unf (p := 6) (q := 7) c z z z u t) fun d3 => fq (C' := St w m [_, _, _, _, _, _, _, _, _, _]) (fun _ h => h) <| bg (rs := [.cell 4 69]) (vs := [.agg #[S g a.1.e_.length k, S f a.1.d_.length d]]) z ⟨⟨_, [S g a.1.e_.length k, S f a.1.d_.length d], _, _, _, z, cT, (bB (T := 69) 0 (bX (i := 1) z) z), z, z⟩, Y⟩ (fun w' hw' => by
       obtain rfl := ai H
       exact ⟨_, z, g, a.1.e_.length, k, o, f, a.1.d_.length, d, d3, z, hw'.sel [2, 9, 5] z z⟩)
     ·exact ar <| cd <| ax <| sR <| o1 z (rx 0 4 _ z cT z) <| sC 0 [S g a.1.e_.length k, S f a.1.d_.length d] [_, _] 1 z cT z <| nT <| bg (rs := [.cell 4 69]) (vs := [.agg #[S g a.1.e_.length k, S f a.1.d_.length d]]) z ⟨⟨_, [S g a.1.e_.length k, S f a.1.d_.length d], _, _, _, z, cT, (bB (T := 69) 0 (bX (i := 1) z) z), z, z⟩, Y⟩ (fun w' hw' => by
       obtain rfl := ai H
       exact ⟨_, z, g, a.1.e_.length, k, o, f, a.1.d_.length, d, s, z, hw'.sel [2, 3, 5] z z⟩)
    ·exact ar <| cd <| ax <| sR <| o1 z (rx 0 4 _ z cT z) <| sC 0 [S g a.1.e_.length k, S f a.1.d_.length d] [_, _] 1 z cT z <| nT <| bg (rs := [.cell 4 69]) (vs := [.agg #[S g a.1.e_.length k, S f a.1.d_.length d]]) z ⟨⟨_, [S g a.1.e_.length k, S f a.1.d_.length d], _, _, _, z, cT, (bB (T := 69) 0 (bX (i := 1) z) z), z, z⟩, Y⟩ (fun w' hw' => by
      obtain rfl := ai H
      exact ⟨_, z, g, a.1.e_.length, k, o, f, a.1.d_.length, d, s, z, hw'.sel [2, 3, 5] z z⟩)
theorem tL (w : World) {j : List Nat} {p0b : List Int} {p0 : ao} {p1 : ab} {b_0 : Nat} {a_p0b : Option Addr} {n_p0b c_p0b : Nat} {g3 : List Value} {r : ah × ao} (H : mE p0b p0 p1 = U r) (HS : St w j [b b_0 91 [S a_p0b p0b.length c_p0b, I J p0.i_, I J p0.h_]] w) (g_p0b : (ae e8 5).rd w j p0b [S a_p0b n_p0b c_p0b]) (g1 : (aJ).rd w j p1 g3) :
    Calls Tryz.prog 26 #[O (U ⟨b_0, 0, N⟩), .agg g3.toArray] w (fun en w' => ∃ v, en = .returned v ∧ ∃ (a0 : Option Addr), ∃ (n0 : Nat), ∃ (c0 : Nat), ∃ (F0 : List Nat), v = .agg #[S a0 n0 c0, I J r.1.k_] ∧ St w j [W (ae (aC) 71) F0 r.1.a_ [S a0 n0 c0], b b_0 91 [S a_p0b n_p0b c_p0b, I J r.2.i_, I J r.2.h_]] w') := by
 obtain rfl := fM g_p0b
 obtain ⟨F6, F7, rfl, a7, a8⟩ := aB g1
 obtain ⟨A, C, rfl⟩ := aj a7
 obtain ⟨D, E, rfl⟩ := aj a8
 unfold mE at H
 refine aH Tryz.func26 z Tryz.ntmps26 z (HS) <| sR <| ob _ z fun F => aA z z z z bx (fun _ => kp) fun G => nR <| oP z <| o1 z (rx 0 1 _ z cg z) <| bE H fun c n5 H => au z Gz z z z z (fun f a => sy f n5 (a.carve [0] z z) (rdB [0] z z a g_p0b) (af (rdB [0] z z a a7) (rdB [0] z z a a8))) fun F8 f P a g8 => ?_
 obtain ⟨g, F9, d, m, rfl, c8⟩ := g8
 obtain rfl := aI (i := 0) c8 z
 refine ⟨St w j [_, _, _, _, _], a.comp [0] z z c8, fun _ _ => Y, ?_⟩
 refine aA z z z z bx (fun _ => kp) fun L => sC 0 [S g c.1.a_.length d, I J c.1.k_] [_, _] 5 z bx z <| nQ <| ak <| sR <| aa [.fa 30 0 0 cc] z <| o1 z (r1 0 5 z eC z) <| aa [.lenS 28 71 dX, .p] z <| nQ <| cI H z (fun H => ?_) (fun H => ?_)
 ·exact sR <| o1 z (rx 0 5 _ z bx z) <| sC 0 [S g c.1.a_.length d, I J c.1.k_] [_, _] 2 z bx z <| nT <| am <| bg (rs := [.cell 4 30]) (vs := [.agg #[S g c.1.a_.length d, I J c.1.k_]]) z ⟨⟨_, [S g c.1.a_.length d, I J c.1.k_], _, _, _, z, bx, (bB (T := 30) 0 (bX (i := 2) z) z), z, z⟩, Y⟩ (fun w' hw' => by
   obtain rfl := ai H
   exact ⟨_, z, g, c.1.a_.length, d, m, z, hw'.sel [3, 4] z z⟩)
 ·refine ar <| ax <| sR <| aa [.p, .fa 30 0 0 cc] z <| o1 z (r1 0 5 z eC z) <| aa [.lenS 28 71 dX] z <| bE H fun Q n6 H => au z qq z z z z (fun f a => cJ f n6 (a.carve [4] z z) (rdB [4] z z a g_p0b)) fun G0 f P a g9 => ?_
  obtain ⟨rfl, h0⟩ := g9
  refine ⟨St w j [_, _, _, _, _, _, _], a.comp [4] z z h0, fun _ _ => Y, ?_⟩
  refine oP z <| nQ <| ak <| ak <| CW.weak (C' := St w j [_, _, _, _, _]) ?_ (ss [1, 2, 3, 5, 6] z z)
  refine aW <| oP z <| bE H fun G1 n7 H => au z qq z z z z (fun f a => cJ f n7 (a.carve [4] z z) (rdB [4] z z a g_p0b)) fun G2 f P a h2 => ?_
  obtain ⟨rfl, h3⟩ := h2
  refine ⟨St w j [_, _, _, _, _, _], a.comp [4] z z h3, fun _ _ => Y, ?_⟩
  refine nQ <| az <| sR <| oPP z <| nQ <| cI H z (fun H => ?_) (fun H => ?_)
  ·refine aW <| oP z <| bQ (val := I J) (h1 := fun _ => z) [(-1), 0, 99999, 100000] [(0, [I J (-1)]), (1, [I J 0]), (2, [I J 99999]), (3, [I J 100000])] z z z z z aP ty3 z z z ⟨z, z, nl z, z, z, nl z, z, z, nl z, z, z, nl z, Y⟩ z z (fun _ => kp) fun G3 => bE H fun b2 n8 H => au z jY z z z z (fun f a => bb f n8 (a.carve [5] z z) (rdB [5] z z a g_p0b) (rdO 6 [5] z a z z)) fun G4 f P a h4 => ?_
   obtain ⟨rfl, h5⟩ := h4
   refine ⟨St w j [_, _, _, _, _, _, _, _], a.comp [5] z z h5, fun _ _ => Y, ?_⟩
   refine aa [.fa 30 1 1 nt] z <| sC 1 [I J b2.1] [_, _] 3 z ty3 z <| ay <| cd <| ax <| ak <| CW.weak (C' := St w j [_, _, _, _, _, _]) ?_ (ss [0, 1, 2, 3, 6, 7] z z)
   exact aW <| o1 z (rx 0 3 _ z bx z) <| sC 0 [S g c.1.a_.length d, I J b2.1] [_, _] 1 z bx z <| nT <| bg (rs := [.cell 4 30]) (vs := [.agg #[S g c.1.a_.length d, I J b2.1]]) z ⟨⟨_, [S g c.1.a_.length d, I J b2.1], _, _, _, z, bx, (bB (T := 30) 0 (bX (i := 1) z) z), z, z⟩, Y⟩ (fun w' hw' => by
    obtain rfl := ai H
    exact ⟨_, z, g, c.1.a_.length, d, m, z, hw'.sel [2, 5] z z⟩)
  ·refine sR <| oPP z <| nQ <| cI H z (fun H => ?_) (fun H => ?_)
   ·refine dj 5 [(0, y), (1, y), (2, y), (3, y), (4, n)] (St w j [b F 27 [S A p1.b_.length C, S D p1.l_.length E], b G 30 [S N 0 0, I J 0], W (ae (aC) 71) m c.1.a_ [S g c.1.a_.length d], b L 30 [S g c.1.a_.length d, I J c.1.k_], Res.nil, Res.nil]) cj (by kernel_rfl) (bv (aX bn)) (sm [y, y, y, y, y, n] z) <| aa [.fa 30 0 0 cc] z <| bu z (aw z) (r1 0 3 z eC z) <| oPP z <| bE H fun g4 n9 H => au z qq z z z z (fun f a => cJ f n9 (a.carve [5] z z) (rdB [5] z z a g_p0b)) fun G5 f P a h6 => ?_
    obtain ⟨rfl, h7⟩ := h6
    refine ⟨St w j [_, _, _, _, _, _, _], a.comp [5] z z h7, (sm [y, y, y, y, y, n] z), ?_⟩
    refine aQ <| kd <| bE H fun R g5 H => oM z (fun f a => foc (r := 2) a z g5) fun G6 G7 G8 G9 => ct z (fun f a => a.1) fun o0 => ?_
    obtain ⟨c9, d0⟩ := o0
    refine fp (C' := St w j [_, _, _, _, _, _, _, _, _]) z (fun f a => a.2) <| dU z (fun f a => dN (i := 8) a z) fun H0 H1 H2 => dU z (fun _ h => h) fun H3 H4 H5 => dU z (fun _ h => h) fun H6 H7 H8 => dU z (fun _ h => h) fun H9 I0 I1 => ct z (fun f a => a.1) fun o2 => ?_
    subst o2
    refine fp (C' := St w j [_, _, _, _, _, _, _, _, _, _, _, _, _]) z (fun f a => a.2) <| gx z z z z z dX ca z (fU (p := 7) z) d0 c9 (cL g5).1 <| aa [.fa 71 7 9 lE] z <| gr (off := 9) [I J g4.1] (p := 7) (c' := [_, _, _, _, _, _, _, _, _, _, _, _]) z z z z z (by first | rfl | simp only [dm, dB, dd]) z ty3 z z (al z) z z z kp <| ay <| cd <| ax <| ak <| CW.weak (C' := St w j [_, _, _, _, _, _, _, _, _]) ?_ (ss [0, 1, 3, 6, 7, 9, 10, 11, 12] z z)
    exact aW <| o1 z (rx 0 2 _ z bx z) <| sC 0 [S g c.1.a_.length d, I J c.1.k_] [_, _] 1 z bx z <| nT <| gO (fun f a => cE (x0 := R.q_) (x1 := R.g_.j_) (x2 := R.g_.c_) (x4 := R.w_) (x7 := R.x_) (x9 := g4.1) (x10 := R.p_) (x11 := R.s_) [5, 6, 7, 8] a z z) fun I2 => fq (C' := St w j [_, _, _, _, _, _, _, _, _, _]) (fun _ h => h) <| gO (fun f a => unf (p := 4) (q := 9) a z z z d0 c9) fun o3 => fq (C' := St w j [_, _, _, _, _, _, _, _, _, _, _]) (fun _ h => h) <| bg (rs := [.cell 4 30]) (vs := [.agg #[S g c.1.a_.length d, I J c.1.k_]]) z ⟨⟨_, [S g c.1.a_.length d, I J c.1.k_], _, _, _, z, bx, (bB (T := 30) 0 (bX (i := 1) z) z), z, z⟩, Y⟩ (fun w' hw' => by
     obtain rfl := ai H
     exact ⟨_, z, g, c.1.a_.length, d, o3, z, hw'.sel [10, 3] z z⟩)
   ·refine sR <| oPP z <| nQ <| cI H z (fun H => ?_) (fun H => ?_)
    ·refine dj 7 [(0, y), (1, y), (2, y), (3, y), (4, y), (5, n), (6, n)] (St w j [b F 27 [S A p1.b_.length C, S D p1.l_.length E], b G 30 [S N 0 0, I J 0], W (ae (aC) 71) m c.1.a_ [S g c.1.a_.length d], b L 30 [S g c.1.a_.length d, I J c.1.k_], Res.nil, Res.nil]) cj (by kernel_rfl) (bv (aX bn)) (sm [y, y, y, y, y, n] z) <| aa [.fa 30 0 0 cc] z <| bu z (aw z) (r1 0 3 z eC z) <| aa [.p, .p, .p] z <| bQ (val := I J) (h1 := fun _ => z) [(-1), 0, 1, Q.1, 9223372036854775807] [(0, [I J (-1)]), (1, [I J 0]), (2, [I J 1]), (3, [I J Q.1]), (4, [I J 9223372036854775807])] z z z z z aP ty3 z z z ⟨z, z, nl z, z, z, nl z, z, z, nl z, z, z, nl z, z, z, nl z, Y⟩ z z (fun _ => (sm [y, y, y, y, y, n] z)) fun I3 => bE H fun g6 o4 H => au z jY z z z z (fun f a => bb f o4 (a.carve [5] z z) (rdB [5] z z a g_p0b) (rdO 6 [5] z a z z)) fun I4 f P a h8 => ?_
     obtain ⟨rfl, h9⟩ := h8
     refine ⟨St w j [_, _, _, _, _, _, _, _], a.comp [5] z z h9, (sm [y, y, y, y, y, n] z), ?_⟩
     refine aQ <| kd <| bE H fun X g7 H => oM z (fun f a => foc (r := 2) a z g7) fun I5 I6 I7 I8 => ct z (fun f a => a.1) fun o5 => ?_
     obtain ⟨d1, b3⟩ := o5
     refine fp (C' := St w j [_, _, _, _, _, _, _, _, _, _]) z (fun f a => a.2) <| dU z (fun f a => dN (i := 9) a z) fun o8 o9 p2 => dU z (fun _ h => h) fun p3 p4 p5 => dU z (fun _ h => h) fun p6 p7 p8 => dU z (fun _ h => h) fun p9 q0 q2 => ct z (fun f a => a.1) fun i0 => ?_
     subst i0
     refine fp (C' := St w j [_, _, _, _, _, _, _, _, _, _, _, _, _, _]) z (fun f a => a.2) <| gx z z z z z dX ca z (fU (p := 8) z) b3 d1 (cL g7).1 <| aa [.fa 71 8 10 nz] z <| gr (off := 10) [I J g6.1] (p := 8) (c' := [_, _, _, _, _, _, _, _, _, _, _, _]) z z z z z (by first | rfl | simp only [dm, dB, dd]) z ty3 z z (al z) z z z kp <| ay <| cd <| ax <| ak <| CW.weak (C' := St w j [_, _, _, _, _, _, _, _, _, _]) ?_ (ss [0, 1, 3, 6, 7, 8, 10, 11, 12, 13] z z)
     exact aW <| o1 z (rx 0 2 _ z bx z) <| sC 0 [S g c.1.a_.length d, I J c.1.k_] [_, _] 1 z bx z <| nT <| gO (fun f a => cE (x0 := X.q_) (x1 := X.g_.j_) (x2 := X.g_.c_) (x4 := X.w_) (x7 := X.x_) (x9 := X.m_) (x10 := g6.1) (x11 := X.s_) [6, 7, 8, 9] a z z) fun q3 => fq (C' := St w j [_, _, _, _, _, _, _, _, _, _, _]) (fun _ h => h) <| gO (fun f a => unf (p := 5) (q := 10) a z z z b3 d1) fun i1 => fq (C' := St w j [_, _, _, _, _, _, _, _, _, _, _, _]) (fun _ h => h) <| bg (rs := [.cell 4 30]) (vs := [.agg #[S g c.1.a_.length d, I J c.1.k_]]) z ⟨⟨_, [S g c.1.a_.length d, I J c.1.k_], _, _, _, z, bx, (bB (T := 30) 0 (bX (i := 1) z) z), z, z⟩, Y⟩ (fun w' hw' => by
      obtain rfl := ai H
      exact ⟨_, z, g, c.1.a_.length, d, i1, z, hw'.sel [11, 4] z z⟩)
    ·refine sR <| oPP z <| nQ <| cI H z (fun H => ?_) (fun H => ?_)
     ·refine bE H fun k a9 H => rt (fun f a => foc (r := 2) a z a9) fun i2 i3 q4 q5 => ku (fun f a => a.1) fun i4 => ?_
      obtain ⟨a1, a2⟩ := i4
      refine CW.weak (C' := St w j [_, _, _, _, _, _, _, _]) ?_ (fun f a => a.2)
      refine mM (fun f a => dN (i := 7) a z) fun i5 i6 q6 => mM (fun _ h => h) fun d2 d3 i7 => mM (fun _ h => h) fun d4 d5 i8 => mM (fun _ h => h) fun d6 d7 i9 => ku (fun f a => a.1) fun j0 => ?_
      subst j0
      refine CW.weak (C' := St w j [_, _, _, _, _, _, _, _, _, _, _, _]) ?_ (fun f a => a.2)
      refine dj 17 [(0, y), (1, y), (2, y), (3, y), (4, y), (5, y), (6, y), (7, y), (8, y), (9, y), (10, y), (11, y), (12, y), (13, n), (14, n), (15, n), (16, n)] (St w j [b F 27 [S A p1.b_.length C, S D p1.l_.length E], b G 30 [S N 0 0, I J 0], Res.nil, b L 30 [S g c.1.a_.length d, I J c.1.k_], Res.nil, Res.nil, Res.hole (aC) 71 i2 d c.1.a_ Q.1.toNat i3 [B k.q_, I J k.g_.j_, I J k.g_.c_, S i5 k.r_.length i6, I J k.w_, S d2 k.n_.e_.length d3, S d4 k.n_.d_.length d5, I J k.x_, S d6 k.b_.length d7, I J k.m_, I J k.p_, I J k.s_], Res.nil, Res.nil, W (ae eI 3) i7 k.n_.e_ [S d2 k.n_.e_.length d3], W (ae (ae eI 3) 31) i8 k.n_.d_ [S d4 k.n_.d_.length d5], W (ae eI 3) i9 k.b_ [S d6 k.b_.length d7]]) cj (by kernel_rfl) (bv (aX bn)) (sm [y, y, y, y, y, n, y, y, n, y, y, y] z) <| aa [.fa 30 0 0 cc] z <| bu z (aw z) (r1 0 3 z eC z) <| aa [.p, .fa 30 0 0 cc] z <| bu z (aw z) (r1 0 3 z eC z) <| oP z <| gx z z z z z dX ca z (fU (p := 6) z) a2 a1 (cL a9).1 <| aa [.fa 71 2 3 ik] z <| bu z (aw z) (ow 6 3 z z z cq (by first | rfl | simp only [dm, dB, dd]) z) <| aa [.p, .p, .p, .p] z <| bQ (val := I J) (h1 := fun _ => z) [(-1), Q.1, J.wrap (Q.1 + 1), 40] [(0, [I J (-1)]), (1, [I J Q.1]), (2, [I J (J.wrap (Q.1 + 1))]), (3, [I J 40])] z z z z z aP ty3 z z z ⟨z, z, nl z, z, z, nl z, z, z, nl z, z, z, nl z, Y⟩ z z (fun _ => (sm [y, y, y, y, y, n, y, y, n, y, y, y] z)) fun q7 => bE H fun b0 j1 H => au z jY z z z z (fun f a => bb f j1 (a.carve [5] z z) (rdB [5] z z a g_p0b) (rdO 12 [5] z a z z)) fun q8 f P a f0 => ?_
      obtain ⟨rfl, f1⟩ := f0
      refine ⟨St w j [_, _, _, _, _, _, _, _, _, _, _, _, _, _], a.comp [5] z z f1, (sm [y, y, y, y, y, n, y, y, n, y, y, y] z), ?_⟩
      refine bQ (val := I J) (h1 := fun _ => z) [b0.1] [(0, [I J b0.1])] z z z z z aP ty3 z z z ⟨z, z, nl z, Y⟩ z z (fun _ => (sm [y, y, y, y, y, n, y, y, n, y, y, y] z)) fun q9 => bE H fun j2 j3 H => cm (r := 8) (ys := ([b0.1] : List Int)) z z z z z z aP ty3 z z z (ap (e := ae eI 3) (r := 14) z) j3 (fun _ _ _ => (sm [y, y, y, y, y, n, y, y, n, y, y, y] z)) fun j4 j5 r0 => aQ <| kd <| gx z z z z z dX ca z (fU (p := 6) z) a2 a1 (cL a9).1 <| aa [.fa 71 2 3 ik] z <| gr (off := 3) [S j4 j2.length j5] (p := 6) (c' := [_, _, _, _, _, _, _, _, _, _, _, _]) z z z z z (by first | rfl | simp only [dm, dB, dd]) z cq z z (al z) z z z kp <| ay <| cd <| ax <| ak <| CW.weak (C' := St w j [_, _, _, _, _, _, _, _, _, _, _]) ?_ (ss [0, 1, 3, 6, 8, 9, 10, 11, 12, 13, 14] z z)
      exact aW <| o1 z (rx 0 2 _ z bx z) <| sC 0 [S g c.1.a_.length d, I J c.1.k_] [_, _] 1 z bx z <| nT <| gO (fun f a => cE (x0 := k.q_) (x1 := k.g_.j_) (x2 := k.g_.c_) (x4 := k.w_) (x7 := k.x_) (x9 := k.m_) (x10 := k.p_) (x11 := k.s_) [4, 5, 6, 7] a z z) fun r2 => fq (C' := St w j [_, _, _, _, _, _, _, _, _, _, _, _]) (fun _ h => h) <| gO (fun f a => unf (p := 3) (q := 11) a z z z a2 a1) fun j6 => fq (C' := St w j [_, _, _, _, _, _, _, _, _, _, _, _, _]) (fun _ h => h) <| bg (rs := [.cell 4 30]) (vs := [.agg #[S g c.1.a_.length d, I J c.1.k_]]) z ⟨⟨_, [S g c.1.a_.length d, I J c.1.k_], _, _, _, z, bx, (bB (T := 30) 0 (bX (i := 1) z) z), z, z⟩, Y⟩ (fun w' hw' => by
       obtain rfl := ai H
       exact ⟨_, z, g, c.1.a_.length, d, j6, z, hw'.sel [12, 9] z z⟩)
     ·refine sR <| oPP z <| nQ <| cI H z (fun H => ?_) (fun H => ?_)
      ·refine dj 6 [(0, y), (1, y), (2, y), (3, y), (4, n), (5, n)] (St w j [b F 27 [S A p1.b_.length C, S D p1.l_.length E], b G 30 [S N 0 0, I J 0], W (ae (aC) 71) m c.1.a_ [S g c.1.a_.length d], b L 30 [S g c.1.a_.length d, I J c.1.k_], Res.nil, Res.nil]) cj (by kernel_rfl) (bv (aX bn)) (sm [y, y, y, y, y, n] z) <| aa [.fa 30 0 0 cc] z <| bu z (aw z) (r1 0 3 z eC z) <| oPP z <| bQ (val := I J) (h1 := fun _ => z) [(-1), 1, 2, 4] [(0, [I J (-1)]), (1, [I J 1]), (2, [I J 2]), (3, [I J 4])] z z z z z aP ty3 z z z ⟨z, z, nl z, z, z, nl z, z, z, nl z, z, z, nl z, Y⟩ z z (fun _ => (sm [y, y, y, y, y, n] z)) fun r3 => bE H fun d8 j7 H => au z jY z z z z (fun f a => bb f j7 (a.carve [5] z z) (rdB [5] z z a g_p0b) (rdO 6 [5] z a z z)) fun r4 f P a f2 => ?_
       obtain ⟨rfl, f3⟩ := f2
       refine ⟨St w j [_, _, _, _, _, _, _, _], a.comp [5] z z f3, (sm [y, y, y, y, y, n] z), ?_⟩
       refine aQ <| kd <| bE H fun t d9 H => oM z (fun f a => foc (r := 2) a z d9) fun r5 r6 r7 r8 => ct z (fun f a => a.1) fun j8 => ?_
       obtain ⟨b4, b5⟩ := j8
       refine fp (C' := St w j [_, _, _, _, _, _, _, _, _, _]) z (fun f a => a.2) <| dU z (fun f a => dN (i := 9) a z) fun r9 s0 s1 => dU z (fun _ h => h) fun s2 s3 s4 => dU z (fun _ h => h) fun s5 s6 s7 => dU z (fun _ h => h) fun s8 s9 t0 => ct z (fun f a => a.1) fun j9 => ?_
       subst j9
       refine fp (C' := St w j [_, _, _, _, _, _, _, _, _, _, _, _, _, _]) z (fun f a => a.2) <| gx z z z z z dX ca z (fU (p := 8) z) b5 b4 (cL d9).1 <| aa [.fa 71 3 4 pR] z <| gr (off := 4) [I J d8.1] (p := 8) (c' := [_, _, _, _, _, _, _, _, _, _, _, _]) z z z z z (by first | rfl | simp only [dm, dB, dd]) z ty3 z z (al z) z z z kp <| ay <| cd <| ax <| ak <| CW.weak (C' := St w j [_, _, _, _, _, _, _, _, _, _]) ?_ (ss [0, 1, 3, 6, 7, 8, 10, 11, 12, 13] z z)
       exact aW <| o1 z (rx 0 2 _ z bx z) <| sC 0 [S g c.1.a_.length d, I J c.1.k_] [_, _] 1 z bx z <| nT <| gO (fun f a => cE (x0 := t.q_) (x1 := t.g_.j_) (x2 := t.g_.c_) (x4 := d8.1) (x7 := t.x_) (x9 := t.m_) (x10 := t.p_) (x11 := t.s_) [6, 7, 8, 9] a z z) fun t1 => fq (C' := St w j [_, _, _, _, _, _, _, _, _, _, _]) (fun _ h => h) <| gO (fun f a => unf (p := 5) (q := 10) a z z z b5 b4) fun k0 => fq (C' := St w j [_, _, _, _, _, _, _, _, _, _, _, _]) (fun _ h => h) <| bg (rs := [.cell 4 30]) (vs := [.agg #[S g c.1.a_.length d, I J c.1.k_]]) z ⟨⟨_, [S g c.1.a_.length d, I J c.1.k_], _, _, _, z, bx, (bB (T := 30) 0 (bX (i := 1) z) z), z, z⟩, Y⟩ (fun w' hw' => by
        obtain rfl := ai H
        exact ⟨_, z, g, c.1.a_.length, d, k0, z, hw'.sel [11, 4] z z⟩)
      ·refine sR <| oPP z <| nQ <| cI H z (fun H => ?_) (fun H => ?_)
       ·refine dj 6 [(0, y), (1, y), (2, y), (3, y), (4, n), (5, n)] (St w j [b F 27 [S A p1.b_.length C, S D p1.l_.length E], b G 30 [S N 0 0, I J 0], W (ae (aC) 71) m c.1.a_ [S g c.1.a_.length d], b L 30 [S g c.1.a_.length d, I J c.1.k_], Res.nil, Res.nil]) cj (by kernel_rfl) (bv (aX bn)) (sm [y, y, y, y, y, n] z) <| aa [.fa 30 0 0 cc] z <| bu z (aw z) (r1 0 3 z eC z) <| oPP z <| bQ (val := I J) (h1 := fun _ => z) [(-1), 1, 900, 9223372036854775807] [(0, [I J (-1)]), (1, [I J 1]), (2, [I J 900]), (3, [I J 9223372036854775807])] z z z z z aP ty3 z z z ⟨z, z, nl z, z, z, nl z, z, z, nl z, z, z, nl z, Y⟩ z z (fun _ => (sm [y, y, y, y, y, n] z)) fun t2 => bE H fun e0 k1 H => au z jY z z z z (fun f a => bb f k1 (a.carve [5] z z) (rdB [5] z z a g_p0b) (rdO 6 [5] z a z z)) fun t3 f P a f4 => ?_
        obtain ⟨rfl, f5⟩ := f4
        refine ⟨St w j [_, _, _, _, _, _, _, _], a.comp [5] z z f5, (sm [y, y, y, y, y, n] z), ?_⟩
        refine aQ <| kd <| bE H fun u e1 H => oM z (fun f a => foc (r := 2) a z e1) fun t4 t5 t6 t7 => ct z (fun f a => a.1) fun k2 => ?_
        obtain ⟨b6, b7⟩ := k2
        refine fp (C' := St w j [_, _, _, _, _, _, _, _, _, _]) z (fun f a => a.2) <| dU z (fun f a => dN (i := 9) a z) fun t8 t9 u0 => dU z (fun _ h => h) fun u1 u2 u3 => dU z (fun _ h => h) fun u4 u5 u6 => dU z (fun _ h => h) fun u7 u8 u9 => ct z (fun f a => a.1) fun k3 => ?_
        subst k3
        refine fp (C' := St w j [_, _, _, _, _, _, _, _, _, _, _, _, _, _]) z (fun f a => a.2) <| gx z z z z z dX ca z (fU (p := 8) z) b7 b6 (cL e1).1 <| aa [.fa 71 5 7 nV] z <| gr (off := 7) [I J e0.1] (p := 8) (c' := [_, _, _, _, _, _, _, _, _, _, _, _]) z z z z z (by first | rfl | simp only [dm, dB, dd]) z ty3 z z (al z) z z z kp <| ay <| cd <| ax <| ak <| CW.weak (C' := St w j [_, _, _, _, _, _, _, _, _, _]) ?_ (ss [0, 1, 3, 6, 7, 8, 10, 11, 12, 13] z z)
        exact aW <| o1 z (rx 0 2 _ z bx z) <| sC 0 [S g c.1.a_.length d, I J c.1.k_] [_, _] 1 z bx z <| nT <| gO (fun f a => cE (x0 := u.q_) (x1 := u.g_.j_) (x2 := u.g_.c_) (x4 := u.w_) (x7 := e0.1) (x9 := u.m_) (x10 := u.p_) (x11 := u.s_) [6, 7, 8, 9] a z z) fun v0 => fq (C' := St w j [_, _, _, _, _, _, _, _, _, _, _]) (fun _ h => h) <| gO (fun f a => unf (p := 5) (q := 10) a z z z b7 b6) fun k4 => fq (C' := St w j [_, _, _, _, _, _, _, _, _, _, _, _]) (fun _ h => h) <| bg (rs := [.cell 4 30]) (vs := [.agg #[S g c.1.a_.length d, I J c.1.k_]]) z ⟨⟨_, [S g c.1.a_.length d, I J c.1.k_], _, _, _, z, bx, (bB (T := 30) 0 (bX (i := 1) z) z), z, z⟩, Y⟩ (fun w' hw' => by
         obtain rfl := ai H
         exact ⟨_, z, g, c.1.a_.length, d, k4, z, hw'.sel [11, 4] z z⟩)
       ·refine sR <| oPP z <| nQ <| cI H z (fun H => ?_) (fun H => ?_)
        ·refine dj 11 [(0, y), (1, y), (2, y), (3, y), (4, y), (5, y), (6, y), (7, y), (8, y), (9, n), (10, n)] (St w j [b F 27 [S A p1.b_.length C, S D p1.l_.length E], b G 30 [S N 0 0, I J 0], W (ae (aC) 71) m c.1.a_ [S g c.1.a_.length d], b L 30 [S g c.1.a_.length d, I J c.1.k_], Res.nil, Res.nil]) cj (by kernel_rfl) (bv (aX bn)) (sm [y, y, y, y, y, n] z) <| aa [.fa 30 0 0 cc] z <| bu z (aw z) (r1 0 3 z eC z) <| aa [.p, .p, .fa 30 1 1 nt] z <| bu z (aw z) (r1 1 3 z ty3 z) <| aa [.fa 30 1 1 nt] z <| bu z (aw z) (r1 1 3 z ty3 z) <| oP z <| bQ (val := I J) (h1 := fun _ => z) [(-1), 0, 1, c.1.k_, J.wrap (c.1.k_ + 1)] [(0, [I J (-1)]), (1, [I J 0]), (2, [I J 1]), (3, [I J c.1.k_]), (4, [I J (J.wrap (c.1.k_ + 1))])] z z z z z aP ty3 z z z ⟨z, z, nl z, z, z, nl z, z, z, nl z, z, z, nl z, z, z, nl z, Y⟩ z z (fun _ => (sm [y, y, y, y, y, n] z)) fun v1 => bE H fun e2 k5 H => au z jY z z z z (fun f a => bb f k5 (a.carve [5] z z) (rdB [5] z z a g_p0b) (rdO 6 [5] z a z z)) fun v2 f P a f6 => ?_
         obtain ⟨rfl, f7⟩ := f6
         refine ⟨St w j [_, _, _, _, _, _, _, _], a.comp [5] z z f7, (sm [y, y, y, y, y, n] z), ?_⟩
         refine aQ <| kd <| bE H fun x e3 H => oM z (fun f a => foc (r := 2) a z e3) fun v3 v4 v5 v6 => ct z (fun f a => a.1) fun k6 => ?_
         obtain ⟨b8, b9⟩ := k6
         refine fp (C' := St w j [_, _, _, _, _, _, _, _, _, _]) z (fun f a => a.2) <| dU z (fun f a => dN (i := 9) a z) fun v7 v8 v9 => dU z (fun _ h => h) fun w0 w3 w4 => dU z (fun _ h => h) fun w5 w6 w7 => dU z (fun _ h => h) fun w8 w9 x3 => ct z (fun f a => a.1) fun k7 => ?_
         subst k7
         refine fp (C' := St w j [_, _, _, _, _, _, _, _, _, _, _, _, _, _]) z (fun f a => a.2) <| gx z z z z z dX ca z (fU (p := 8) z) b9 b8 (cL e3).1 <| aa [.fa 71 9 11 oT] z <| gr (off := 11) [I J e2.1] (p := 8) (c' := [_, _, _, _, _, _, _, _, _, _, _, _]) z z z z z (by first | rfl | simp only [dm, dB, dd]) z ty3 z z (al z) z z z kp <| ay <| cd <| ax <| ak <| CW.weak (C' := St w j [_, _, _, _, _, _, _, _, _, _]) ?_ (ss [0, 1, 3, 6, 7, 8, 10, 11, 12, 13] z z)
         exact aW <| o1 z (rx 0 2 _ z bx z) <| sC 0 [S g c.1.a_.length d, I J c.1.k_] [_, _] 1 z bx z <| nT <| gO (fun f a => cE (x0 := x.q_) (x1 := x.g_.j_) (x2 := x.g_.c_) (x4 := x.w_) (x7 := x.x_) (x9 := x.m_) (x10 := x.p_) (x11 := e2.1) [6, 7, 8, 9] a z z) fun x5 => fq (C' := St w j [_, _, _, _, _, _, _, _, _, _, _]) (fun _ h => h) <| gO (fun f a => unf (p := 5) (q := 10) a z z z b9 b8) fun k8 => fq (C' := St w j [_, _, _, _, _, _, _, _, _, _, _, _]) (fun _ h => h) <| bg (rs := [.cell 4 30]) (vs := [.agg #[S g c.1.a_.length d, I J c.1.k_]]) z ⟨⟨_, [S g c.1.a_.length d, I J c.1.k_], _, _, _, z, bx, (bB (T := 30) 0 (bX (i := 1) z) z), z, z⟩, Y⟩ (fun w' hw' => by
          obtain rfl := ai H
          exact ⟨_, z, g, c.1.a_.length, d, k8, z, hw'.sel [11, 4] z z⟩)
        ·refine sR <| oPP z <| nQ <| cI H z (fun H => ?_) (fun H => ?_)
         ·refine bE H fun l b1 H => rt (fun f a => foc (r := 2) a z b1) fun x6 x8 y0 y1 => ku (fun f a => a.1) fun k9 => ?_
          obtain ⟨a3, a4⟩ := k9
          refine CW.weak (C' := St w j [_, _, _, _, _, _, _, _]) ?_ (fun f a => a.2)
          refine mM (fun f a => dN (i := 7) a z) fun y2 y3 y4 => mM (fun _ h => h) fun y5 y6 y7 => mM (fun _ h => h) fun y8 y9 z0 => mM (fun _ h => h) fun z1 z2 z3 => ku (fun f a => a.1) fun l0 => ?_
          subst l0
          refine CW.weak (C' := St w j [_, _, _, _, _, _, _, _, _, _, _, _]) ?_ (fun f a => a.2)
          refine qA 12 cj (by kernel_rfl) <| aa [.fa 30 0 0 cc] z <| o1 z (r1 0 3 z eC z) <| aa [.p, .fa 30 0 0 cc] z <| o1 z (r1 0 3 z eC z) <| oP z <| gx z z z z z dX ca z (fU (p := 6) z) a4 a3 (cL b1).1 <| aa [.fa 71 0 0 mg] z <| o1 z (ow 6 0 z z z ty4 (by first | rfl | simp only [dm, dB, dd]) z) <| oP z <| gx z z z z z dX ca z (fU (p := 6) z) a4 a3 (cL b1).1 <| aa [.fa 71 0 0 mg] z <| cC <| gr (off := 0) [B (!l.q_)] (p := 6) (c' := [_, _, _, _, _, _, _, _, _, _, _, _]) z z z z z (by first | rfl | simp only [dm, dB, dd]) z ty4 z z (al z) z z z kp <| ay <| cd <| ax <| ak <| CW.weak (C' := St w j [_, _, _, _, _, _, _, _, _]) ?_ (ss [0, 1, 3, 5, 6, 8, 9, 10, 11] z z)
          exact aW <| o1 z (rx 0 2 _ z bx z) <| sC 0 [S g c.1.a_.length d, I J c.1.k_] [_, _] 1 z bx z <| nT <| gO (fun f a => cE (x0 := (!l.q_)) (x1 := l.g_.j_) (x2 := l.g_.c_) (x4 := l.w_) (x7 := l.x_) (x9 := l.m_) (x10 := l.p_) (x11 := l.s_) [5, 6, 7, 8] a z z) fun z4 => fq (C' := St w j [_, _, _, _, _, _, _, _, _, _]) (fun _ h => h) <| gO (fun f a => unf (p := 4) (q := 9) a z z z a4 a3) fun l1 => fq (C' := St w j [_, _, _, _, _, _, _, _, _, _, _]) (fun _ h => h) <| bg (rs := [.cell 4 30]) (vs := [.agg #[S g c.1.a_.length d, I J c.1.k_]]) z ⟨⟨_, [S g c.1.a_.length d, I J c.1.k_], _, _, _, z, bx, (bB (T := 30) 0 (bX (i := 1) z) z), z, z⟩, Y⟩ (fun w' hw' => by
           obtain rfl := ai H
           exact ⟨_, z, g, c.1.a_.length, d, l1, z, hw'.sel [10, 3] z z⟩)
         ·refine sR <| oPP z <| nQ <| cI H z (fun H => ?_) (fun H => ?_)
          ·refine dj 6 [(0, y), (1, y), (2, y), (3, y), (4, y), (5, n)] (St w j [b F 27 [S A p1.b_.length C, S D p1.l_.length E], b G 30 [S N 0 0, I J 0], W (ae (aC) 71) m c.1.a_ [S g c.1.a_.length d], b L 30 [S g c.1.a_.length d, I J c.1.k_], Res.nil, Res.nil]) cj (by kernel_rfl) (bv (aX bn)) (sm [y, y, y, y, y, n] z) <| aa [.fa 30 0 0 cc] z <| bu z (aw z) (r1 0 3 z eC z) <| oPP z <| bu z (aw z) (rx 0 0 _ z cg z) <| bE H fun a5 l2 H => au z Gl z z z z (fun f a => uC f l2 (a.carve [5] z z) (rdB [5] z z a g_p0b) (af (rdB [5] z z a a7) (rdB [5] z z a a8))) fun z5 f P a f8 => ?_
           obtain ⟨rfl, f9⟩ := f8
           refine ⟨St w j [_, _, _, _, _, _, _], a.comp [5] z z f9, (sm [y, y, y, y, y, n] z), ?_⟩
           refine aQ <| kd <| bE H fun M e4 H => oM z (fun f a => foc (r := 2) a z e4) fun z6 z7 z8 z9 => ct z (fun f a => a.1) fun l3 => ?_
           obtain ⟨c1, c2⟩ := l3
           refine fp (C' := St w j [_, _, _, _, _, _, _, _, _]) z (fun f a => a.2) <| dU z (fun f a => dN (i := 8) a z) fun A0 A1 A2 => dU z (fun _ h => h) fun A3 A4 A5 => dU z (fun _ h => h) fun A6 A7 A8 => dU z (fun _ h => h) fun A9 B0 B1 => ct z (fun f a => a.1) fun l4 => ?_
           subst l4
           refine fp (C' := St w j [_, _, _, _, _, _, _, _, _, _, _, _, _]) z (fun f a => a.2) <| gx z z z z z dX ca z (fU (p := 7) z) c2 c1 (cL e4).1 <| aa [.fa 71 1 1 mf] z <| gr (off := 1) [I J a5.1.j_, I J a5.1.c_] (p := 7) (c' := [_, _, _, _, _, _, _, _, _, _, _, _]) z z z z z (by first | rfl | simp only [dm, dB, dd]) z cM z z (al z) z z z kp <| ay <| cd <| ax <| ak <| CW.weak (C' := St w j [_, _, _, _, _, _, _, _, _]) ?_ (ss [0, 1, 3, 6, 7, 9, 10, 11, 12] z z)
           exact aW <| o1 z (rx 0 2 _ z bx z) <| sC 0 [S g c.1.a_.length d, I J c.1.k_] [_, _] 1 z bx z <| nT <| gO (fun f a => cE (x0 := M.q_) (x1 := a5.1.j_) (x2 := a5.1.c_) (x4 := M.w_) (x7 := M.x_) (x9 := M.m_) (x10 := M.p_) (x11 := M.s_) [5, 6, 7, 8] a z z) fun B2 => fq (C' := St w j [_, _, _, _, _, _, _, _, _, _]) (fun _ h => h) <| gO (fun f a => unf (p := 4) (q := 9) a z z z c2 c1) fun l5 => fq (C' := St w j [_, _, _, _, _, _, _, _, _, _, _]) (fun _ h => h) <| bg (rs := [.cell 4 30]) (vs := [.agg #[S g c.1.a_.length d, I J c.1.k_]]) z ⟨⟨_, [S g c.1.a_.length d, I J c.1.k_], _, _, _, z, bx, (bB (T := 30) 0 (bX (i := 1) z) z), z, z⟩, Y⟩ (fun w' hw' => by
            obtain rfl := ai H
            exact ⟨_, z, g, c.1.a_.length, d, l5, z, hw'.sel [10, 3] z z⟩)
          ·refine sR <| oPP z <| nQ <| cI H z (fun H => ?_) (fun H => ?_)
           ·refine dj 6 [(0, y), (1, y), (2, y), (3, y), (4, y), (5, n)] (St w j [b F 27 [S A p1.b_.length C, S D p1.l_.length E], b G 30 [S N 0 0, I J 0], W (ae (aC) 71) m c.1.a_ [S g c.1.a_.length d], b L 30 [S g c.1.a_.length d, I J c.1.k_], Res.nil, Res.nil]) cj (by kernel_rfl) (bv (aX bn)) (sm [y, y, y, y, y, n] z) <| aa [.fa 30 0 0 cc] z <| bu z (aw z) (r1 0 3 z eC z) <| oPP z <| bu z (aw z) (rx 0 0 _ z cg z) <| bE H fun l6 l7 H => au z Gc z z z z (fun f a => tx f l7 (a.carve [5] z z) (rdB [5] z z a g_p0b) (af (rdB [5] z z a a7) (rdB [5] z z a a8))) fun B3 f P a g0 => ?_
            obtain ⟨l8, B4, l9, B5, rfl, c3⟩ := g0
            obtain rfl := aI (i := 0) c3 z
            refine ⟨St w j [_, _, _, _, _, _, _, _], a.comp [5] z z c3, (sm [y, y, y, y, y, n] z), ?_⟩
            refine aQ <| kd <| bE H fun o e5 H => oM z (fun f a => foc (r := 2) a z e5) fun B6 B7 B8 B9 => ct z (fun f a => a.1) fun m0 => ?_
            obtain ⟨c4, c5⟩ := m0
            refine fp (C' := St w j [_, _, _, _, _, _, _, _, _, _]) z (fun f a => a.2) <| dU z (fun f a => dN (i := 9) a z) fun C0 C1 C2 => dU z (fun _ h => h) fun C3 C4 C5 => dU z (fun _ h => h) fun C6 C7 C8 => dU z (fun _ h => h) fun C9 D0 D1 => ct z (fun f a => a.1) fun m1 => ?_
            subst m1
            refine fp (C' := St w j [_, _, _, _, _, _, _, _, _, _, _, _, _, _]) z (fun f a => a.2) <| gx z z z z z dX ca z (fU (p := 8) z) c5 c4 (cL e5).1 <| aa [.fa 71 6 8 qo] z <| gr (off := 8) [S l8 l6.1.length l9] (p := 8) (c' := [_, _, _, _, _, _, _, _, _, _, _, _]) z z z z z (by first | rfl | simp only [dm, dB, dd]) z cq z z (al z) z z z kp <| ay <| cd <| ax <| ak <| CW.weak (C' := St w j [_, _, _, _, _, _, _, _, _, _]) ?_ (ss [0, 1, 3, 6, 7, 8, 10, 11, 12, 13] z z)
            exact aW <| o1 z (rx 0 2 _ z bx z) <| sC 0 [S g c.1.a_.length d, I J c.1.k_] [_, _] 1 z bx z <| nT <| gO (fun f a => cE (x0 := o.q_) (x1 := o.g_.j_) (x2 := o.g_.c_) (x4 := o.w_) (x7 := o.x_) (x9 := o.m_) (x10 := o.p_) (x11 := o.s_) [6, 7, 8, 3] a z z) fun D2 => fq (C' := St w j [_, _, _, _, _, _, _, _, _, _, _]) (fun _ h => h) <| gO (fun f a => unf (p := 5) (q := 10) a z z z c5 c4) fun m2 => fq (C' := St w j [_, _, _, _, _, _, _, _, _, _, _, _]) (fun _ h => h) <| bg (rs := [.cell 4 30]) (vs := [.agg #[S g c.1.a_.length d, I J c.1.k_]]) z ⟨⟨_, [S g c.1.a_.length d, I J c.1.k_], _, _, _, z, bx, (bB (T := 30) 0 (bX (i := 1) z) z), z, z⟩, Y⟩ (fun w' hw' => by
             obtain rfl := ai H
             exact ⟨_, z, g, c.1.a_.length, d, m2, z, hw'.sel [11, 4] z z⟩)
           ·refine sR <| oPP z <| nQ <| cI H z (fun H => ?_) (fun H => ?_)
            ·refine dj 6 [(0, y), (1, y), (2, y), (3, y), (4, y), (5, n)] (St w j [b F 27 [S A p1.b_.length C, S D p1.l_.length E], b G 30 [S N 0 0, I J 0], W (ae (aC) 71) m c.1.a_ [S g c.1.a_.length d], b L 30 [S g c.1.a_.length d, I J c.1.k_], Res.nil, Res.nil]) cj (by kernel_rfl) (bv (aX bn)) (sm [y, y, y, y, y, n] z) <| aa [.fa 30 0 0 cc] z <| bu z (aw z) (r1 0 3 z eC z) <| oPP z <| bu z (aw z) (rx 0 0 _ z cg z) <| bE H fun e6 m3 H => au z Gr z z z z (fun f a => uj f m3 (a.carve [5] z z) (rdB [5] z z a g_p0b) (af (rdB [5] z z a a7) (rdB [5] z z a a8))) fun D3 f P a g2 => ?_
             obtain ⟨m4, D4, m5, D5, m6, D6, m7, D7, rfl, a6⟩ := g2
             obtain rfl := aI (i := 0) a6 z
             obtain rfl := aI (i := 1) a6 z
             refine ⟨St w j [_, _, _, _, _, _, _, _, _], a.comp [5] z z a6, (sm [y, y, y, y, y, n] z), ?_⟩
             refine aQ <| kd <| bE H fun s e7 H => oM z (fun f a => foc (r := 2) a z e7) fun D8 D9 E0 E1 => ct z (fun f a => a.1) fun m8 => ?_
             obtain ⟨c6, c7⟩ := m8
             refine fp (C' := St w j [_, _, _, _, _, _, _, _, _, _, _]) z (fun f a => a.2) <| dU z (fun f a => dN (i := 10) a z) fun E2 E3 E4 => dU z (fun _ h => h) fun E5 E6 E7 => dU z (fun _ h => h) fun E8 E9 F1 => dU z (fun _ h => h) fun F2 F3 F4 => ct z (fun f a => a.1) fun m9 => ?_
             subst m9
             refine fp (C' := St w j [_, _, _, _, _, _, _, _, _, _, _, _, _, _, _]) z (fun f a => a.2) <| gx z z z z z dX ca z (fU (p := 9) z) c7 c6 (cL e7).1 <| aa [.fa 71 4 5 gk] z <| gr (off := 5) [S m4 e6.1.e_.length m5, S m6 e6.1.d_.length m7] (p := 9) (c' := [_, _, _, _, _, _, _, _, _, _, _, _]) z z z z z (by first | rfl | simp only [dm, dB, dd]) z cT z z (al z) z z z kp <| ay <| cd <| ax <| ak <| CW.weak (C' := St w j [_, _, _, _, _, _, _, _, _, _, _]) ?_ (ss [0, 1, 3, 6, 7, 8, 9, 11, 12, 13, 14] z z)
             exact aW <| o1 z (rx 0 2 _ z bx z) <| sC 0 [S g c.1.a_.length d, I J c.1.k_] [_, _] 1 z bx z <| nT <| gO (fun f a => cE (x0 := s.q_) (x1 := s.g_.j_) (x2 := s.g_.c_) (x4 := s.w_) (x7 := s.x_) (x9 := s.m_) (x10 := s.p_) (x11 := s.s_) [7, 3, 4, 10] a z z) fun F5 => fq (C' := St w j [_, _, _, _, _, _, _, _, _, _, _, _]) (fun _ h => h) <| gO (fun f a => unf (p := 6) (q := 11) a z z z c7 c6) fun n1 => fq (C' := St w j [_, _, _, _, _, _, _, _, _, _, _, _, _]) (fun _ h => h) <| bg (rs := [.cell 4 30]) (vs := [.agg #[S g c.1.a_.length d, I J c.1.k_]]) z ⟨⟨_, [S g c.1.a_.length d, I J c.1.k_], _, _, _, z, bx, (bB (T := 30) 0 (bX (i := 1) z) z), z, z⟩, Y⟩ (fun w' hw' => by
              obtain rfl := ai H
              exact ⟨_, z, g, c.1.a_.length, d, n1, z, hw'.sel [12, 5] z z⟩)
            ·refine sR <| oPP z <| nQ <| cI H z (fun H => ?_) (fun H => ?_)
             ·refine aW <| aa [.fa 30 0 0 cc] z <| o1 z (r1 0 3 z eC z) <| aa [.fa 30 0 0 cc] z <| o1 z (r1 0 3 z eC z) <| aa [.lenS 28 71 dX, .p] z <| bE H fun Z e9 H => vX (e := aC) (xs := c.1.a_) z z z z dX ca z z z e9 (fun f a => ap (e := ae (aC) 71) (r := 2) z f a) <| aa [.fa 30 0 0 cc] z <| sX z (fun f a => St.trunc (i := 2) a z e9 z) fun n2 => fp (C' := St w j [_, _, _, _, _, _, _]) z (fun _ h => h) <| sC 0 [S (sk g d (0 : Int).toNat 12) Z.length (d - (0 : Int).toNat)] [_, _] 3 z eC z <| ay <| cd <| ax <| ak <| CW.weak (C' := St w j [_, _, _, _, _]) ?_ (ss [0, 1, 3, 5, 6] z z)
              exact aW <| o1 z (rx 0 2 _ z bx z) <| sC 0 [S (sk g d (0 : Int).toNat 12) Z.length (d - (0 : Int).toNat), I J c.1.k_] [_, _] 1 z bx z <| nT <| bg (rs := [.cell 4 30]) (vs := [.agg #[S (sk g d (0 : Int).toNat 12) Z.length (d - (0 : Int).toNat), I J c.1.k_]]) z ⟨⟨_, [S (sk g d (0 : Int).toNat 12) Z.length (d - (0 : Int).toNat), I J c.1.k_], _, _, _, z, bx, (bB (T := 30) 0 (bX (i := 1) z) z), z, z⟩, Y⟩ (fun w' hw' => by
               obtain rfl := ai H
               exact ⟨_, z, (sk g d (0 : Int).toNat 12), Z.length, (d - (0 : Int).toNat), n2, z, hw'.sel [4, 3] z z⟩)
             ·exact ar <| cd <| ax <| sR <| o1 z (rx 0 3 _ z bx z) <| sC 0 [S g c.1.a_.length d, I J c.1.k_] [_, _] 1 z bx z <| nT <| bg (rs := [.cell 4 30]) (vs := [.agg #[S g c.1.a_.length d, I J c.1.k_]]) z ⟨⟨_, [S g c.1.a_.length d, I J c.1.k_], _, _, _, z, bx, (bB (T := 30) 0 (bX (i := 1) z) z), z, z⟩, Y⟩ (fun w' hw' => by
               obtain rfl := ai H
               exact ⟨_, z, g, c.1.a_.length, d, m, z, hw'.sel [2, 5] z z⟩)
theorem ck (w : World) {p0 : Int} {p1 : Int} {p2 : Int} {r : Bool} (H : bN p0 p1 p2 = U r)   :
    Calls Tryz.prog 39 #[I J p0, I J p1, I J p2] w (fun en w' => en = .returned (B r) ∧ Ext [] w w') := by
 unfold bN at H
 refine aH Tryz.func39 z Tryz.ntmps39 z (St.init w []) <| sR <| oP z <| nR <| aa [.p, .p, .p, .p] z <| aS [(14, B ((decide (p0 ≥ p1)) && (decide (p0 ≤ p2)))), (6, B n)] 4 ?_ (fun key => OW.sub (R := [(0, I J p0), (2, I J p2), (6, B n), (10, B (decide (p0 ≥ p1)))]) ?_ (sb z))
 ·exact oP z <| nT <| xr 6 z (by cases H; exact q1)
 ·generalize (decide (p0 ≥ p1)) = a at key ⊢
  cases a
  ·exact aa [.p, .p, .p, .p] z <| OW.sub key (sb z)
  ·exact aa [.p, .p, .p] z <| oP z <| OW.sub key (sb z)
theorem qg (w : World) {p0 : List UInt8} {r : Bool} (H : lR p0 = U r)   :
    Calls Tryz.prog 106 #[vS p0] w (fun en w' => en = .returned (B r) ∧ Ext [] w w') := by
 unfold lR at H
 refine aH Tryz.func106 z Tryz.ntmps106 z (St.init w []) <| sR <| oP z <| nQ <| ak <| sR <| aa [.p, .lenT 9 st9] z <| bE H fun l f H => oq z (qc z nP (fun k m => ck k f)) tt2 <| oP z <| nQ <| cI H z (fun H => ?_) (fun H => ?_)
 ·exact sR <| oP z <| nT <| am <| xr 2 z (by cases H; exact q1)
 ·refine ar <| ax <| ak <| sR <| aa [.p, .lenT 9 st9, .p] z <| nQ <| az <| CW.at (fG (fun (a : Int) => St w [] []) (fun a => [(0, vS p0), (9, I J (p0.length : Int)), (10, I J a)]) (fun kk => fun a => iL p0 kk a = U r) (fun _ H => ?_) (fun q e a H => ?_) be (0) (H)) (ss [] z z) (sb z)
  ·unfold iL at H
   exact absurd H (by simp)
  ·unfold iL at H
   refine sR <| oP z <| nQ <| ak <| cI H z (fun H => ?_) (fun H => ?_)
   ·refine ar <| ax <| ak <| az <| sR <| oPP z <| nR <| oPP z <| bE H fun d g H => o1 z (tU (s := p0) z z z st9 g) <| oPP z <| bE H fun h c H => aS [(22, B h), (0, vS p0), (9, I J (p0.length : Int)), (10, I J a)] 5 ?_ (fun key => OW.sub (R := [(0, vS p0), (3, I J a), (9, I J (p0.length : Int)), (10, I J a), (17, B (decide ((d.toNat : Int) < 97)))]) ?_ (sb z))
    ·refine nQ <| cI H z (fun H => ?_) (fun H => ?_)
     ·exact sR <| oP z <| nT <| aL <| am <| bU <| aL <| am <| xr 2 z (by cases H; exact q1)
     ·exact ar <| cd <| ax <| aW <| oPP z <| ay <| cD (RW.at (e (J.wrap (a + 1)) (H)) (ss [] z z) (sb z))
    ·clear H
     have H := c
     clear c
     generalize (decide ((d.toNat : Int) < 97)) = i at H key ⊢
     cases i
     ·have H := ba z H
      refine oPP z <| bE H fun o j H => o1 z (tU (s := p0) z z z st9 j) <| oP z <| oP z <| ?_
      obtain rfl := ai H
      exact OW.sub key (sb z)
     ·have H := aZ z H
      refine aa [.p, .p, .p, .p, .p] z ?_
      obtain rfl := ai H
      exact OW.sub key (sb z)
   ·exact bF <| aN <| aR <| aO <| ax <| sR <| oP z <| nT <| xr 2 z (by cases H; exact q1)
theorem li (w : World) {p0 : List (List UInt8)} {p1 : List UInt8} {a_0 : Option Addr} {n_0 c_0 : Nat} {r : Int} (H : ek p0 p1 = U r) (d : (ae (dF) 9).rd w [] p0 [S a_0 n_0 c_0]) :
    Calls Tryz.prog 132 #[S a_0 n_0 c_0, vS p1] w (fun en w' => en = .returned (I J r) ∧ Ext [] w w') := by
 obtain rfl := fM d
 unfold ek at H
 refine aH Tryz.func132 z Tryz.ntmps132 z (St.init w []) <| sR <| oP z <| nQ <| ak <| sR <| aa [.p, .lenS 25 9 go, .p] z <| nQ <| az <| CW.at (fG (fun (a : Int) => St w [] []) (fun a => [(0, S a_0 p0.length c_0), (1, vS p1), (7, I J (p0.length : Int)), (8, I J a)]) (fun kk => fun a => cr p0 p1 kk a = U r) (fun _ H => ?_) (fun h f a H => ?_) be (0) (H)) (ss [] z z) (sb z)
 ·unfold cr at H
  exact absurd H (by simp)
 ·unfold cr at H
  refine sR <| oP z <| nQ <| ak <| cI H z (fun H => ?_) (fun H => ?_)
  ·refine ar <| ax <| ak <| az <| sR <| oPP z <| nR <| aa [.p, .p, .p] z <| bE H fun g c H => bo (e := dF) (xs := p0) (j := a) z z z z z go ty9 z (ad d) c (by rw [Nat.mul_one]) <| o1 z (aD z z ty9 (bD (ad d) c)) <| oP z <| nQ <| cI H z (fun H => ?_) (fun H => ?_)
   ·exact sR <| oPP z <| nT <| aL <| am <| bU <| aL <| am <| xr 4 z (by cases H; exact q1)
   ·exact ar <| cd <| ax <| aW <| oPP z <| ay <| cD (RW.at (f (J.wrap (a + 1)) (H)) (ss [] z z) (sb z))
  ·exact bF <| aN <| aR <| aO <| ax <| sR <| oP z <| nT <| xr 4 z (by cases H; exact q1)
theorem kw (w : World) {p0 : List (List UInt8)} {p1 : List UInt8} {a_0 : Option Addr} {n_0 c_0 : Nat} {r : Bool} (H : dC p0 p1 = U r) (a : (ae (dF) 9).rd w [] p0 [S a_0 n_0 c_0]) :
    Calls Tryz.prog 109 #[S a_0 n_0 c_0, vS p1] w (fun en w' => en = .returned (B r) ∧ Ext [] w w') := by
 obtain rfl := fM a
 unfold dC at H
 exact aH Tryz.func109 z Tryz.ntmps109 z (St.init w []) <| sR <| oP z <| nR <| oPP z <| bE H fun f c H => oq z (qc z FA (fun d e => li d c (ad a d e))) tt2 <| oPP z <| nT <| xr 4 z (by cases H; exact q1)
theorem kr (w : World) {p0 : List (List UInt8)} {a_0 : Option Addr} {n_0 c_0 : Nat} {r : Bool} (H : eL p0 = U r) (f : (ae (dF) 9).rd w [] p0 [S a_0 n_0 c_0]) :
    Calls Tryz.prog 76 #[S a_0 n_0 c_0] w (fun en w' => en = .returned (B r) ∧ Ext [] w w') := by
 obtain rfl := fM f
 unfold eL at H
 refine aH Tryz.func76 z Tryz.ntmps76 z (St.init w []) <| sR <| oP z <| nQ <| ak <| sR <| aa [.p, .lenS 25 9 go, .p] z <| nQ <| az <| CW.at (fG (fun (a : Int) => St w [] []) (fun a => [(0, S a_0 p0.length c_0), (5, S a_0 p0.length c_0), (6, I J (p0.length : Int)), (7, I J a)]) (fun kk => fun a => eD p0 kk a = U r) (fun _ H => ?_) (fun E m a H => ?_) be (0) (H)) (ss [] z z) (sb z)
 ·unfold eD at H
  exact absurd H (by simp)
 ·unfold eD at H
  refine sR <| oP z <| nQ <| ak <| cI H z (fun H => ?_) (fun H => ?_)
  ·refine ar <| ax <| ak <| az <| sR <| oP z <| bE H fun o h H => bo (e := dF) (xs := p0) (j := a) z z z z z go ty9 z (ad f) h (by rw [Nat.mul_one]) <| o1 z (aD z z ty9 (bD (ad f) h)) <| oPP z <| nR <| oP z <| bE H fun i q H => oq z (qc z Dv (fun g k => qg g q)) tt2 <| oPP z <| bE H fun s d H => aS [(21, B s), (0, S a_0 p0.length c_0), (5, S a_0 p0.length c_0), (6, I J (p0.length : Int)), (7, I J a)] 6 ?_ (fun key => OW.sub (R := [(0, S a_0 p0.length c_0), (3, I J a), (4, vS o), (5, S a_0 p0.length c_0), (6, I J (p0.length : Int)), (7, I J a), (15, B (!i))]) ?_ (sb z))
   ·refine nQ <| cI H z (fun H => ?_) (fun H => ?_)
    ·exact sR <| oP z <| nT <| aL <| am <| bU <| aL <| am <| xr 2 z (by cases H; exact q1)
    ·exact ar <| cd <| ax <| aW <| oPP z <| ay <| cD (RW.at (m (J.wrap (a + 1)) (H)) (ss [] z z) (sb z))
   ·clear H
    have H := d
    clear d
    generalize (!i) = t at H key ⊢
    cases t
    ·have H := ba z H
     refine oPP z <| bE H fun l u H => yR z z z z go ty9 z z z u f fun C c => ?_
     obtain ⟨v, x, rfl⟩ := DA c
     have c : (ae (dF) 9).rd w [] l [S v l.length x] := c
     refine oP z <| bE H fun D A H => oq z (qc z EY (fun g k => kw g A (ad c g k))) tt2 <| oP z <| ?_
     obtain rfl := ai H
     exact OW.sub key (sb z)
    ·have H := aZ z H
     refine aa [.p, .p, .p, .p, .p, .p] z ?_
     obtain rfl := ai H
     exact OW.sub key (sb z)
  ·exact bF <| aN <| aR <| aO <| ax <| sR <| oP z <| nT <| xr 2 z (by cases H; exact q1)
theorem mF (w : World) {p0 : List Int} {a_0 : Option Addr} {n_0 c_0 : Nat} {r : Bool} (H : fR p0 = U r) (c : (ae eI 3).rd w [] p0 [S a_0 n_0 c_0]) :
    Calls Tryz.prog 103 #[S a_0 n_0 c_0] w (fun en w' => en = .returned (B r) ∧ Ext [] w w') := by
 obtain rfl := fM c
 unfold fR at H
 refine aH Tryz.func103 z Tryz.ntmps103 z (St.init w []) <| sR <| oP z <| nQ <| ak <| sR <| oP z <| nQ <| az <| CW.at (fG (fun (a : Int) => St w [] []) (fun a => [(0, S a_0 p0.length c_0), (3, I J a)]) (fun kk => fun a => eF p0 kk a = U r) (fun _ H => ?_) (fun k g a H => ?_) be (1) (H)) (ss [] z z) (sb z)
 ·unfold eF at H
  exact absurd H (by simp)
 ·unfold eF at H
  refine ak <| sR <| aa [.p, .p, .lenS 31 3 aP, .p] z <| nQ <| cI H z (fun H => ?_) (fun H => ?_)
  ·refine ar <| ax <| ak <| az <| ak <| dW cj (by kernel_rfl) <| oPP z <| bE H fun h d H => bo (e := eI) (xs := p0) (j := a) z z z z z aP ty3 z (ad c) d (by rw [Nat.mul_one]) <| o1 z (aD z z ty3 (bD (ad c) d)) <| aa [.p, .p, .p] z <| bE H fun i f H => bo (e := eI) (xs := p0) (j := J.wrap (a - 1)) z z z z z aP ty3 z (ad c) f (by rw [Nat.mul_one]) <| o1 z (aD z z ty3 (bD (ad c) f)) <| oP z <| cC <| ax <| cI H z (fun H => ?_) (fun H => ?_)
   ·exact sR <| oP z <| nT <| aL <| am <| bU <| aL <| am <| xr 2 z (by cases H; exact q1)
   ·exact ar <| cd <| ax <| aW <| aa [.p, .p, .p] z <| ay <| cD (RW.at (g (J.wrap (a + 1)) (H)) (ss [] z z) (sb z))
  ·exact bF <| aN <| aR <| aO <| ax <| sR <| oP z <| nT <| xr 2 z (by cases H; exact q1)
theorem vr (w : World) {p0 : Int} {r : Bool} (H : pq p0 = U r)   :
    Calls Tryz.prog 131 #[I J p0] w (fun en w' => en = .returned (B r) ∧ Ext [] w w') := by
 unfold pq at H
 exact aH Tryz.func131 z Tryz.ntmps131 z (St.init w []) <| sR <| oP z <| nR <| oP z <| bE H fun d a H => oq z (qc z nP (fun c e => ck c a)) tt2 <| oP z <| nT <| xr 2 z (by cases H; exact q1)
theorem sD (w : World) {p0 : Int} {r : Bool} (H : mW p0 = U r)   :
    Calls Tryz.prog 130 #[I J p0] w (fun en w' => en = .returned (B r) ∧ Ext [] w w') := by
 unfold mW at H
 exact aH Tryz.func130 z Tryz.ntmps130 z (St.init w []) <| sR <| oP z <| nR <| oP z <| bE H fun d a H => oq z (qc z FM (fun c e => vr c a)) tt2 <| oPP z <| nT <| xr 2 z (by cases H; exact q1)
theorem iU (w : World) {p0 : List Int} {a_0 : Option Addr} {n_0 c_0 : Nat} {r : Int} (H : cQ p0 = U r) (d : (ae eI 3).rd w [] p0 [S a_0 n_0 c_0]) :
    Calls Tryz.prog 129 #[S a_0 n_0 c_0, .func (.func 130) #[] #[]] w (fun en w' => en = .returned (I J r) ∧ Ext [] w w') := by
 obtain rfl := fM d
 unfold cQ at H
 refine aH Tryz.func129 z Tryz.ntmps129 z (St.init w []) <| sR <| oP z <| nQ <| ak <| sR <| aa [.p, .lenS 31 3 aP, .p] z <| nQ <| az <| CW.at (fG (fun (a : Int) => St w [] []) (fun a => [(0, S a_0 p0.length c_0), (1, .func (.func 130) #[] #[]), (7, I J (p0.length : Int)), (8, I J a)]) (fun kk => fun a => bK p0 kk a = U r) (fun _ H => ?_) (fun m f a H => ?_) be (0) (H)) (ss [] z z) (sb z)
 ·unfold bK at H
  exact absurd H (by simp)
 ·unfold bK at H
  refine sR <| oP z <| nQ <| ak <| cI H z (fun H => ?_) (fun H => ?_)
  ·refine ar <| ax <| ak <| az <| sR <| oPP z <| nR <| aa [.p, .p, .p] z <| bE H fun i c H => bo (e := eI) (xs := p0) (j := a) z z z z z aP ty3 z (ad d) c (by rw [Nat.mul_one]) <| o1 z (aD z z ty3 (bD (ad d) c)) <| bE H fun k g H => Bh z z (aw z) (rW (cap := []) z FZ z z (fun h l => sD h g)) (fun _ _ => Y) <| nQ <| cI H z (fun H => ?_) (fun H => ?_)
   ·exact sR <| oPP z <| nT <| aL <| am <| bU <| aL <| am <| xr 4 z (by cases H; exact q1)
   ·exact ar <| cd <| ax <| aW <| oPP z <| ay <| cD (RW.at (f (J.wrap (a + 1)) (H)) (ss [] z z) (sb z))
  ·exact bF <| aN <| aR <| aO <| ax <| sR <| oP z <| nT <| xr 4 z (by cases H; exact q1)
theorem ij (w : World) {p0 : List Int} {a_0 : Option Addr} {n_0 c_0 : Nat} {r : Bool} (H : cH p0 = U r) (a : (ae eI 3).rd w [] p0 [S a_0 n_0 c_0]) :
    Calls Tryz.prog 104 #[S a_0 n_0 c_0, .func (.func 130) #[] #[]] w (fun en w' => en = .returned (B r) ∧ Ext [] w w') := by
 obtain rfl := fM a
 unfold cH at H
 exact aH Tryz.func104 z Tryz.ntmps104 z (St.init w []) <| sR <| oP z <| nR <| oPP z <| bE H fun f c H => oq z (qc z AL (fun d e => iU d c (ad a d e))) tt2 <| oPP z <| nT <| xr 4 z (by cases H; exact q1)
theorem uJ (w : World) {p0 : List Int} {a_0 : Option Addr} {n_0 c_0 : Nat} {r : Bool} (H : nh p0 = U r) (h : (ae eI 3).rd w [] p0 [S a_0 n_0 c_0]) :
    Calls Tryz.prog 107 #[S a_0 n_0 c_0] w (fun en w' => en = .returned (B r) ∧ Ext [] w w') := by
 obtain rfl := fM h
 unfold nh at H
 refine aH Tryz.func107 z Tryz.ntmps107 z (St.init w []) <| sR <| oP z <| nR <| aa [.p, .lenS 31 3 aP] z <| bE H fun g i H => oq z (qc z nP (fun a c => ck a i)) tt2 <| oP z <| bE H fun d e H => aS [(9, B d), (0, S a_0 p0.length c_0), (2, B n)] 3 ?_ (fun key => OW.sub (R := [(0, S a_0 p0.length c_0), (2, B n), (6, B g)]) ?_ (sb z))
 ·refine oP z <| bE H fun j f H => aS [(14, B j), (2, B n)] 4 ?_ (fun key => OW.sub (R := [(0, S a_0 p0.length c_0), (2, B n), (10, B d)]) ?_ (sb z))
  ·exact oP z <| nT <| xr 2 z (by cases H; exact q1)
  ·clear H
   have H := f
   clear f
   generalize d = k at H key ⊢
   cases k
   ·have H := ba z H
    refine aa [.p, .p, .p, .p] z ?_
    obtain rfl := ai H
    exact OW.sub key (sb z)
   ·have H := aZ z H
    refine oP z <| bE H fun q l H => oq z (qc z AF (fun a c => ij a l (ad h a c))) tt2 <| oP z <| oP z <| ?_
    obtain rfl := ai H
    exact OW.sub key (sb z)
 ·clear H
  have H := e
  clear e
  generalize g = m at H key ⊢
  cases m
  ·have H := ba z H
   refine aa [.p, .p, .p] z ?_
   obtain rfl := ai H
   exact OW.sub key (sb z)
  ·have H := aZ z H
   refine oP z <| bE H fun s o H => oq z (qc z BD (fun a c => mF a o (ad h a c))) tt2 <| oP z <| ?_
   obtain rfl := ai H
   exact OW.sub key (sb z)
theorem oe (w : World) {p0 : bc} {f : List Value} {r : Bool} (H : ky p0 = U r) (x : (cb).rd w [] p0 f) :
    Calls Tryz.prog 65 #[.agg f.toArray] w (fun en w' => en = .returned (B r) ∧ Ext [] w w') := by
 obtain ⟨A, C, D, rfl, k, g, h⟩ := bA x
 obtain rfl := k
 obtain ⟨E, F, rfl⟩ := aj g
 obtain ⟨G, L, rfl⟩ := aj h
 unfold ky at H
 refine aH Tryz.func65 z Tryz.ntmps65 z (St.init w []) <| sR <| ob _ z fun i => oP z <| nQ <| ak <| sR <| aa [.fa 63 0 0 sg] z <| o1 z (r1 0 0 z ty9 z) <| bE H fun M l H => oq z (qc z Dv (fun a c => qg a l)) tt2 <| oP z <| nQ <| cI H z (fun H => ?_) (fun H => ?_)
 ·exact sR <| oP z <| nT <| am <| xr 2 z (by cases H; exact q1)
 ·refine ar <| ax <| ak <| sR <| aa [.fa 63 1 1 iY] z <| o1 z (r1 1 0 z cq z) <| aa [.lenS 31 3 aP, .p] z <| nQ <| cI H z (fun H => ?_) (fun H => ?_)
  ·refine sR <| aa [.fa 63 2 2 ny] z <| o1 z (r1 2 0 z kV z) <| aa [.lenS 25 9 go] z <| bE H fun j m H => oq z (qc z nP (fun a c => ck a m)) tt2 <| oP z <| bE H fun o d H => aS [(19, B o), (2, B n)] 4 ?_ (fun key => OW.sub (R := [(1, O (U ⟨i, 0, N⟩)), (2, B n), (15, B j)]) ?_ (sb z))
   ·exact oP z <| nT <| am <| xr 2 z (by cases H; exact q1)
   ·clear H
    have H := d
    clear d
    generalize j = q at H key ⊢
    cases q
    ·have H := ba z H
     refine aa [.p, .p, .p, .p] z ?_
     obtain rfl := ai H
     exact OW.sub key (sb z)
    ·have H := aZ z H
     refine aa [.fa 63 2 2 ny] z <| o1 z (r1 2 0 z kV z) <| bE H fun P s H => oq z (qc z Ez (fun a c => kr a s (ad h a c))) tt2 <| oP z <| ?_
     obtain rfl := ai H
     exact OW.sub key (sb z)
  ·refine ar <| ax <| sR <| aa [.fa 63 2 2 ny] z <| o1 z (r1 2 0 z kV z) <| aa [.lenS 25 9 go, .p, .p] z <| bE H fun t e H => aS [(28, B t), (2, B n)] 4 ?_ (fun key => OW.sub (R := [(1, O (U ⟨i, 0, N⟩)), (2, B n), (24, B ((p0.A_.length : Int) == 0))]) ?_ (sb z))
   ·exact oP z <| nT <| xr 2 z (by cases H; exact q1)
   ·clear H
    have H := e
    clear e
    generalize ((p0.A_.length : Int) == 0) = u at H key ⊢
    cases u
    ·have H := ba z H
     refine aa [.p, .p, .p, .p] z ?_
     obtain rfl := ai H
     exact OW.sub key (sb z)
    ·have H := aZ z H
     refine aa [.fa 63 1 1 iY] z <| o1 z (r1 1 0 z cq z) <| bE H fun Q v H => oq z (qc z EP (fun a c => uJ a v (ad g a c))) tt2 <| oP z <| ?_
     obtain rfl := ai H
     exact OW.sub key (sb z)
theorem gw (w : World) {p0 : ab} {G : List Value} {r : Bool} (H : fy p0 = U r) (g0 : (aJ).rd w [] p0 G) :
    Calls Tryz.prog 38 #[.agg G.toArray] w (fun en w' => en = .returned (B r) ∧ Ext [] w w') := by
 obtain ⟨c6, c7, rfl, L, M⟩ := aB g0
 obtain ⟨a7, a8, rfl⟩ := aj L
 obtain ⟨c8, c9, rfl⟩ := aj M
 unfold fy at H
 refine aH Tryz.func38 z Tryz.ntmps38 z (St.init w []) <| sR <| ob _ z fun k => oP z <| nQ <| ak <| sR <| aa [.fa 27 0 0 cY] z <| o1 z (r1 0 0 z hZ z) <| aa [.lenS 24 63 gD] z <| bE H fun P a9 H => oq z (qc z nP (fun d c => ck d a9)) tt2 <| oPP z <| bE H fun m o H => aS [(17, B m), (1, O (U ⟨k, 0, N⟩))] 6 ?_ (fun key => OW.sub (R := [(1, O (U ⟨k, 0, N⟩)), (11, B (!P))]) ?_ (sb z))
 ·refine oP z <| bE H fun b0 q H => aS [(23, B b0), (1, O (U ⟨k, 0, N⟩))] 5 ?_ (fun key => OW.sub (R := [(1, O (U ⟨k, 0, N⟩)), (18, B m)]) ?_ (sb z))
  ·refine nQ <| cI H z (fun H => ?_) (fun H => ?_)
   ·exact sR <| oP z <| nT <| am <| xr 2 z (by cases H; exact q1)
   ·refine ar <| ax <| sR <| ce (e := dF) z z z z go ty9 (fun _ => kp) fun Q => oP z <| nQ <| ak <| sR <| aa [.fa 27 0 0 cY] z <| o1 z (r1 0 0 z hZ z) <| aa [.lenS 24 63 gD, .p] z <| nQ <| az <| CW.at (iX (fun (g : Int) (f : List (List UInt8)) (h : Option Addr) (j : Nat) (l : List Nat) => St w [] [W (ae (dF) 9) l f [S h f.length j]]) (fun g f h j l => [(3, S h f.length j), (26, S a7 p0.b_.length a8), (27, I J (p0.b_.length : Int)), (28, I J g)]) (fun kk => fun g f h j l => h.isNone = n ∧ er p0 kk g f = U r) (fun _ _ _ _ _ H => ?_) (fun k1 X g f h j l ⟨b6, H⟩ => ?_) be (0) (([] : List (List UInt8))) ((U ⟨Q, 0, N⟩)) (0) ([Q]) (⟨z, H⟩)) (ss [1] z z) (sb z)
    ·unfold er at H
     exact absurd H (by simp)
    ·unfold er at H
     refine sR <| oP z <| nQ <| ak <| cI H z (fun H => ?_) (fun H => ?_)
     ·refine ar <| ax <| ak <| az <| sR <| bE H fun a Z H => cn z z z z z gD dD z L Z fun b7 b8 D E => ?_
      obtain ⟨b9, c0, c1, rfl, a0, s, t⟩ := bA D
      obtain rfl := a0
      obtain ⟨u, v, rfl⟩ := aj s
      obtain ⟨x, A, rfl⟩ := aj t
      refine o1 z (cA (cs := [vS a.B_, S u a.u_.length v, S x a.A_.length A]) z z dD (bW bor E) z) <| aA z z z z dD (fun _ => kp) fun c2 => sC 0 [vS a.B_, S u a.u_.length v, S x a.A_.length A] [_, _, _] 1 z dD z <| nQ <| ak <| sR <| o1 z (rx 0 1 _ z dD z) <| bE H fun c3 a1 H => oq z (qc z DS (fun d c => oe d a1 (bO z (ad s d c) (ad t d c)))) tt2 <| oP z <| nQ <| cI H z (fun H => ?_) (fun H => ?_)
      ·exact sR <| oP z <| nT <| am <| aL <| am <| bU <| aL <| am <| xr 2 z (by cases H; exact q1)
      ·exact ar <| ax <| aW <| aa [.p, .fa 63 0 0 sg] z <| o1 z (r1 0 1 z ty9 z) <| bQ (val := vS) (h1 := fun _ => z) [a.B_] [(0, [vS a.B_])] z z z z z go ty9 z z z ⟨z, z, nl z, Y⟩ z z (fun _ => kp) fun c4 => bE H fun a2 C H => cm (r := 0) (ys := ([a.B_] : List (List UInt8))) z z z z z z go ty9 z z z (fun d c => ap (e := ae (dF) 9) (r := 2) z d c) C (fun _ _ _ => kp) fun a3 a4 a5 => ct z (fun d c => fh (i := 0) c z (ff C)) fun F => oP z <| ay <| cd <| ax <| aW <| oPP z <| ay <| cD (RW.at (X (J.wrap (g + 1)) (a2) (a3) (a4) (a5) (⟨F, H⟩)) (ss [0] z z) (sb z))
     ·exact bF <| aN <| aR <| aO <| ax <| sR <| oP z <| bE H fun c5 a6 H => oq z (qc z Ez (fun d c => kr d a6 (ap (e := ae (dF) 9) (r := 0) z d c))) tt2 <| oP z <| nT <| xr 2 z (by cases H; exact q1)
  ·clear H
   have H := q
   clear q
   generalize m = b1 at H key ⊢
   cases b1
   ·have H := ba z H
    refine aa [.fa 27 1 1 iW] z <| o1 z (r1 1 0 z kV z) <| bE H fun d0 b2 H => oq z (qc z Ez (fun d c => kr d b2 (ad M d c))) tt2 <| oP z <| oP z <| ?_
    obtain rfl := ai H
    exact OW.sub key (sb z)
   ·have H := aZ z H
    refine aa [.p, .p, .p, .p, .p] z ?_
    obtain rfl := ai H
    exact OW.sub key (sb z)
 ·clear H
  have H := o
  clear o
  generalize (!P) = b3 at H key ⊢
  cases b3
  ·have H := ba z H
   refine aa [.fa 27 1 1 iW] z <| o1 z (r1 1 0 z kV z) <| aa [.lenS 25 9 go] z <| bE H fun d1 b4 H => oq z (qc z nP (fun d c => ck d b4)) tt2 <| oP z <| oP z <| ?_
   obtain rfl := ai H
   exact OW.sub key (sb z)
  ·have H := aZ z H
   refine aa [.p, .p, .p, .p, .p, .p] z ?_
   obtain rfl := ai H
   exact OW.sub key (sb z)
theorem sa (w : World) {p0 : Int} {r : Bool} (H : mc p0 = U r)   :
    Calls Tryz.prog 136 #[I J p0] w (fun en w' => en = .returned (B r) ∧ Ext [] w w') := by
 unfold mc at H
 exact aH Tryz.func136 z Tryz.ntmps136 z (St.init w []) <| sR <| oP z <| nR <| oP z <| bE H fun d a H => oq z (qc z nP (fun c e => ck c a)) tt2 <| oPP z <| nT <| xr 2 z (by cases H; exact q1)
theorem iS (w : World) {p0 : List Int} {a_0 : Option Addr} {n_0 c_0 : Nat} {r : Int} (H : cK p0 = U r) (d : (ae eI 3).rd w [] p0 [S a_0 n_0 c_0]) :
    Calls Tryz.prog 129 #[S a_0 n_0 c_0, .func (.func 136) #[] #[]] w (fun en w' => en = .returned (I J r) ∧ Ext [] w w') := by
 obtain rfl := fM d
 unfold cK at H
 refine aH Tryz.func129 z Tryz.ntmps129 z (St.init w []) <| sR <| oP z <| nQ <| ak <| sR <| aa [.p, .lenS 31 3 aP, .p] z <| nQ <| az <| CW.at (fG (fun (a : Int) => St w [] []) (fun a => [(0, S a_0 p0.length c_0), (1, .func (.func 136) #[] #[]), (7, I J (p0.length : Int)), (8, I J a)]) (fun kk => fun a => bI p0 kk a = U r) (fun _ H => ?_) (fun m f a H => ?_) be (0) (H)) (ss [] z z) (sb z)
 ·unfold bI at H
  exact absurd H (by simp)
 ·unfold bI at H
  refine sR <| oP z <| nQ <| ak <| cI H z (fun H => ?_) (fun H => ?_)
  ·refine ar <| ax <| ak <| az <| sR <| oPP z <| nR <| aa [.p, .p, .p] z <| bE H fun i c H => bo (e := eI) (xs := p0) (j := a) z z z z z aP ty3 z (ad d) c (by rw [Nat.mul_one]) <| o1 z (aD z z ty3 (bD (ad d) c)) <| bE H fun k g H => Bh z z (aw z) (rW (cap := []) z Fx z z (fun h l => sa h g)) (fun _ _ => Y) <| nQ <| cI H z (fun H => ?_) (fun H => ?_)
   ·exact sR <| oPP z <| nT <| aL <| am <| bU <| aL <| am <| xr 4 z (by cases H; exact q1)
   ·exact ar <| cd <| ax <| aW <| oPP z <| ay <| cD (RW.at (f (J.wrap (a + 1)) (H)) (ss [] z z) (sb z))
  ·exact bF <| aN <| aR <| aO <| ax <| sR <| oP z <| nT <| xr 4 z (by cases H; exact q1)
theorem ii (w : World) {p0 : List Int} {a_0 : Option Addr} {n_0 c_0 : Nat} {r : Bool} (H : cl p0 = U r) (a : (ae eI 3).rd w [] p0 [S a_0 n_0 c_0]) :
    Calls Tryz.prog 104 #[S a_0 n_0 c_0, .func (.func 136) #[] #[]] w (fun en w' => en = .returned (B r) ∧ Ext [] w w') := by
 obtain rfl := fM a
 unfold cl at H
 exact aH Tryz.func104 z Tryz.ntmps104 z (St.init w []) <| sR <| oP z <| nR <| oPP z <| bE H fun f c H => oq z (qc z AL (fun d e => iS d c (ad a d e))) tt2 <| oPP z <| nT <| xr 4 z (by cases H; exact q1)
theorem pF (w : World) {p0 : List Int} {p1 : Int} {a_0 : Option Addr} {n_0 c_0 : Nat} {r : Bool} (H : kP p0 p1 = U r) (c : (ae eI 3).rd w [] p0 [S a_0 n_0 c_0]) :
    Calls Tryz.prog 118 #[S a_0 n_0 c_0, I J p1] w (fun en w' => en = .returned (B r) ∧ Ext [] w w') := by
 obtain rfl := fM c
 unfold kP at H
 refine aH Tryz.func118 z Tryz.ntmps118 z (St.init w []) <| sR <| oP z <| nR <| aa [.p, .lenS 31 3 aP, .p, .p, .p] z <| bE H fun d a H => aS [(13, B d), (4, B n)] 4 ?_ (fun key => OW.sub (R := [(0, S a_0 p0.length c_0), (4, B n), (9, B ((p0.length : Int) == p1))]) ?_ (sb z))
 ·exact oP z <| nT <| xr 4 z (by cases H; exact q1)
 ·clear H
  have H := a
  clear a
  generalize ((p0.length : Int) == p1) = e at H key ⊢
  cases e
  ·have H := ba z H
   refine aa [.p, .p, .p, .p] z ?_
   obtain rfl := ai H
   exact OW.sub key (sb z)
  ·have H := aZ z H
   refine oP z <| bE H fun i f H => oq z (qc z AF (fun g h => ii g f (ad c g h))) tt2 <| oP z <| oP z <| ?_
   obtain rfl := ai H
   exact OW.sub key (sb z)
theorem qY (w : World) {p0 : List Int} {a_0 : Option Addr} {n_0 c_0 : Nat} {r : Int} (H : lH p0 = U r) (f : (ae eI 3).rd w [] p0 [S a_0 n_0 c_0]) :
    Calls Tryz.prog 101 #[S a_0 n_0 c_0] w (fun en w' => en = .returned (I J r) ∧ Ext [] w w') := by
 obtain rfl := fM f
 unfold lH at H
 refine aH Tryz.func101 z Tryz.ntmps101 z (St.init w []) <| sR <| oP z <| nR <| oP z <| nQ <| ak <| sR <| aa [.p, .lenS 31 3 aP, .p] z <| nQ <| az <| CW.at (hI (fun (c : Int) (a : Int) => St w [] []) (fun c a => [(3, I J c), (6, S a_0 p0.length c_0), (7, I J (p0.length : Int)), (8, I J a)]) (fun kk => fun c a => jq p0 kk c a = U r) (fun _ _ H => ?_) (fun i g c a H => ?_) be (0) (0) (H)) (ss [] z z) (sb z)
 ·unfold jq at H
  exact absurd H (by simp)
 ·unfold jq at H
  refine sR <| oP z <| nQ <| ak <| cI H z (fun H => ?_) (fun H => ?_)
  ·exact ar <| ax <| ak <| az <| sR <| bE H fun h d H => bo (e := eI) (xs := p0) (j := a) z z z z z aP ty3 z (ad f) d (by rw [Nat.mul_one]) <| o1 z (aD z z ty3 (bD (ad f) d)) <| oP z <| nQ <| aW <| aa [.p, .p, .p, .p] z <| ay <| cd <| ax <| aW <| oPP z <| ay <| cD (RW.at (g (J.wrap (c + h)) (J.wrap (a + 1)) (H)) (ss [] z z) (sb z))
  ·exact bF <| aN <| aR <| aO <| ax <| sR <| oPP z <| nT <| xr 2 z (by cases H; exact q1)
theorem gE (w : World) {p0 : bc} {a : List Value} {r : Int} (H : el p0 = U r) (f : (cb).rd w [] p0 a) :
    Calls Tryz.prog 40 #[.agg a.toArray] w (fun en w' => en = .returned (I J r) ∧ Ext [] w w') := by
 obtain ⟨g, h, i, rfl, c, d, e⟩ := bA f
 obtain rfl := c
 obtain ⟨j, k, rfl⟩ := aj d
 obtain ⟨l, m, rfl⟩ := aj e
 unfold el at H
 refine aH Tryz.func40 z Tryz.ntmps40 z (St.init w []) <| sR <| ob _ z fun o => oP z <| nQ <| ak <| sR <| aa [.fa 63 1 1 iY] z <| o1 z (r1 1 0 z cq z) <| aa [.lenS 31 3 aP, .p] z <| nQ <| cI H z (fun H => ?_) (fun H => ?_)
 ·exact sR <| aa [.fa 63 1 1 iY] z <| o1 z (r1 1 0 z cq z) <| aa [.lenS 31 3 aP, .p, .p] z <| nT <| am <| xr 2 z (by cases H; exact q1)
 ·exact ar <| ax <| sR <| aa [.fa 63 2 2 ny] z <| o1 z (r1 2 0 z kV z) <| aa [.lenS 25 9 go, .p] z <| nT <| xr 2 z (by cases H; exact q1)
theorem vh (w : World) {d : List Nat} {p0 : Int} {r : List Int} (H : pD p0 = U r) (HS : St w d [] w) :
    Calls Tryz.prog 119 #[I J p0] w (fun en w' => ∃ v, en = .returned v ∧ ∃ (f : Option Addr), ∃ (g : Nat), ∃ (c0 : Nat), ∃ (i : List Nat), v = S f g c0 ∧ St w d [W (ae eI 3) i r [S f g c0]] w') := by
 unfold pD at H
 exact aH Tryz.func119 z Tryz.ntmps119 z (HS) <| sR <| oP z <| nR <| oP z <| bE H fun a h H => qI (e := eI) (zero := (0 : Int)) z z z z z z aP ty3 z z z z (fun _ => ⟨z, z⟩) h (fun _ => kp) fun c => oP z <| nT <| bg (rs := [.tmp 2]) (vs := [S (U ⟨c, 0, N⟩) a.length a.length]) z ⟨z, Y⟩ (fun w' hw' => by
  obtain rfl := ai H
  exact ⟨_, z, (U ⟨c, 0, N⟩), a.length, a.length, [c], z, hw'.sel [0] z z⟩)
theorem tI (w : World) {p0 : ab} {p1 : av} {a7 : List Value} {a8 : List Value} {r : Bool} (H : kR p0 p1 = U r) (g0 : (aJ).rd w [] p0 a7) (g1 : (cu).rd w [] p1 a8) :
    Calls Tryz.prog 87 #[.agg a7.toArray, .agg a8.toArray] w (fun en w' => en = .returned (B r) ∧ Ext [] w w') := by
 obtain ⟨g4, g5, rfl, A, a9⟩ := aB g0
 obtain ⟨b0, b1, rfl⟩ := aj A
 obtain ⟨b2, b3, rfl⟩ := aj a9
 obtain ⟨g6, g7, rfl, q, b4⟩ := aK g1
 obtain ⟨b5, b6, rfl⟩ := aj q
 obtain ⟨u, v, rfl⟩ := aj b4
 unfold kR at H
 refine aH Tryz.func87 z Tryz.ntmps87 z (St.init w []) <| sR <| ob _ z fun h => ob _ z fun k => oP z <| nR <| aa [.fa 27 1 1 iW] z <| o1 z (r1 1 0 z kV z) <| aa [.lenS 25 9 go, .p] z <| nQ <| ak <| sR <| o1 z (rx 0 0 _ z cg z) <| bE H fun b7 d8 H => oq z (qc z ya (fun c a => gw c d8 (af (ad A c a) (ad a9 c a)))) tt2 <| oPP z <| bE H fun C D H => aS [(23, B C), (2, O (U ⟨h, 0, N⟩)), (3, O (U ⟨k, 0, N⟩)), (5, I J (p0.l_.length : Int))] 6 ?_ (fun key => OW.sub (R := [(2, O (U ⟨h, 0, N⟩)), (3, O (U ⟨k, 0, N⟩)), (5, I J (p0.l_.length : Int)), (17, B (!b7))]) ?_ (sb z))
 ·refine oP z <| bE H fun d9 E H => aS [(29, B d9), (2, O (U ⟨h, 0, N⟩)), (3, O (U ⟨k, 0, N⟩)), (5, I J (p0.l_.length : Int))] 5 ?_ (fun key => OW.sub (R := [(2, O (U ⟨h, 0, N⟩)), (3, O (U ⟨k, 0, N⟩)), (5, I J (p0.l_.length : Int)), (24, B C)]) ?_ (sb z))
  ·refine nQ <| cI H z (fun H => ?_) (fun H => ?_)
   ·exact sR <| oP z <| nT <| am <| xr 4 z (by cases H; exact q1)
   ·refine ar <| ax <| ak <| sR <| aa [.fa 69 1 1 eE] z <| o1 z (r1 1 1 z kq z) <| aa [.lenS 67 31 iR, .p] z <| nQ <| cI H z (fun H => ?_) (fun H => ?_)
    ·exact sR <| oP z <| nT <| am <| xr 4 z (by cases H; exact q1)
    ·refine ar <| ax <| ak <| sR <| aa [.fa 69 1 1 eE] z <| o1 z (r1 1 1 z kq z) <| aa [.lenS 67 31 iR, .fa 27 0 0 cY] z <| o1 z (r1 0 0 z hZ z) <| aa [.lenS 24 63 gD, .p] z <| nQ <| cI H z (fun H => ?_) (fun H => ?_)
     ·exact sR <| oP z <| nT <| am <| xr 4 z (by cases H; exact q1)
     ·refine ar <| ax <| ak <| sR <| aa [.fa 69 1 1 eE] z <| o1 z (r1 1 1 z kq z) <| aa [.lenS 67 31 iR, .p] z <| nQ <| az <| CW.at (fG (fun (f : Int) => St w [] [b h 27 [S b0 p0.b_.length b1, S b2 p0.l_.length b3], b k 69 [S b5 p1.e_.length b6, S u p1.d_.length v]]) (fun f => [(2, O (U ⟨h, 0, N⟩)), (3, O (U ⟨k, 0, N⟩)), (5, I J (p0.l_.length : Int)), (42, S u p1.d_.length v), (43, I J (p1.d_.length : Int)), (44, I J f)]) (fun kk => fun f => dh p1 p0 kk f = U r) (fun _ H => ?_) (fun k1 b8 f H => ?_) be (0) (H)) (ss [0, 1] z z) (sb z)
      ·unfold dh at H
       exact absurd H (by simp)
      ·unfold dh at H
       refine sR <| oP z <| nQ <| ak <| cI H z (fun H => ?_) (fun H => ?_)
       ·refine ar <| ax <| ak <| az <| sR <| oP z <| bE H fun o b9 H => cn z z z z z iR cq z b4 b9 fun e7 e9 l a3 => ?_
        obtain ⟨c0, c1, rfl⟩ := aj l
        refine o1 z (aD z z cq (bW bor a3)) <| oPP z <| nQ <| ak <| sR <| aa [.p, .fa 27 0 0 cY] z <| o1 z (r1 0 0 z hZ z) <| oP z <| bE H fun s c2 H => cn z z z z z gD dD z A c2 fun f0 f1 a4 a5 => ?_
        obtain ⟨f2, f3, f4, rfl, c3, F, G⟩ := bA a4
        obtain rfl := c3
        obtain ⟨c4, c5, rfl⟩ := aj F
        obtain ⟨c6, c7, rfl⟩ := aj G
        refine o1 z (cA (cs := [vS s.B_, S c4 s.u_.length c5, S c6 s.A_.length c7]) z z dD (bW bor a5) z) <| bE H fun f5 c8 H => oq z (qc z vf (fun c a => gE c c8 (bO z (ad F c a) (ad G c a)))) tt2 <| oPP z <| bE H fun f6 c9 H => oq z (qc z DC (fun c a => pF c c9 (ad l c a))) tt2 <| oP z <| nQ <| cI H z (fun H => ?_) (fun H => ?_)
        ·exact sR <| oP z <| nT <| am <| aL <| am <| bU <| aL <| am <| xr 4 z (by cases H; exact q1)
        ·refine ar <| ax <| sR <| oP z <| bE H fun t d0 H => au z EM z z z z (fun c a => vh c d0 (a.carve [] z z)) fun f7 c w2 a a6 => ?_
         obtain ⟨L, f8, M, d1, rfl, x⟩ := a6
         obtain rfl := aI (i := 0) x z
         refine ⟨St w [] [_, _, _], a.comp [] z z x, fun _ _ => Y, ?_⟩
         refine oP z <| nR <| aa [.p, .lenS 31 3 aP, .p] z <| nQ <| az <| CW.at (hI (fun (g : Int) (d : List Int) => St w [] [b h 27 [S b0 p0.b_.length b1, S b2 p0.l_.length b3], b k 69 [S b5 p1.e_.length b6, S u p1.d_.length v], W (ae eI 3) d1 d [S L t.length M]]) (fun g d => [(2, O (U ⟨h, 0, N⟩)), (3, O (U ⟨k, 0, N⟩)), (5, I J (p0.l_.length : Int)), (8, S L t.length M), (42, S u p1.d_.length v), (43, I J (p1.d_.length : Int)), (44, I J f), (62, S c0 o.length c1), (63, I J (o.length : Int)), (64, I J g)]) (fun kk => fun g d => dt o p0 p1 (dh p1 p0 k1) f kk g d = U r) (fun _ _ H => ?_) (fun k2 d2 g d H => ?_) be (0) (t) (H)) (ss [0, 1, 2] z z) (sb z)
         ·unfold dt at H
          exact absurd H (by simp)
         ·unfold dt at H
          refine sR <| oP z <| nQ <| ak <| cI H z (fun H => ?_) (fun H => ?_)
          ·refine ar <| ax <| ak <| az <| sR <| oP z <| bE H fun P Q H => bo (e := eI) (xs := o) (j := g) z z z z z aP ty3 z (ad l) Q (by rw [Nat.mul_one]) <| o1 z (aD z z ty3 (bD (ad l) Q)) <| oPP z <| nR <| aa [.p, .p, .p] z <| bE H fun m d3 H => o1 z (pY z z z d3) <| bE H fun X Z H => bo (e := eI) (xs := d) (j := m) z z z z z aP ty3 z (ap (e := ae eI 3) (r := 2) z) Z (by rw [Nat.mul_one]) <| o1 z (aD z z ty3 (bD (ap (e := ae eI 3) (r := 2) z) Z)) <| oPP z <| bE H fun f9 a0 H => bo (e := eI) (xs := d) (j := m) z z z z z aP ty3 z (ap (e := ae eI 3) (r := 2) z) a0 (by rw [Nat.mul_one]) <| jN (i := 2) (j := m) z z z z z z ty3 z a0 (fun _ => z) kp <| nQ <| ak <| dW cj (by kernel_rfl) <| aa [.p, .p, .p] z <| bE H fun d4 d5 H => o1 z (pY z z z d5) <| bE H fun g2 a1 H => bo (e := eI) (xs := (d.set m.toNat (J.wrap (X + P)))) (j := d4) z z z z z aP ty3 z (ap (e := ae eI 3) (r := 2) z) a1 (by rw [Nat.mul_one]) <| o1 z (aD z z ty3 (bD (ap (e := ae eI 3) (r := 2) z) a1)) <| aa [.fa 69 0 0 jz] z <| o1 z (r1 0 1 z cq z) <| oPP z <| bE H fun d6 d7 H => o1 z (pY z z z d7) <| ?_
           refine bE H fun g3 a2 H => bo (e := eI) (xs := p1.e_) (j := d6) z z z z z aP ty3 z (ad q) a2 (by rw [Nat.mul_one]) <| o1 z (aD z z ty3 (bD (ad q) a2)) <| oP z <| cC <| ax <| cI H z (fun H => ?_) (fun H => ?_)
           ·exact sR <| oP z <| nT <| aL <| am <| bU <| aL <| aL <| am <| bU <| aL <| am <| xr 4 z (by cases H; exact q1)
           ·exact ar <| cd <| ax <| aW <| oPP z <| ay <| cD (RW.at (d2 (J.wrap (g + 1)) ((d.set m.toNat (J.wrap (X + P)))) (H)) (ss [0, 1, 2] z z) (sb z))
          ·exact bF <| aN <| aR <| aO <| cd <| ax <| aW <| oPP z <| ay <| cD (RW.at (b8 (J.wrap (f + 1)) (H)) (ss [0, 1] z z) (sb z))
       ·exact bF <| aN <| aR <| aO <| ax <| sR <| oP z <| nT <| xr 4 z (by cases H; exact q1)
  ·clear H
   have H := E
   clear E
   generalize C = e0 at H key ⊢
   cases e0
   ·have H := ba z H
    refine aa [.fa 69 0 0 jz] z <| o1 z (r1 0 1 z cq z) <| bE H fun g8 e1 H => oq z (qc z Dx (fun c a => qY c e1 (ad q c a))) tt2 <| oP z <| oP z <| ?_
    obtain rfl := ai H
    exact OW.sub key (sb z)
   ·have H := aZ z H
    refine aa [.p, .p, .p, .p, .p] z ?_
    obtain rfl := ai H
    exact OW.sub key (sb z)
 ·clear H
  have H := D
  clear D
  generalize (!b7) = e2 at H key ⊢
  cases e2
  ·have H := ba z H
   refine aa [.fa 69 0 0 jz] z <| o1 z (r1 0 1 z cq z) <| oP z <| bE H fun g9 e3 H => oq z (qc z DC (fun c a => pF c e3 (ad q c a))) tt2 <| oP z <| oP z <| ?_
   obtain rfl := ai H
   exact OW.sub key (sb z)
  ·have H := aZ z H
   refine aa [.p, .p, .p, .p, .p, .p] z ?_
   obtain rfl := ai H
   exact OW.sub key (sb z)
theorem tC (w : World) {p0 : ab} {p1 : List Int} {o : List Value} {a_1 : Option Addr} {n_1 c_1 : Nat} {r : Bool} (H : mq p0 p1 = U r) (G : (aJ).rd w [] p0 o) (f : (ae eI 3).rd w [] p1 [S a_1 n_1 c_1]) :
    Calls Tryz.prog 100 #[.agg o.toArray, S a_1 n_1 c_1] w (fun en w' => en = .returned (B r) ∧ Ext [] w w') := by
 obtain ⟨L, M, rfl, q, s⟩ := aB G
 obtain ⟨P, Q, rfl⟩ := aj q
 obtain ⟨X, Z, rfl⟩ := aj s
 obtain rfl := fM f
 unfold mq at H
 refine aH Tryz.func100 z Tryz.ntmps100 z (St.init w []) <| sR <| ob _ z fun a => oP z <| nQ <| ak <| dW cj (by kernel_rfl) <| o1 z (rx 0 0 _ z cg z) <| bE H fun c v H => oq z (qc z ya (fun g d => gw g v (af (ad q g d) (ad s g d)))) tt2 <| oP z <| aS [(11, B (c && (decide ((p1.length : Int) > 0)))), (1, S a_1 p1.length c_1), (2, O (U ⟨a, 0, N⟩)), (4, B n)] 4 ?_ (fun key => OW.sub (R := [(1, S a_1 p1.length c_1), (2, O (U ⟨a, 0, N⟩)), (4, B n), (7, B c)]) ?_ (sb z))
 ·refine oP z <| bE H fun h i H => aS [(15, B h), (1, S a_1 p1.length c_1), (2, O (U ⟨a, 0, N⟩)), (4, B n)] 3 ?_ (fun key => OW.sub (R := [(1, S a_1 p1.length c_1), (2, O (U ⟨a, 0, N⟩)), (4, B n), (12, B (c && (decide ((p1.length : Int) > 0))))]) ?_ (sb z))
  ·refine oP z <| bE H fun k l H => aS [(21, B k), (1, S a_1 p1.length c_1), (2, O (U ⟨a, 0, N⟩)), (4, B n)] 5 ?_ (fun key => OW.sub (R := [(1, S a_1 p1.length c_1), (2, O (U ⟨a, 0, N⟩)), (4, B n), (16, B h)]) ?_ (sb z))
   ·refine oP z <| bE H fun x m H => aS [(33, B x), (4, B n)] 11 ?_ (fun key => OW.sub (R := [(1, S a_1 p1.length c_1), (2, O (U ⟨a, 0, N⟩)), (4, B n), (22, B k)]) ?_ (sb z))
    ·exact oP z <| cC <| ax <| qT <| xr 4 z (by cases H; exact q1)
    ·clear H
     have H := m
     clear m
     generalize k = A at H key ⊢
     cases A
     ·have H := ba z H
      refine aa [.p, .p, .p, .p, .p, .p, .p, .p, .p, .p, .p] z ?_
      obtain rfl := ai H
      exact OW.sub key (sb z)
     ·have H := aZ z H
      refine aa [.p, .p, .lenS 31 3 aP, .p] z <| bE H fun a0 t H => bo (e := eI) (xs := p1) (j := J.wrap ((p1.length : Int) - 1)) z z z z z aP ty3 z (ad f) t (by rw [Nat.mul_one]) <| o1 z (aD z z ty3 (bD (ad f) t)) <| aa [.fa 27 0 0 cY] z <| o1 z (r1 0 0 z hZ z) <| aa [.lenS 24 63 gD, .p] z <| oP z <| ?_
      obtain rfl := ai H
      exact OW.sub key (sb z)
   ·clear H
    have H := l
    clear l
    generalize h = C at H key ⊢
    cases C
    ·have H := ba z H
     refine aa [.p, .p, .p, .p, .p] z ?_
     obtain rfl := ai H
     exact OW.sub key (sb z)
    ·have H := aZ z H
     refine oP z <| bE H fun a1 u H => bo (e := eI) (xs := p1) (j := 0) z z z z z aP ty3 z (ad f) u (by rw [Nat.mul_one]) <| o1 z (aD z z ty3 (bD (ad f) u)) <| oP z <| oP z <| ?_
     obtain rfl := ai H
     exact OW.sub key (sb z)
  ·clear H
   have H := i
   clear i
   generalize (c && (decide ((p1.length : Int) > 0))) = D at H key ⊢
   cases D
   ·have H := ba z H
    refine aa [.p, .p, .p] z ?_
    obtain rfl := ai H
    exact OW.sub key (sb z)
   ·have H := aZ z H
    refine oP z <| bE H fun a2 E H => oq z (qc z BD (fun g d => mF g E (ad f g d))) tt2 <| oP z <| ?_
    obtain rfl := ai H
    exact OW.sub key (sb z)
 ·generalize c = F at key ⊢
  cases F
  ·exact aa [.p, .p, .p, .p] z <| OW.sub key (sb z)
  ·exact aa [.p, .lenS 31 3 aP, .p] z <| oP z <| OW.sub key (sb z)
theorem pX (w : World) {p0 : ab} {p1 : aq} {g : List Value} {r : Bool} (H : lK p0 p1 = U r) (P : (aJ).rd w [] p0 g) :
    Calls Tryz.prog 91 #[.agg g.toArray, .agg #[I J p1.j_, I J p1.c_]] w (fun en w' => en = .returned (B r) ∧ Ext [] w w') := by
 obtain ⟨Q, X, rfl, e, h⟩ := aB P
 obtain ⟨Z, a0, rfl⟩ := aj e
 obtain ⟨a1, a2, rfl⟩ := aj h
 unfold lK at H
 refine aH Tryz.func91 z Tryz.ntmps91 z (St.init w []) <| sR <| ob _ z fun i => ob _ z fun j => oP z <| nQ <| ak <| sR <| o1 z (rx 0 0 _ z cg z) <| bE H fun k x H => oq z (qc z ya (fun a c => gw a x (af (ad e a c) (ad h a c)))) tt2 <| oPP z <| bE H fun A f H => aS [(19, B A), (2, O (U ⟨i, 0, N⟩)), (3, O (U ⟨j, 0, N⟩))] 9 ?_ (fun key => OW.sub (R := [(2, O (U ⟨i, 0, N⟩)), (3, O (U ⟨j, 0, N⟩)), (10, B (!k))]) ?_ (sb z))
 ·refine nQ <| cI H z (fun H => ?_) (fun H => ?_)
  ·exact sR <| oP z <| nT <| am <| xr 4 z (by cases H; exact q1)
  ·refine ar <| ax <| sR <| aa [.fa 27 0 0 cY] z <| o1 z (r1 0 0 z hZ z) <| aa [.fa 66 0 0 jI] z <| o1 z (r1 0 1 z ty3 z) <| bE H fun d C H => cn z z z z z gD dD z e C fun a3 a4 u v => ?_
   obtain ⟨a5, a6, a7, rfl, D, l, m⟩ := bA u
   obtain rfl := D
   obtain ⟨o, q, rfl⟩ := aj l
   obtain ⟨s, t, rfl⟩ := aj m
   refine o1 z (cA (cs := [vS d.B_, S o d.u_.length q, S s d.A_.length t]) z z dD (bW bor v) z) <| aA z z z z dD (fun _ => kp) fun a8 => sC 0 [vS d.B_, S o d.u_.length q, S s d.A_.length t] [_, _, _] 2 z dD z <| nR <| o1 z (rx 0 2 _ z dD z) <| bE H fun a9 E H => oq z (qc z vf (fun a c => gE a E (bO z (ad l a c) (ad m a c)))) tt2 <| oPP z <| nQ <| ak <| sR <| aa [.fa 63 1 1 iY] z <| o1 z (r1 1 2 z cq z) <| aa [.lenS 31 3 aP, .p] z <| nQ <| cI H z (fun H => ?_) (fun H => ?_)
   ·exact aW <| aa [.p, .p, .p] z <| nR <| aa [.fa 66 1 1 mR] z <| o1 z (r1 1 1 z ty3 z) <| oP z <| bE H fun b0 F H => oq z (qc z nP (fun a c => ck a F)) tt2 <| oP z <| nT <| xr 4 z (by cases H; exact q1)
   ·exact ar <| ax <| sR <| aa [.fa 66 1 1 mR] z <| o1 z (r1 1 1 z ty3 z) <| oP z <| bE H fun b1 G H => oq z (qc z nP (fun a c => ck a G)) tt2 <| oP z <| nT <| xr 4 z (by cases H; exact q1)
 ·clear H
  have H := f
  clear f
  generalize (!k) = L at H key ⊢
  cases L
  ·have H := ba z H
   refine aa [.fa 66 0 0 jI] z <| o1 z (r1 0 1 z ty3 z) <| aa [.fa 27 0 0 cY] z <| o1 z (r1 0 0 z hZ z) <| aa [.lenS 24 63 gD, .p] z <| bE H fun b2 M H => oq z (qc z nP (fun a c => ck a M)) tt2 <| oP z <| oP z <| ?_
   obtain rfl := ai H
   exact OW.sub key (sb z)
  ·have H := aZ z H
   refine aa [.p, .p, .p, .p, .p, .p, .p, .p, .p] z ?_
   obtain rfl := ai H
   exact OW.sub key (sb z)
theorem sM (w : World) {p0 : ab} {p1 : aq} {f : List Value} {r : Int} (H : jy p0 p1 = U r) (v : (aJ).rd w [] p0 f) :
    Calls Tryz.prog 102 #[.agg f.toArray, .agg #[I J p1.j_, I J p1.c_]] w (fun en w' => en = .returned (I J r) ∧ Ext [] w w') := by
 obtain ⟨x, A, rfl, d, g⟩ := aB v
 obtain ⟨C, D, rfl⟩ := aj d
 obtain ⟨E, F, rfl⟩ := aj g
 unfold jy at H
 refine aH Tryz.func102 z Tryz.ntmps102 z (St.init w []) <| sR <| ob _ z fun G => ob _ z fun L => oP z <| nQ <| ak <| az <| sR <| o1 z (rx 0 0 _ z cg z) <| o1 z (rx 0 1 _ z cM z) <| bE H fun M l H => oq z (qc z EV (fun c a => pX c (p1 := p1) l (af (ad d c a) (ad g c a)))) tt2 <| oPP z <| nQ <| cI H z (fun H => ?_) (fun H => ?_)
 ·exact sR <| oP z <| nT <| aL <| am <| xr 4 z (by cases H; exact q1)
 ·refine sR <| aa [.fa 66 1 1 mR] z <| o1 z (r1 1 1 z ty3 z) <| oPP z <| nQ <| cI H z (fun H => ?_) (fun H => ?_)
  ·refine sR <| aa [.fa 27 0 0 cY] z <| o1 z (r1 0 0 z hZ z) <| aa [.fa 66 0 0 jI] z <| o1 z (r1 0 1 z ty3 z) <| bE H fun e m H => cn z z z z z gD dD z d m fun P Q j k => ?_
   obtain ⟨R, X, Z, rfl, o, h, i⟩ := bA j
   obtain rfl := o
   obtain ⟨p, q, rfl⟩ := aj h
   obtain ⟨s, t, rfl⟩ := aj i
   exact o1 z (cA (cs := [vS e.B_, S p e.u_.length q, S s e.A_.length t]) z z dD (bW bor k) z) <| bE H fun a0 u H => oq z (qc z vf (fun c a => gE c u (bO z (ad h c a) (ad i c a)))) tt2 <| oP z <| nT <| aL <| am <| xr 4 z (by cases H; exact q1)
  ·exact ar <| cd <| ax <| sR <| oP z <| nT <| xr 4 z (by cases H; exact q1)
theorem sj (w : World) {p0 : Int} {p1 : Int} {p2 : ah} {q_1 : Addr} {cs_1 : List Value} {q_2 : Addr} {cs_2 : List Value} {r : Bool} (H : lp p0 p1 p2 = U r) (g_1 : eI.rd w [] p1 cs_1) (hA_1 : At w [] q_1 cs_1) (g_2 : (cz).rd w [] p2 cs_2) (hA_2 : At w [] q_2 cs_2) :
    Calls Tryz.prog 105 #[I J p0, O (U q_1), O (U q_2)] w (fun en w' => en = .returned (B r) ∧ Ext [] w w') := by
 obtain rfl := g_1
 obtain ⟨F, G, rfl, c, g⟩ := bZ g_2
 obtain ⟨L, M, rfl⟩ := aj c
 obtain rfl := g
 unfold lp at H
 refine aH Tryz.func105 z Tryz.ntmps105 z (St.init w []) <| sR <| oP z <| nQ <| ak <| dW cj (by kernel_rfl) <| oP z <| o1 z (aD z z ty3 (bW bor hA_1)) <| aa [.p, .fa 30 0 0 cc] z <| o1 z (aD z z eC (bW bor (lz hA_2 0 1))) <| aa [.lenS 28 71 dX, .p] z <| bE H fun d h H => oq z (qc z nP (fun E P => ck E h)) tt2 <| oPP z <| bE H fun i a H => aS [(23, B i), (4, B n)] 9 ?_ (fun key => OW.sub (R := [(0, I J p0), (1, O (U q_1)), (2, O (U q_2)), (4, B n), (14, B (!d))]) ?_ (sb z))
 ·exact oP z <| cC <| ax <| qT <| xr 4 z (by cases H; exact q1)
 ·clear H
  have H := a
  clear a
  generalize (!d) = j at H key ⊢
  cases j
  ·have H := ba z H
   refine aa [.fa 30 0 0 cc] z <| o1 z (aD z z eC (bW bor (lz hA_2 0 1))) <| oP z <| bE H fun Q k H => cn z z z z z dX ca z c k fun X Z e f => ?_
   obtain ⟨a0, a1, a2, a3, a4, a5, a6, a7, a8, a9, rfl, l, m, o, q, s, t, u, v, x, A⟩ := bj e
   obtain rfl := l
   obtain rfl := m
   obtain ⟨b0, b1, rfl⟩ := aj o
   obtain rfl := q
   obtain ⟨b2, b3, rfl, C, D⟩ := aK s
   obtain ⟨b4, b5, rfl⟩ := aj C
   obtain ⟨b6, b7, rfl⟩ := aj D
   obtain rfl := t
   obtain ⟨b8, b9, rfl⟩ := aj u
   obtain rfl := v
   obtain rfl := x
   obtain rfl := A
   refine aa [.fa 71 8 10 nz] z <| o1 z (aD z z ty3 (bW bor (lz f 10 1))) <| o1 z (aD z z ty3 (bW bor hA_1)) <| oP z <| oP z <| ?_
   obtain rfl := ai H
   exact OW.sub key (sb z)
  ·have H := aZ z H
   refine aa [.p, .p, .p, .p, .p, .p, .p, .p, .p] z ?_
   obtain rfl := ai H
   exact OW.sub key (sb z)
theorem iV (w : World) {p0 : List Int} {p1_0 : Int} {p1_1 : ah} {a_0 : Option Addr} {n_0 c_0 : Nat} {q_1_0 : Addr} {cs_1_0 : List Value} {q_1_1 : Addr} {cs_1_1 : List Value} {r : Int} (H : cO p0 p1_0 p1_1 = U r) (h : (ae eI 3).rd w [] p0 [S a_0 n_0 c_0]) (g_1_0 : eI.rd w [] p1_0 cs_1_0) (hA_1_0 : At w [] q_1_0 cs_1_0) (g_1_1 : (cz).rd w [] p1_1 cs_1_1) (hA_1_1 : At w [] q_1_1 cs_1_1) :
    Calls Tryz.prog 129 #[S a_0 n_0 c_0, .func (.func 105) #[] #[O (U q_1_0), O (U q_1_1)]] w (fun en w' => en = .returned (I J r) ∧ Ext [] w w') := by
 obtain rfl := fM h
 obtain rfl := g_1_0
 obtain ⟨q, s, rfl, f, k⟩ := bZ g_1_1
 obtain ⟨l, m, rfl⟩ := aj f
 obtain rfl := k
 unfold cO at H
 refine aH Tryz.func129 z Tryz.ntmps129 z (St.init w []) <| sR <| oP z <| nQ <| ak <| sR <| aa [.p, .lenS 31 3 aP, .p] z <| nQ <| az <| CW.at (fG (fun (a : Int) => St w [] []) (fun a => [(0, S a_0 p0.length c_0), (1, .func (.func 105) #[] #[O (U q_1_0), O (U q_1_1)]), (7, I J (p0.length : Int)), (8, I J a)]) (fun kk => fun a => bJ p0 p1_0 p1_1 kk a = U r) (fun _ H => ?_) (fun v i a H => ?_) be (0) (H)) (ss [] z z) (sb z)
 ·unfold bJ at H
  exact absurd H (by simp)
 ·unfold bJ at H
  refine sR <| oP z <| nQ <| ak <| cI H z (fun H => ?_) (fun H => ?_)
  ·refine ar <| ax <| ak <| az <| sR <| oPP z <| nR <| aa [.p, .p, .p] z <| bE H fun t g H => bo (e := eI) (xs := p0) (j := a) z z z z z aP ty3 z (ad h) g (by rw [Nat.mul_one]) <| o1 z (aD z z ty3 (bD (ad h) g)) <| bE H fun u o H => Bh z z (aw z) (rW (cap := [O (U q_1_0), O (U q_1_1)]) z EX z z (fun d c => sj d (cs_1 := [I J p1_0]) (cs_2 := [S l p1_1.a_.length m, I J p1_1.k_]) o z (bW bor hA_1_0 d c) (aM (ad f d c) z) (bW bor hA_1_1 d c))) (fun _ _ => Y) <| nQ <| cI H z (fun H => ?_) (fun H => ?_)
   ·exact sR <| oPP z <| nT <| aL <| am <| bU <| aL <| am <| xr 4 z (by cases H; exact q1)
   ·exact ar <| cd <| ax <| aW <| oPP z <| ay <| cD (RW.at (i (J.wrap (a + 1)) (H)) (ss [] z z) (sb z))
  ·exact bF <| aN <| aR <| aO <| ax <| sR <| oP z <| nT <| xr 4 z (by cases H; exact q1)
theorem il (w : World) {p0 : List Int} {p1_0 : Int} {p1_1 : ah} {a_0 : Option Addr} {n_0 c_0 : Nat} {q_1_0 : Addr} {cs_1_0 : List Value} {q_1_1 : Addr} {cs_1_1 : List Value} {r : Bool} (H : co p0 p1_0 p1_1 = U r) (e : (ae eI 3).rd w [] p0 [S a_0 n_0 c_0]) (g_1_0 : eI.rd w [] p1_0 cs_1_0) (hA_1_0 : At w [] q_1_0 cs_1_0) (g_1_1 : (cz).rd w [] p1_1 cs_1_1) (hA_1_1 : At w [] q_1_1 cs_1_1) :
    Calls Tryz.prog 104 #[S a_0 n_0 c_0, .func (.func 105) #[] #[O (U q_1_0), O (U q_1_1)]] w (fun en w' => en = .returned (B r) ∧ Ext [] w w') := by
 obtain rfl := fM e
 obtain rfl := g_1_0
 obtain ⟨j, k, rfl, d, f⟩ := bZ g_1_1
 obtain ⟨g, h, rfl⟩ := aj d
 obtain rfl := f
 unfold co at H
 exact aH Tryz.func104 z Tryz.ntmps104 z (St.init w []) <| sR <| oP z <| nR <| oPP z <| bE H fun l i H => oq z (qc z AL (fun c a => iV c (cs_1_0 := [I J p1_0]) (cs_1_1 := [S g p1_1.a_.length h, I J p1_1.k_]) i (ad e c a) z (bW bor hA_1_0 c a) (aM (ad d c a) z) (bW bor hA_1_1 c a))) tt2 <| oPP z <| nT <| xr 4 z (by cases H; exact q1)
theorem uL (w : World) {p0 : ab} {p1 : ah} {p2 : Int} {a2 : List Value} {a3 : List Value} {r : Bool} (H : ng p0 p1 p2 = U r) (g0 : (aJ).rd w [] p0 a2) (g1 : (cz).rd w [] p1 a3) :
    Calls Tryz.prog 63 #[.agg a2.toArray, .agg a3.toArray, I J p2] w (fun en w' => en = .returned (B r) ∧ Ext [] w w') := by
 obtain ⟨f2, f3, rfl, m, o⟩ := aB g0
 obtain ⟨f4, f5, rfl⟩ := aj m
 obtain ⟨f6, f7, rfl⟩ := aj o
 obtain ⟨f8, f9, rfl, t, b6⟩ := bZ g1
 obtain ⟨b7, b8, rfl⟩ := aj t
 obtain rfl := b6
 unfold ng at H
 refine aH Tryz.func63 z Tryz.ntmps63 z (St.init w []) <| sR <| ob _ z fun l => ob _ z fun f => ob _ z fun g => oP z <| nR <| aa [.fa 30 0 0 cc] z <| o1 z (r1 0 1 z eC z) <| o1 z (r1 0 2 z ty3 z) <| bE H fun a b9 H => cn z z z z z dX ca z t b9 fun g2 g3 a7 a8 => ?_
 obtain ⟨g4, g5, g6, g7, g8, g9, h0, h1, h2, h3, rfl, c0, c1, u, c2, c3, c4, a4, c5, c6, c7⟩ := bj a7
 obtain rfl := c0
 obtain rfl := c1
 obtain ⟨v, x, rfl⟩ := aj u
 obtain rfl := c2
 obtain ⟨h4, h5, rfl, A, a5⟩ := aK c3
 obtain ⟨C, D, rfl⟩ := aj A
 obtain ⟨E, F, rfl⟩ := aj a5
 obtain rfl := c4
 obtain ⟨G, L, rfl⟩ := aj a4
 obtain rfl := c5
 obtain rfl := c6
 obtain rfl := c7
 refine o1 z (cA (cs := [B a.q_, I J a.g_.j_, I J a.g_.c_, S v a.r_.length x, I J a.w_, S C a.n_.e_.length D, S E a.n_.d_.length F, I J a.x_, S G a.b_.length L, I J a.m_, I J a.p_, I J a.s_]) z z ca (bW bor a8) z) <| aA z z z z ca (fun _ => kp) fun d => sC 0 [B a.q_, I J a.g_.j_, I J a.g_.c_, S v a.r_.length x, I J a.w_, S C a.n_.e_.length D, S E a.n_.d_.length F, I J a.x_, S G a.b_.length L, I J a.m_, I J a.p_, I J a.s_] [_, _, _, _, _, _, _, _, _, _, _, _] 3 z ca z <| nQ <| ak <| sR <| aa [.fa 71 7 9 lE] z <| o1 z (r1 9 3 z ty3 z) <| bE H fun a6 c8 H => oq z (qc z nP (fun e c => ck e c8)) tt2 <| oPP z <| bE H fun M P H => aS [(26, B M), (3, O (U ⟨l, 0, N⟩)), (4, O (U ⟨f, 0, N⟩)), (5, O (U ⟨g, 0, N⟩)), (7, O (U ⟨d, 0, N⟩))] 7 ?_ (fun key => OW.sub (R := [(3, O (U ⟨l, 0, N⟩)), (4, O (U ⟨f, 0, N⟩)), (5, O (U ⟨g, 0, N⟩)), (7, O (U ⟨d, 0, N⟩)), (19, B (!a6))]) ?_ (sb z))
 ·refine oP z <| bE H fun Q X H => aS [(33, B Q), (3, O (U ⟨l, 0, N⟩)), (4, O (U ⟨f, 0, N⟩)), (5, O (U ⟨g, 0, N⟩)), (7, O (U ⟨d, 0, N⟩))] 6 ?_ (fun key => OW.sub (R := [(3, O (U ⟨l, 0, N⟩)), (4, O (U ⟨f, 0, N⟩)), (5, O (U ⟨g, 0, N⟩)), (7, O (U ⟨d, 0, N⟩)), (27, B M)]) ?_ (sb z))
  ·refine oP z <| bE H fun c9 Z H => aS [(40, B c9), (3, O (U ⟨l, 0, N⟩)), (4, O (U ⟨f, 0, N⟩)), (5, O (U ⟨g, 0, N⟩)), (7, O (U ⟨d, 0, N⟩))] 6 ?_ (fun key => OW.sub (R := [(3, O (U ⟨l, 0, N⟩)), (4, O (U ⟨f, 0, N⟩)), (5, O (U ⟨g, 0, N⟩)), (7, O (U ⟨d, 0, N⟩)), (34, B Q)]) ?_ (sb z))
   ·refine nQ <| cI H z (fun H => ?_) (fun H => ?_)
    ·exact sR <| oP z <| nT <| am <| xr 6 z (by cases H; exact q1)
    ·refine ar <| ax <| ak <| sR <| aa [.fa 71 0 0 mg] z <| o1 z (r1 0 3 z ty4 z) <| nQ <| cI H z (fun H => ?_) (fun H => ?_)
     ·refine sR <| aa [.fa 71 4 5 gk, .fa 69 0 0 jz] z <| o1 z (r1 5 3 z cq z) <| bE H fun d0 d1 H => oq z (qc z Dx (fun e c => qY e d1 (ad A e c))) tt2 <| oP z <| nQ <| wy (fun (j : Int) => St w [] [b d 71 [B a.q_, I J a.g_.j_, I J a.g_.c_, S v a.r_.length x, I J a.w_, S C a.n_.e_.length D, S E a.n_.d_.length F, I J a.x_, S G a.b_.length L, I J a.m_, I J a.p_, I J a.s_]]) (fun j => [(7, O (U ⟨d, 0, N⟩)), (8, I J j)]) (fun j => jO a j = U r) (fun j H => ?_) (fun J1 => ?_)
      ·unfold jO at H
       refine sR <| aa [.fa 71 1 1 mf] z <| o1 z (rx 1 0 _ z cM z) <| o1 z (bL [] [I J 0, I J 0] z z cM wE z Y z) <| o1 z (De (xs := [I J a.g_.j_, I J a.g_.c_]) (ys := [I J 0, I J 0]) z z z (Fe a.g_.j_ 0 a.g_.c_ 0)) <| oP z <| aS [(61, B ((a.g_.j_ == 0 && (a.g_.c_ == 0 && y)) && ((a.r_.length : Int) == 0))), (7, O (U ⟨d, 0, N⟩)), (8, I J j)] 5 ?_ (fun key => OW.sub (R := [(7, O (U ⟨d, 0, N⟩)), (8, I J j), (56, B (a.g_.j_ == 0 && (a.g_.c_ == 0 && y)))]) ?_ (sb z))
       ·refine oP z <| aS [(66, B (((a.g_.j_ == 0 && (a.g_.c_ == 0 && y)) && ((a.r_.length : Int) == 0)) && (a.w_ == 0))), (7, O (U ⟨d, 0, N⟩)), (8, I J j)] 4 ?_ (fun key => OW.sub (R := [(7, O (U ⟨d, 0, N⟩)), (8, I J j), (62, B ((a.g_.j_ == 0 && (a.g_.c_ == 0 && y)) && ((a.r_.length : Int) == 0)))]) ?_ (sb z))
        ·refine oP z <| bE H fun d3 a0 H => aS [(72, B d3)] 5 ?_ (fun key => OW.sub (R := [(7, O (U ⟨d, 0, N⟩)), (8, I J j), (67, B (((a.g_.j_ == 0 && (a.g_.c_ == 0 && y)) && ((a.r_.length : Int) == 0)) && (a.w_ == 0)))]) ?_ (sb z))
         ·exact oP z <| nT <| am <| xr 6 z (by cases H; exact q1)
         ·clear H
          have H := a0
          clear a0
          generalize (((a.g_.j_ == 0 && (a.g_.c_ == 0 && y)) && ((a.r_.length : Int) == 0)) && (a.w_ == 0)) = d4 at H key ⊢
          cases d4
          ·have H := ba z H
           refine aa [.p, .p, .p, .p, .p] z ?_
           obtain rfl := ai H
           exact OW.sub key ⟨z, Y⟩
          ·have H := aZ z H
           refine aa [.fa 71 5 7 nV] z <| o1 z (r1 7 0 z ty3 z) <| oP z <| bE H fun h6 d5 H => oq z (qc z nP (fun e c => ck e d5)) tt2 <| oP z <| ?_
           obtain rfl := ai H
           exact OW.sub key ⟨z, Y⟩
        ·generalize ((a.g_.j_ == 0 && (a.g_.c_ == 0 && y)) && ((a.r_.length : Int) == 0)) = d6 at key ⊢
         cases d6
         ·exact aa [.p, .p, .p, .p] z <| OW.sub key (sb z)
         ·exact aa [.fa 71 3 4 pR] z <| o1 z (r1 4 0 z ty3 z) <| oP z <| oP z <| OW.sub key (sb z)
       ·generalize (a.g_.j_ == 0 && (a.g_.c_ == 0 && y)) = d7 at key ⊢
        cases d7
        ·exact aa [.p, .p, .p, .p, .p] z <| OW.sub key (sb z)
        ·exact aa [.fa 71 2 3 ik] z <| o1 z (r1 3 0 z cq z) <| aa [.lenS 31 3 aP, .p] z <| oP z <| OW.sub key (sb z)
      ·refine sR <| aa [.fa 71 4 5 gk, .fa 69 1 1 eE] z <| o1 z (r1 6 3 z kq z) <| aa [.lenS 67 31 iR, .p] z <| nQ <| cI H z (fun H => ?_) (fun H => ?_)
       ·exact aW <| oP z <| ay <| XW.at (J1 (0) (H)) (ss [3] z z) (sb z)
       ·exact ar <| XW.at (J1 (d0) (H)) (ss [3] z z) (sb z)
     ·refine ar <| ax <| sR <| o1 z (rx 0 0 _ z cg z) <| aa [.fa 71 1 1 mf] z <| o1 z (rx 1 3 _ z cM z) <| bE H fun h d8 H => oq z (qc z EW (fun e c => sM e (p1 := a.g_) d8 (af (ad m e c) (ad o e c)))) tt2 <| oP z <| nQ <| ak <| sR <| aa [.p, .p, .p] z <| aS [(85, B ((h == 0) || ((a.r_.length : Int) != h))), (4, O (U ⟨f, 0, N⟩)), (5, O (U ⟨g, 0, N⟩)), (7, O (U ⟨d, 0, N⟩)), (9, I J h)] 6 ?_ (fun key => OW.sub (R := [(4, O (U ⟨f, 0, N⟩)), (5, O (U ⟨g, 0, N⟩)), (7, O (U ⟨d, 0, N⟩)), (9, I J h), (79, B (h == 0))]) ?_ (sb z))
      ·refine oP z <| bE H fun a1 q H => aS [(91, B a1), (4, O (U ⟨f, 0, N⟩)), (5, O (U ⟨g, 0, N⟩)), (7, O (U ⟨d, 0, N⟩)), (9, I J h)] 5 ?_ (fun key => OW.sub (R := [(4, O (U ⟨f, 0, N⟩)), (5, O (U ⟨g, 0, N⟩)), (7, O (U ⟨d, 0, N⟩)), (9, I J h), (86, B ((h == 0) || ((a.r_.length : Int) != h)))]) ?_ (sb z))
       ·refine oP z <| bE H fun k s H => aS [(99, B k), (4, O (U ⟨f, 0, N⟩)), (5, O (U ⟨g, 0, N⟩)), (7, O (U ⟨d, 0, N⟩))] 7 ?_ (fun key => OW.sub (R := [(4, O (U ⟨f, 0, N⟩)), (5, O (U ⟨g, 0, N⟩)), (7, O (U ⟨d, 0, N⟩)), (9, I J h), (92, B a1)]) ?_ (sb z))
        ·refine oP z <| aS [(106, B (k || ((a.n_.d_.length : Int) != 0))), (4, O (U ⟨f, 0, N⟩)), (5, O (U ⟨g, 0, N⟩)), (7, O (U ⟨d, 0, N⟩))] 6 ?_ (fun key => OW.sub (R := [(4, O (U ⟨f, 0, N⟩)), (5, O (U ⟨g, 0, N⟩)), (7, O (U ⟨d, 0, N⟩)), (100, B k)]) ?_ (sb z))
         ·refine oP z <| aS [(111, B ((k || ((a.n_.d_.length : Int) != 0)) || (a.x_ != 0))), (4, O (U ⟨f, 0, N⟩)), (5, O (U ⟨g, 0, N⟩)), (7, O (U ⟨d, 0, N⟩))] 4 ?_ (fun key => OW.sub (R := [(4, O (U ⟨f, 0, N⟩)), (5, O (U ⟨g, 0, N⟩)), (7, O (U ⟨d, 0, N⟩)), (107, B (k || ((a.n_.d_.length : Int) != 0)))]) ?_ (sb z))
          ·refine nQ <| cI H z (fun H => ?_) (fun H => ?_)
           ·exact sR <| oP z <| nT <| am <| xr 6 z (by cases H; exact q1)
           ·exact ar <| ax <| sR <| aa [.fa 71 2 3 ik] z <| o1 z (r1 3 3 z cq z) <| o1 z (xg z z) <| bE H fun e9 a9 H => oq z (qc z AF (fun e c => il e (cs_1_0 := [I J p2]) (cs_1_1 := [S b7 p1.a_.length b8, I J p1.k_]) a9 (ad u e c) z (bB (T := 3) 0 (bX (i := 2) z) z e c) (aM (ad t e c) z) (bB (T := 30) 0 (bX (i := 1) z) z e c))) tt2 <| oPP z <| nT <| xr 6 z (by cases H; exact q1)
          ·generalize (k || ((a.n_.d_.length : Int) != 0)) = b0 at key ⊢
           cases b0
           ·exact aa [.fa 71 5 7 nV] z <| o1 z (r1 7 3 z ty3 z) <| oP z <| oP z <| OW.sub key (sb z)
           ·exact aa [.p, .p, .p, .p] z <| OW.sub key (sb z)
         ·generalize k = b1 at key ⊢
          cases b1
          ·exact aa [.fa 71 4 5 gk, .fa 69 1 1 eE] z <| o1 z (r1 6 3 z kq z) <| aa [.lenS 67 31 iR, .p] z <| oP z <| OW.sub key (sb z)
          ·exact aa [.p, .p, .p, .p, .p, .p] z <| OW.sub key (sb z)
        ·clear H
         have H := s
         clear s
         generalize a1 = b2 at H key ⊢
         cases b2
         ·have H := ba z H
          refine aa [.fa 71 3 4 pR] z <| o1 z (r1 4 3 z ty3 z) <| oPP z <| bE H fun f0 b3 H => oq z (qc z nP (fun e c => ck e b3)) tt2 <| oP z <| oP z <| ?_
          obtain rfl := ai H
          exact OW.sub key (sb z)
         ·have H := aZ z H
          refine aa [.p, .p, .p, .p, .p, .p, .p] z ?_
          obtain rfl := ai H
          exact OW.sub key (sb z)
       ·clear H
        have H := q
        clear q
        generalize ((h == 0) || ((a.r_.length : Int) != h)) = b4 at H key ⊢
        cases b4
        ·have H := ba z H
         refine aa [.fa 71 2 3 ik] z <| o1 z (r1 3 3 z cq z) <| bE H fun f1 b5 H => oq z (qc z BD (fun e c => mF e b5 (ad u e c))) tt2 <| oP z <| oP z <| ?_
         obtain rfl := ai H
         exact OW.sub key (sb z)
        ·have H := aZ z H
         refine aa [.p, .p, .p, .p, .p] z ?_
         obtain rfl := ai H
         exact OW.sub key (sb z)
      ·generalize (h == 0) = d9 at key ⊢
       cases d9
       ·exact aa [.fa 71 2 3 ik] z <| o1 z (r1 3 3 z cq z) <| aa [.lenS 31 3 aP, .p, .p] z <| oP z <| OW.sub key (sb z)
       ·exact aa [.p, .p, .p, .p, .p, .p] z <| OW.sub key (sb z)
   ·clear H
    have H := Z
    clear Z
    generalize Q = e0 at H key ⊢
    cases e0
    ·have H := ba z H
     refine o1 z (rx 0 0 _ z cg z) <| aa [.fa 71 6 8 qo] z <| o1 z (r1 8 3 z cq z) <| bE H fun h7 e1 H => oq z (qc z EE (fun e c => tC e e1 (af (ad m e c) (ad o e c)) (ad a4 e c))) tt2 <| oP z <| oP z <| ?_
     obtain rfl := ai H
     exact OW.sub key (sb z)
    ·have H := aZ z H
     refine aa [.p, .p, .p, .p, .p, .p] z ?_
     obtain rfl := ai H
     exact OW.sub key (sb z)
  ·clear H
   have H := X
   clear X
   generalize M = e2 at H key ⊢
   cases e2
   ·have H := ba z H
    refine o1 z (rx 0 0 _ z cg z) <| aa [.fa 71 4 5 gk] z <| o1 z (rx 5 3 _ z cT z) <| bE H fun h8 e3 H => oq z (qc z Gv (fun e c => tI e e3 (af (ad m e c) (ad o e c)) (aF (ad A e c) (ad a5 e c)))) tt2 <| oP z <| oP z <| ?_
    obtain rfl := ai H
    exact OW.sub key (sb z)
   ·have H := aZ z H
    refine aa [.p, .p, .p, .p, .p, .p] z ?_
    obtain rfl := ai H
    exact OW.sub key (sb z)
 ·clear H
  have H := P
  clear P
  generalize (!a6) = e4 at H key ⊢
  cases e4
  ·have H := ba z H
   refine aa [.fa 71 9 11 oT] z <| o1 z (r1 11 3 z ty3 z) <| aa [.fa 30 1 1 nt] z <| o1 z (r1 1 1 z ty3 z) <| bE H fun h9 e5 H => oq z (qc z nP (fun e c => ck e e5)) tt2 <| oP z <| oP z <| ?_
   obtain rfl := ai H
   exact OW.sub key (sb z)
  ·have H := aZ z H
   refine aa [.p, .p, .p, .p, .p, .p, .p] z ?_
   obtain rfl := ai H
   exact OW.sub key (sb z)
theorem jL (w : World) {p0 : List Int} {p1 : Int} {a_0 : Option Addr} {n_0 c_0 : Nat} {r : Int} (H : db p0 p1 = U r) (d : (ae eI 3).rd w [] p0 [S a_0 n_0 c_0]) :
    Calls Tryz.prog 31 #[S a_0 n_0 c_0, I J p1] w (fun en w' => en = .returned (I J r) ∧ Ext [] w w') := by
 obtain rfl := fM d
 unfold db at H
 refine aH Tryz.func31 z Tryz.ntmps31 z (St.init w []) <| sR <| oP z <| nQ <| ak <| sR <| aa [.p, .lenS 31 3 aP, .p] z <| nQ <| az <| CW.at (fG (fun (a : Int) => St w [] []) (fun a => [(0, S a_0 p0.length c_0), (1, I J p1), (7, I J (p0.length : Int)), (8, I J a)]) (fun kk => fun a => bG p0 p1 kk a = U r) (fun _ H => ?_) (fun h f a H => ?_) be (0) (H)) (ss [] z z) (sb z)
 ·unfold bG at H
  exact absurd H (by simp)
 ·unfold bG at H
  refine sR <| oP z <| nQ <| ak <| cI H z (fun H => ?_) (fun H => ?_)
  ·refine ar <| ax <| ak <| az <| sR <| oPP z <| nR <| aa [.p, .p, .p] z <| bE H fun g c H => bo (e := eI) (xs := p0) (j := a) z z z z z aP ty3 z (ad d) c (by rw [Nat.mul_one]) <| o1 z (aD z z ty3 (bD (ad d) c)) <| oP z <| nQ <| cI H z (fun H => ?_) (fun H => ?_)
   ·exact sR <| oPP z <| nT <| aL <| am <| bU <| aL <| am <| xr 4 z (by cases H; exact q1)
   ·exact ar <| cd <| ax <| aW <| oPP z <| ay <| cD (RW.at (f (J.wrap (a + 1)) (H)) (ss [] z z) (sb z))
  ·exact bF <| aN <| aR <| aO <| ax <| sR <| oP z <| nT <| xr 4 z (by cases H; exact q1)
theorem lW (w : World) {p0 : List Int} {p1 : Int} {a_0 : Option Addr} {n_0 c_0 : Nat} {r : Bool} (H : dJ p0 p1 = U r) (a : (ae eI 3).rd w [] p0 [S a_0 n_0 c_0]) :
    Calls Tryz.prog 64 #[S a_0 n_0 c_0, I J p1] w (fun en w' => en = .returned (B r) ∧ Ext [] w w') := by
 obtain rfl := fM a
 unfold dJ at H
 exact aH Tryz.func64 z Tryz.ntmps64 z (St.init w []) <| sR <| oP z <| nR <| oPP z <| bE H fun f c H => oq z (qc z EZ (fun d e => jL d c (ad a d e))) tt2 <| oPP z <| nT <| xr 4 z (by cases H; exact q1)
theorem qe (w : World) {p0 : ab} {p1 : ah} {b0 : List Value} {b1 : List Value} {r : Bool} (H : lV p0 p1 = U r) (g0 : (aJ).rd w [] p0 b0) (g1 : (cz).rd w [] p1 b1) :
    Calls Tryz.prog 28 #[.agg b0.toArray, .agg b1.toArray] w (fun en w' => en = .returned (B r) ∧ Ext [] w w') := by
 obtain ⟨j3, j4, rfl, s, t⟩ := aB g0
 obtain ⟨e6, e7, rfl⟩ := aj s
 obtain ⟨e9, f0, rfl⟩ := aj t
 obtain ⟨j5, j6, rfl, o, f1⟩ := bZ g1
 obtain ⟨g, h, rfl⟩ := aj o
 obtain rfl := f1
 unfold lV at H
 refine aH Tryz.func28 z Tryz.ntmps28 z (St.init w []) <| sR <| ob _ z fun e => ob _ z fun f => oP z <| nQ <| ak <| sR <| o1 z (rx 0 0 _ z cg z) <| bE H fun b2 f2 H => oq z (qc z ya (fun i j => gw i f2 (af (ad s i j) (ad t i j)))) tt2 <| oPP z <| bE H fun u v H => aS [(17, B u), (2, O (U ⟨e, 0, N⟩)), (3, O (U ⟨f, 0, N⟩))] 6 ?_ (fun key => OW.sub (R := [(2, O (U ⟨e, 0, N⟩)), (3, O (U ⟨f, 0, N⟩)), (11, B (!b2))]) ?_ (sb z))
 ·refine oP z <| bE H fun f3 x H => aS [(23, B f3), (2, O (U ⟨e, 0, N⟩)), (3, O (U ⟨f, 0, N⟩))] 5 ?_ (fun key => OW.sub (R := [(2, O (U ⟨e, 0, N⟩)), (3, O (U ⟨f, 0, N⟩)), (18, B u)]) ?_ (sb z))
  ·refine nQ <| cI H z (fun H => ?_) (fun H => ?_)
   ·exact sR <| oP z <| nT <| am <| xr 4 z (by cases H; exact q1)
   ·refine ar <| ax <| ak <| sR <| aa [.fa 30 0 0 cc] z <| o1 z (r1 0 1 z eC z) <| aa [.lenS 28 71 dX, .p] z <| nQ <| az <| CW.at (fG (fun (d : Int) => St w [] [b e 27 [S e6 p0.b_.length e7, S e9 p0.l_.length f0], b f 30 [S g p1.a_.length h, I J p1.k_]]) (fun d => [(2, O (U ⟨e, 0, N⟩)), (3, O (U ⟨f, 0, N⟩)), (25, S g p1.a_.length h), (26, I J (p1.a_.length : Int)), (27, I J d)]) (fun kk => fun d => dO p1 p0 kk d = U r) (fun _ H => ?_) (fun k1 A d H => ?_) be (0) (H)) (ss [0, 1] z z) (sb z)
    ·unfold dO at H
     exact absurd H (by simp)
    ·unfold dO at H
     refine sR <| oP z <| nQ <| ak <| cI H z (fun H => ?_) (fun H => ?_)
     ·refine ar <| ax <| ak <| az <| sR <| oP z <| bE H fun a b3 H => cn z z z z z dX ca z o b3 fun g2 g3 a6 a7 => ?_
      obtain ⟨g4, g5, g6, g7, g8, g9, h0, h1, h2, h3, rfl, b4, b5, b6, b7, b8, b9, c0, c1, c2, c3⟩ := bj a6
      obtain rfl := b4
      obtain rfl := b5
      obtain ⟨C, D, rfl⟩ := aj b6
      obtain rfl := b7
      obtain ⟨h4, h5, rfl, c4, c5⟩ := aK b8
      obtain ⟨E, F, rfl⟩ := aj c4
      obtain ⟨G, L, rfl⟩ := aj c5
      obtain rfl := b9
      obtain ⟨M, P, rfl⟩ := aj c0
      obtain rfl := c1
      obtain rfl := c2
      obtain rfl := c3
      refine o1 z (cA (cs := [B a.q_, I J a.g_.j_, I J a.g_.c_, S C a.r_.length D, I J a.w_, S E a.n_.e_.length F, S G a.n_.d_.length L, I J a.x_, S M a.b_.length P, I J a.m_, I J a.p_, I J a.s_]) z z ca (bW bor a7) z) <| aA z z z z ca (fun _ => kp) fun k => oP z <| sC 0 [B a.q_, I J a.g_.j_, I J a.g_.c_, S C a.r_.length D, I J a.w_, S E a.n_.e_.length F, S G a.n_.d_.length L, I J a.x_, S M a.b_.length P, I J a.m_, I J a.p_, I J a.s_] [_, _, _, _, _, _, _, _, _, _, _, _] 2 z ca z <| nQ <| ak <| sR <| o1 z (rx 0 0 _ z cg z) <| o1 z (rx 0 1 _ z bx z) <| oP z <| bE H fun h6 c6 H => oq z (qc z GA (fun i j => uL i c6 (af (ad s i j) (ad t i j)) (aM (ad o i j) z))) tt2 <| oP z <| nQ <| cI H z (fun H => ?_) (fun H => ?_)
      ·exact sR <| oP z <| nT <| am <| aL <| am <| bU <| aL <| am <| xr 4 z (by cases H; exact q1)
      ·refine ar <| ax <| ak <| sR <| oPP z <| nQ <| cI H z (fun H => ?_) (fun H => ?_)
       ·refine ak <| sR <| aa [.fa 71 8 10 nz] z <| o1 z (r1 10 2 z ty3 z) <| oPP z <| aS [(46, B ((a.p_ != (-1)) || (a.m_ != 0))), (2, O (U ⟨e, 0, N⟩)), (3, O (U ⟨f, 0, N⟩)), (6, O (U ⟨k, 0, N⟩)), (25, S g p1.a_.length h), (26, I J (p1.a_.length : Int)), (27, I J d)] 4 ?_ (fun key => OW.sub (R := [(2, O (U ⟨e, 0, N⟩)), (3, O (U ⟨f, 0, N⟩)), (6, O (U ⟨k, 0, N⟩)), (25, S g p1.a_.length h), (26, I J (p1.a_.length : Int)), (27, I J d), (42, B (a.p_ != (-1)))]) ?_ (sb z))
        ·refine oP z <| aS [(51, B (((a.p_ != (-1)) || (a.m_ != 0)) || (a.s_ != 0))), (2, O (U ⟨e, 0, N⟩)), (3, O (U ⟨f, 0, N⟩)), (25, S g p1.a_.length h), (26, I J (p1.a_.length : Int)), (27, I J d)] 4 ?_ (fun key => OW.sub (R := [(2, O (U ⟨e, 0, N⟩)), (3, O (U ⟨f, 0, N⟩)), (6, O (U ⟨k, 0, N⟩)), (25, S g p1.a_.length h), (26, I J (p1.a_.length : Int)), (27, I J d), (47, B ((a.p_ != (-1)) || (a.m_ != 0)))]) ?_ (sb z))
         ·refine nQ <| cI H z (fun H => ?_) (fun H => ?_)
          ·exact sR <| oP z <| nT <| am <| am <| aL <| am <| bU <| aL <| am <| xr 4 z (by cases H; exact q1)
          ·exact ar <| ax <| bF <| aN <| aO <| ax <| aW <| oPP z <| ay <| cD (RW.at (A (J.wrap (d + 1)) (H)) (ss [0, 1] z z) (sb z))
         ·generalize ((a.p_ != (-1)) || (a.m_ != 0)) = c7 at key ⊢
          cases c7
          ·exact aa [.fa 71 9 11 oT] z <| o1 z (r1 11 2 z ty3 z) <| oP z <| oP z <| OW.sub key (sb z)
          ·exact aa [.p, .p, .p, .p] z <| OW.sub key (sb z)
        ·generalize (a.p_ != (-1)) = c8 at key ⊢
         cases c8
         ·exact aa [.fa 71 7 9 lE] z <| o1 z (r1 9 2 z ty3 z) <| oP z <| oP z <| OW.sub key (sb z)
         ·exact aa [.p, .p, .p, .p] z <| OW.sub key (sb z)
       ·refine ar <| ax <| ak <| sR <| aa [.fa 71 8 10 nz] z <| o1 z (r1 10 2 z ty3 z) <| oPP z <| bE H fun h7 c9 H => oq z (qc z nP (fun i j => ck i c9)) tt2 <| oP z <| nQ <| cI H z (fun H => ?_) (fun H => ?_)
        ·exact sR <| oP z <| nT <| am <| aL <| am <| bU <| aL <| am <| xr 4 z (by cases H; exact q1)
        ·refine ar <| ax <| sR <| aa [.fa 30 0 0 cc] z <| o1 z (r1 0 1 z eC z) <| aa [.fa 71 8 10 nz] z <| o1 z (r1 10 2 z ty3 z) <| bE H fun c d0 H => cn z z z z z dX ca z o d0 fun h8 h9 a8 a9 => ?_
         obtain ⟨i0, i1, i2, i3, i4, i5, i6, i7, i8, i9, rfl, d1, d2, Q, d3, d4, d5, d6, d7, d8, d9⟩ := bj a8
         obtain rfl := d1
         obtain rfl := d2
         obtain ⟨X, Z, rfl⟩ := aj Q
         obtain rfl := d3
         obtain ⟨j0, j1, rfl, e0, e1⟩ := aK d4
         obtain ⟨a0, a1, rfl⟩ := aj e0
         obtain ⟨a2, a3, rfl⟩ := aj e1
         obtain rfl := d5
         obtain ⟨a4, a5, rfl⟩ := aj d6
         obtain rfl := d7
         obtain rfl := d8
         obtain rfl := d9
         refine o1 z (cA (cs := [B c.q_, I J c.g_.j_, I J c.g_.c_, S X c.r_.length Z, I J c.w_, S a0 c.n_.e_.length a1, S a2 c.n_.d_.length a3, I J c.x_, S a4 c.b_.length a5, I J c.m_, I J c.p_, I J c.s_]) z z ca (bW bor a9) z) <| aA z z z z ca (fun _ => kp) fun m => sC 0 [B c.q_, I J c.g_.j_, I J c.g_.c_, S X c.r_.length Z, I J c.w_, S a0 c.n_.e_.length a1, S a2 c.n_.d_.length a3, I J c.x_, S a4 c.b_.length a5, I J c.m_, I J c.p_, I J c.s_] [_, _, _, _, _, _, _, _, _, _, _, _] 3 z ca z <| nR <| aa [.fa 71 0 0 mg] z <| o1 z (r1 0 3 z ty4 z) <| oP z <| bE H fun l q H => aS [(72, B l), (2, O (U ⟨e, 0, N⟩)), (3, O (U ⟨f, 0, N⟩)), (6, O (U ⟨k, 0, N⟩)), (7, O (U ⟨m, 0, N⟩)), (25, S g p1.a_.length h), (26, I J (p1.a_.length : Int)), (27, I J d)] 6 ?_ (fun key => OW.sub (R := [(2, O (U ⟨e, 0, N⟩)), (3, O (U ⟨f, 0, N⟩)), (5, I J d), (6, O (U ⟨k, 0, N⟩)), (7, O (U ⟨m, 0, N⟩)), (25, S g p1.a_.length h), (26, I J (p1.a_.length : Int)), (27, I J d), (66, B c.q_)]) ?_ (sb z))
         ·refine oP z <| aS [(80, B (l || (c.m_ != (J.wrap (a.m_ - 1))))), (2, O (U ⟨e, 0, N⟩)), (3, O (U ⟨f, 0, N⟩)), (6, O (U ⟨k, 0, N⟩)), (7, O (U ⟨m, 0, N⟩)), (25, S g p1.a_.length h), (26, I J (p1.a_.length : Int)), (27, I J d)] 7 ?_ (fun key => OW.sub (R := [(2, O (U ⟨e, 0, N⟩)), (3, O (U ⟨f, 0, N⟩)), (6, O (U ⟨k, 0, N⟩)), (7, O (U ⟨m, 0, N⟩)), (25, S g p1.a_.length h), (26, I J (p1.a_.length : Int)), (27, I J d), (73, B l)]) ?_ (sb z))
          ·refine oP z <| aS [(87, B ((l || (c.m_ != (J.wrap (a.m_ - 1)))) || (decide (c.s_ > a.s_)))), (2, O (U ⟨e, 0, N⟩)), (3, O (U ⟨f, 0, N⟩)), (25, S g p1.a_.length h), (26, I J (p1.a_.length : Int)), (27, I J d)] 6 ?_ (fun key => OW.sub (R := [(2, O (U ⟨e, 0, N⟩)), (3, O (U ⟨f, 0, N⟩)), (6, O (U ⟨k, 0, N⟩)), (7, O (U ⟨m, 0, N⟩)), (25, S g p1.a_.length h), (26, I J (p1.a_.length : Int)), (27, I J d), (81, B (l || (c.m_ != (J.wrap (a.m_ - 1)))))]) ?_ (sb z))
           ·refine nQ <| cI H z (fun H => ?_) (fun H => ?_)
            ·exact sR <| oP z <| nT <| aL <| am <| bU <| aL <| am <| xr 4 z (by cases H; exact q1)
            ·exact ar <| cd <| ax <| aW <| oPP z <| ay <| cD (RW.at (A (J.wrap (d + 1)) (H)) (ss [0, 1] z z) (sb z))
           ·generalize (l || (c.m_ != (J.wrap (a.m_ - 1)))) = e2 at key ⊢
            cases e2
            ·exact aa [.fa 71 9 11 oT] z <| o1 z (r1 11 3 z ty3 z) <| aa [.fa 71 9 11 oT] z <| o1 z (r1 11 2 z ty3 z) <| oP z <| oP z <| OW.sub key (sb z)
            ·exact aa [.p, .p, .p, .p, .p, .p] z <| OW.sub key (sb z)
          ·generalize l = e3 at key ⊢
           cases e3
           ·exact aa [.fa 71 7 9 lE] z <| o1 z (r1 9 3 z ty3 z) <| aa [.fa 71 7 9 lE] z <| o1 z (r1 9 2 z ty3 z) <| oPP z <| oP z <| OW.sub key (sb z)
           ·exact aa [.p, .p, .p, .p, .p, .p, .p] z <| OW.sub key (sb z)
         ·clear H
          have H := q
          clear q
          generalize c.q_ = e4 at H key ⊢
          cases e4
          ·have H := ba z H
           refine aa [.fa 71 2 3 ik] z <| o1 z (r1 3 3 z cq z) <| oP z <| bE H fun j2 e5 H => oq z (qc z GI (fun i j => lW i e5 (ad Q i j))) tt2 <| oP z <| oP z <| ?_
           obtain rfl := ai H
           exact OW.sub key (sb z)
          ·have H := aZ z H
           refine aa [.p, .p, .p, .p, .p, .p] z ?_
           obtain rfl := ai H
           exact OW.sub key (sb z)
     ·exact bF <| aN <| aR <| aO <| ax <| sR <| oP z <| nT <| xr 4 z (by cases H; exact q1)
  ·clear H
   have H := x
   clear x
   generalize u = f4 at H key ⊢
   cases f4
   ·have H := ba z H
    refine aa [.fa 30 1 1 nt] z <| o1 z (r1 1 1 z ty3 z) <| bE H fun j7 f5 H => oq z (qc z nP (fun i j => ck i f5)) tt2 <| oP z <| oP z <| ?_
    obtain rfl := ai H
    exact OW.sub key (sb z)
   ·have H := aZ z H
    refine aa [.p, .p, .p, .p, .p] z ?_
    obtain rfl := ai H
    exact OW.sub key (sb z)
 ·clear H
  have H := v
  clear v
  generalize (!b2) = f6 at H key ⊢
  cases f6
  ·have H := ba z H
   refine aa [.fa 30 0 0 cc] z <| o1 z (r1 0 1 z eC z) <| aa [.lenS 28 71 dX] z <| bE H fun j8 f7 H => oq z (qc z nP (fun i j => ck i f7)) tt2 <| oP z <| oP z <| ?_
   obtain rfl := ai H
   exact OW.sub key (sb z)
  ·have H := aZ z H
   refine aa [.p, .p, .p, .p, .p, .p] z ?_
   obtain rfl := ai H
   exact OW.sub key (sb z)
theorem qa (w : World) {p0 : Int} {r : List UInt8} (H : lU p0 = U r) (gT : (sf Tryz.prog).rd w [] () []) :
    Calls Tryz.prog 51 #[I J p0] w (fun en w' => en = .returned (vS r) ∧ Ext [] w w') := by
 unfold lU at H
 exact aH Tryz.func51 z Tryz.ntmps51 z (St.init w []) <| sR <| oP z <| nR <| oP z <| bE H fun e a H => oq z (qc z Gi (fun c d => Dj Tryz.laysM171 c a (ad gT c d))) tt2 <| oP z <| nT <| xr 2 z (by cases H; exact q1)
theorem uR (w : World) {h : List Nat} {p0b : List Int} {p0 : ao} {p1 : ab} {b_0 : Nat} {a_p0b : Option Addr} {n_p0b c_p0b : Nat} {t : List Value} {r : aY × ao} (H : np p0b p0 p1 = U r) (HS : St w h [b b_0 91 [S a_p0b p0b.length c_p0b, I J p0.i_, I J p0.h_]] w) (g_p0b : (ae e8 5).rd w h p0b [S a_p0b n_p0b c_p0b]) (g1 : (aJ).rd w h p1 t) :
    Calls Tryz.prog 27 #[O (U ⟨b_0, 0, N⟩), .agg t.toArray] w (fun en w' => ∃ v, en = .returned v ∧ ∃ (R : Option Addr), ∃ (X : Nat), ∃ (c0 : Nat), ∃ (F0 : List Nat), v = .agg #[S R X c0, I J r.1.v_] ∧ St w h [W (ae eI 3) F0 r.1.o_ [S R X c0], b b_0 91 [S a_p0b n_p0b c_p0b, I J r.2.i_, I J r.2.h_]] w') := by
 obtain rfl := fM g_p0b
 obtain ⟨b5, b6, rfl, u, x⟩ := aB g1
 obtain ⟨Z, a1, rfl⟩ := aj u
 obtain ⟨a2, a3, rfl⟩ := aj x
 unfold np at H
 refine aH Tryz.func27 z Tryz.ntmps27 z (HS) <| sR <| ob _ z fun a4 => aA z z z z gm (fun _ => kp) fun a5 => nR <| oP z <| o1 z (rx 0 1 _ z cg z) <| bE H fun a a6 H => au z Er z z z z (fun g c => nv g a6 (c.carve [0] z z) (rdB [0] z z c g_p0b) (af (rdB [0] z z c u) (rdB [0] z z c x))) fun b7 g D c E => ?_
 obtain ⟨d, b8, f, k, rfl, s⟩ := E
 obtain rfl := aI (i := 0) s z
 refine ⟨St w h [_, _, _, _, _], c.comp [0] z z s, fun _ _ => Y, ?_⟩
 refine aA z z z z gm (fun _ => kp) fun a7 => sC 0 [S d a.1.o_.length f, I J a.1.v_] [_, _] 5 z gm z <| nQ <| ak <| sR <| oP z <| bE H fun b9 a8 H => au z qq z z z z (fun g c => cJ g a8 (c.carve [4] z z) (rdB [4] z z c g_p0b)) fun c1 g D c F => ?_
 obtain ⟨rfl, G⟩ := F
 refine ⟨St w h [_, _, _, _, _, _, _], c.comp [4] z z G, fun _ _ => Y, ?_⟩
 refine nQ <| az <| ak <| CW.weak (C' := St w h [_, _, _, _, _]) ?_ (ss [1, 2, 3, 5, 6] z z)
 refine aW <| oPP z <| nQ <| cI H z (fun H => ?_) (fun H => ?_)
 ·refine aW <| oP z <| bQ (val := I J) (h1 := fun _ => z) [(-1), (-2), 3, 2, 9223372036854775807] [(0, [I J (-1)]), (1, [I J (-2)]), (2, [I J 3]), (3, [I J 2]), (4, [I J 9223372036854775807])] z z z z z aP ty3 z z z ⟨z, z, nl z, z, z, nl z, z, z, nl z, z, z, nl z, z, z, nl z, Y⟩ z z (fun _ => kp) fun c2 => bE H fun q a9 H => au z jY z z z z (fun g c => bb g a9 (c.carve [4] z z) (rdB [4] z z c g_p0b) (rdO 5 [4] z c z z)) fun c3 g D c L => ?_
  obtain ⟨rfl, M⟩ := L
  refine ⟨St w h [_, _, _, _, _, _, _], c.comp [4] z z M, fun _ _ => Y, ?_⟩
  exact aa [.fa 33 1 1 oR] z <| sC 1 [I J q.1] [_, _] 3 z ty3 z <| ay <| cd <| ax <| sR <| o1 z (rx 0 3 _ z gm z) <| sC 0 [S d a.1.o_.length f, I J q.1] [_, _] 1 z gm z <| nT <| bg (rs := [.cell 4 33]) (vs := [.agg #[S d a.1.o_.length f, I J q.1]]) z ⟨⟨_, [S d a.1.o_.length f, I J q.1], _, _, _, z, gm, (bB (T := 33) 0 (bX (i := 1) z) z), z, z⟩, Y⟩ (fun w' hw' => by
   obtain rfl := ai H
   exact ⟨_, z, d, a.1.o_.length, f, k, z, hw'.sel [2, 6] z z⟩)
 ·refine sR <| oPP z <| nQ <| cI H z (fun H => ?_) (fun H => ?_)
  ·exact aW <| aa [.fa 33 0 0 jW] z <| o1 z (r1 0 3 z cq z) <| bQ (val := I J) (h1 := fun _ => z) [0] [(0, [I J 0])] z z z z z aP ty3 z z z ⟨z, z, nl z, Y⟩ z z (fun _ => kp) fun c4 => bE H fun l A H => cm (r := 2) (ys := ([0] : List Int)) z z z z z z aP ty3 z z z (ap (e := ae eI 3) (r := 5) z) A (fun _ _ _ => kp) fun m o b0 => ct z (fun g c => fh (i := 2) c z (ff A)) fun b4 => aa [.fa 33 0 0 jW] z <| sC 0 [S m l.length o] [_, _] 3 z cq z <| ay <| cd <| ax <| sR <| o1 z (rx 0 3 _ z gm z) <| sC 0 [S m l.length o, I J a.1.v_] [_, _] 1 z gm z <| nT <| bg (rs := [.cell 4 33]) (vs := [.agg #[S m l.length o, I J a.1.v_]]) z ⟨⟨_, [S m l.length o, I J a.1.v_], _, _, _, z, gm, (bB (T := 33) 0 (bX (i := 1) z) z), z, z⟩, Y⟩ (fun w' hw' => by
    obtain rfl := ai H
    exact ⟨_, z, m, l.length, o, b0, z, hw'.sel [2, 4] z z⟩)
  ·refine sR <| oPP z <| nQ <| cI H z (fun H => ?_) (fun H => ?_)
   ·refine sR <| aa [.fa 33 0 0 jW] z <| o1 z (r1 0 3 z cq z) <| aa [.lenS 31 3 aP, .p] z <| nQ <| cI H z (fun H => ?_) (fun H => ?_)
    ·refine dj 5 [(0, y), (1, y), (2, y), (3, n), (4, n)] (St w h [b a4 27 [S Z p1.b_.length a1, S a2 p1.l_.length a3], b a5 33 [S N 0 0, I J 0], W (ae eI 3) k a.1.o_ [S d a.1.o_.length f], b a7 33 [S d a.1.o_.length f, I J a.1.v_], Res.nil]) cj (by kernel_rfl) (bv (aX bn)) (sm [y, y, y, y, n] z) <| aa [.fa 33 0 0 jW] z <| bu z (aw z) (r1 0 3 z cq z) <| oP z <| bQ (val := I J) (h1 := fun _ => z) [(-2), 4, 3, (-1)] [(0, [I J (-2)]), (1, [I J 4]), (2, [I J 3]), (3, [I J (-1)])] z z z z z aP ty3 z z z ⟨z, z, nl z, z, z, nl z, z, z, nl z, z, z, nl z, Y⟩ z z (fun _ => (sm [y, y, y, y, n] z)) fun c5 => bE H fun c6 b1 H => au z jY z z z z (fun g c => bb g b1 (c.carve [4] z z) (rdB [4] z z c g_p0b) (rdO 5 [4] z c z z)) fun c7 g D c P => ?_
     obtain ⟨rfl, Q⟩ := P
     refine ⟨St w h [_, _, _, _, _, _, _], c.comp [4] z z Q, (sm [y, y, y, y, n] z), ?_⟩
     exact aQ <| kd <| bE H fun c8 C H => bo (e := eI) (xs := a.1.o_) (j := 0) z z z z z aP ty3 z (ap (e := ae eI 3) (r := 2) z) C (by rw [Nat.mul_one]) <| jN (i := 2) (j := 0) z z z z z z ty3 z C (fun _ => z) kp <| ay <| cd <| ax <| sR <| o1 z (rx 0 3 _ z gm z) <| sC 0 [S d a.1.o_.length f, I J a.1.v_] [_, _] 1 z gm z <| nT <| bg (rs := [.cell 4 33]) (vs := [.agg #[S d a.1.o_.length f, I J a.1.v_]]) z ⟨⟨_, [S d a.1.o_.length f, I J a.1.v_], _, _, _, z, gm, (bB (T := 33) 0 (bX (i := 1) z) z), z, z⟩, Y⟩ (fun w' hw' => by
      obtain rfl := ai H
      exact ⟨_, z, d, a.1.o_.length, f, k, z, hw'.sel [2, 6] z z⟩)
    ·exact ar <| cd <| ax <| sR <| o1 z (rx 0 3 _ z gm z) <| sC 0 [S d a.1.o_.length f, I J a.1.v_] [_, _] 1 z gm z <| nT <| bg (rs := [.cell 4 33]) (vs := [.agg #[S d a.1.o_.length f, I J a.1.v_]]) z ⟨⟨_, [S d a.1.o_.length f, I J a.1.v_], _, _, _, z, gm, (bB (T := 33) 0 (bX (i := 1) z) z), z, z⟩, Y⟩ (fun w' hw' => by
      obtain rfl := ai H
      exact ⟨_, z, d, a.1.o_.length, f, k, z, hw'.sel [2, 4] z z⟩)
   ·exact ar <| cd <| ax <| sR <| o1 z (rx 0 3 _ z gm z) <| sC 0 [S d a.1.o_.length f, I J a.1.v_] [_, _] 1 z gm z <| nT <| bg (rs := [.cell 4 33]) (vs := [.agg #[S d a.1.o_.length f, I J a.1.v_]]) z ⟨⟨_, [S d a.1.o_.length f, I J a.1.v_], _, _, _, z, gm, (bB (T := 33) 0 (bX (i := 1) z) z), z, z⟩, Y⟩ (fun w' hw' => by
     obtain rfl := ai H
     exact ⟨_, z, d, a.1.o_.length, f, k, z, hw'.sel [2, 4] z z⟩)
theorem rk (w : World) {o : List Nat} {p0 : List Int} {a_0 : Option Addr} {n_0 c_0 : Nat} {r : ab × ah × aY} (H : kh p0 = U r) (HS : St w o [] w) (t : (ae e8 5).rd w o p0 [S a_0 n_0 c_0]) :
    Calls Tryz.prog 6 #[S a_0 n_0 c_0] w (fun en w' => ∃ v, en = .returned v ∧ ∃ (Q : Option Addr), ∃ (R : Nat), ∃ (c0 : Nat), ∃ (F0 : List Nat), ∃ (X : Option Addr), ∃ (Z : Nat), ∃ (c1 : Nat), ∃ (F1 : List Nat), ∃ (a2 : Option Addr), ∃ (n2 : Nat), ∃ (c2 : Nat), ∃ (F2 : List Nat), ∃ (a3 : Option Addr), ∃ (n3 : Nat), ∃ (c3 : Nat), ∃ (F3 : List Nat), v = .tuple #[.agg #[S Q R c0, S X Z c1], .agg #[S a2 n2 c2, I J r.2.1.k_], .agg #[S a3 n3 c3, I J r.2.2.v_]] ∧ St w o [W (ae (cb) 63) F0 r.1.b_ [S Q R c0], W (ae (dF) 9) F1 r.1.l_ [S X Z c1], W (ae (aC) 71) F2 r.2.1.a_ [S a2 n2 c2], W (ae eI 3) F3 r.2.2.o_ [S a3 n3 c3]] w') := by
 obtain rfl := fM t
 unfold kh at H
 refine aH Tryz.func6 z Tryz.ntmps6 z (HS) <| sR <| aA z z z z cg (fun _ => kp) fun c5 => aA z z z z bx (fun _ => kp) fun a8 => aA z z z z gm (fun _ => kp) fun a9 => nR <| oP z <| bE H fun c6 b0 H => au z Gd z z z z (fun e a => vn e b0 (a.carve [] z z) (ad t e a)) fun c7 e E a F => ?_
 obtain ⟨c8, rfl, G⟩ := F
 refine ⟨St w o [_, _, _, _], a.comp [] z z G, fun _ _ => Y, ?_⟩
 refine oP z <| nR <| oP z <| bE H fun c b1 H => au z Gy z z z z (fun e a => tG e b1 (a.carve [3] z z) (rdB [3] z z a t)) fun c9 e E a L => ?_
 obtain ⟨f, d0, g, A, h, d1, j, C, rfl, p⟩ := L
 obtain rfl := aI (i := 0) p z
 obtain rfl := aI (i := 1) p z
 refine ⟨St w o [_, _, _, _, _, _, _], a.comp [3] z z p, fun _ _ => Y, ?_⟩
 refine aA z z z z cg (fun _ => kp) fun b2 => sC 0 [S f c.1.b_.length g, S h c.1.l_.length j] [_, _] 7 z cg z <| nR <| oP z <| o1 z (rx 0 7 _ z cg z) <| bE H fun d b3 H => au z Gq z z z z (fun e a => tL e b3 (a.carve [6] z z) (rdB [6] z z a t) (af (rdO 4 [6] z a z z) (rdO 5 [6] z a z z))) fun d2 e E a M => ?_
 obtain ⟨k, d3, l, D, rfl, u⟩ := M
 obtain rfl := aI (i := 0) u z
 refine ⟨St w o [_, _, _, _, _, _, _, _, _, _], a.comp [6] z z u, fun _ _ => Y, ?_⟩
 refine aA z z z z bx (fun _ => kp) fun b4 => sC 0 [S k d.1.a_.length l, I J d.1.k_] [_, _] 10 z bx z <| nQ <| ak <| CW.weak (C' := St w o [_, _, _, _, _, _, _, _, _]) ?_ (ss [0, 1, 2, 4, 5, 7, 8, 9, 10] z z)
 refine dj 6 [(0, y), (1, y), (2, y), (3, y), (4, n), (5, n)] (St w o [Res.nil, b a8 30 [S N 0 0, I J 0], b a9 33 [S N 0 0, I J 0], W (ae (cb) 63) A c.1.b_ [S f c.1.b_.length g], W (ae (dF) 9) C c.1.l_ [S h c.1.l_.length j], b b2 27 [S f c.1.b_.length g, S h c.1.l_.length j], W (ae (aC) 71) D d.1.a_ [S k d.1.a_.length l], Res.nil, b b4 30 [S k d.1.a_.length l, I J d.1.k_]]) cj (by kernel_rfl) (aX bn) (sm [n, y, y, y, y, y, y, n, y] z) <| bu z (aw z) (rx 0 5 _ z cg z) <| bu z (aw z) (rx 0 8 _ z bx z) <| oP z <| bu z (aw z) (rx 0 5 _ z cg z) <| bE H fun m b5 H => au z GQ z z z z (fun e a => uR e b5 (a.carve [7] z z) (rdB [7] z z a t) (af (rdO 3 [7] z a z z) (rdO 4 [7] z a z z))) fun d4 e E a P => ?_
 obtain ⟨q, d5, s, b6, rfl, x⟩ := P
 obtain rfl := aI (i := 0) x z
 refine ⟨St w o [_, _, _, _, _, _, _, _, _, _, _], a.comp [7] z z x, (sm [n, y, y, y, y, y, y, n, y] z), ?_⟩
 exact bq (off := 0) [S f c.1.b_.length g, S h c.1.l_.length j] [_, _] (i := 0) z z z z z z cg z z (al z) z z z (sm [n, y, y, y, y, y, y, n, y] z) <| aQ <| kd <| sC 0 [S k d.1.a_.length l, I J d.1.k_] [_, _] 1 z bx z <| sC 0 [S q m.1.o_.length s, I J m.1.v_] [_, _] 2 z gm z <| nT <| bg (rs := [.cell 2 27, .cell 3 30, .cell 4 33]) (vs := [.agg #[S f c.1.b_.length g, S h c.1.l_.length j], .agg #[S k d.1.a_.length l, I J d.1.k_], .agg #[S q m.1.o_.length s, I J m.1.v_]]) z ⟨⟨_, [S f c.1.b_.length g, S h c.1.l_.length j], _, _, _, z, cg, (bB (T := 27) 0 (bX (i := 0) z) z), z, z⟩, ⟨_, [S k d.1.a_.length l, I J d.1.k_], _, _, _, z, bx, (bB (T := 30) 0 (bX (i := 1) z) z), z, z⟩, ⟨_, [S q m.1.o_.length s, I J m.1.v_], _, _, _, z, gm, (bB (T := 33) 0 (bX (i := 2) z) z), z, z⟩, Y⟩ (fun w' hw' => by
  obtain rfl := ai H
  exact ⟨_, z, f, c.1.b_.length, g, A, h, c.1.l_.length, j, C, k, d.1.a_.length, l, D, q, m.1.o_.length, s, b6, z, hw'.sel [3, 4, 6, 9] z z⟩)
theorem sr (w : World) {p0 : aT} {a : List Value} {r : Bool} (H : nc p0 = U r) (p : (aC).rd w [] p0 a) :
    Calls Tryz.prog 46 #[.agg a.toArray] w (fun en w' => en = .returned (B r) ∧ Ext [] w w') := by
 obtain ⟨q, s, t, u, v, x, A, C, D, E, rfl, c, d, e, f, g, h, i, j, k, l⟩ := bj p
 obtain rfl := c
 obtain rfl := d
 obtain ⟨F, G, rfl⟩ := aj e
 obtain rfl := f
 obtain ⟨L, M, rfl, m, o⟩ := aK g
 obtain ⟨P, Q, rfl⟩ := aj m
 obtain ⟨R, X, rfl⟩ := aj o
 obtain rfl := h
 obtain ⟨Z, a0, rfl⟩ := aj i
 obtain rfl := j
 obtain rfl := k
 obtain rfl := l
 unfold nc at H
 exact aH Tryz.func46 z Tryz.ntmps46 z (St.init w []) <| sR <| ob _ z fun a1 => oP z <| nR <| aa [.fa 71 0 0 mg] z <| o1 z (r1 0 0 z ty4 z) <| oP z <| nT <| xr 2 z (by cases H; exact q1)
theorem mr (w : World) {L : List Nat} {p0 : ah} {R : List Value} {r : List Int} (H : fi p0 = U r) (HS : St w L [] w) (g0 : (cz).rd w L p0 R) :
    Calls Tryz.prog 45 #[.agg R.toArray, .func (.func 46) #[] #[]] w (fun en w' => ∃ v, en = .returned v ∧ ∃ (a0 : Option Addr), ∃ (n0 : Nat), ∃ (c0 : Nat), ∃ (F0 : List Nat), v = S a0 n0 c0 ∧ St w L [W (ae eI 3) F0 r [S a0 n0 c0]] w') := by
 obtain ⟨e1, e2, rfl, X, b8⟩ := bZ g0
 obtain ⟨b9, c1, rfl⟩ := aj X
 obtain rfl := b8
 unfold fi at H
 refine aH Tryz.func45 z Tryz.ntmps45 z (HS) <| sR <| ob _ z fun e3 => oP z <| nR <| ce (e := eI) z z z z aP ty3 (fun _ => kp) fun Z => oP z <| nQ <| ak <| sR <| aa [.fa 30 0 0 cc] z <| o1 z (r1 0 0 z eC z) <| aa [.lenS 28 71 dX, .p] z <| nQ <| az <| CW.at (iX (fun (c : Int) (d : List Int) (f : Option Addr) (g : Nat) (h : List Nat) => St w L [W (ae eI 3) h d [S f d.length g]]) (fun c d f g h => [(1, .func (.func 46) #[] #[]), (5, S f d.length g), (10, S b9 p0.a_.length c1), (11, I J (p0.a_.length : Int)), (12, I J c)]) (fun kk => fun c d f g h => f.isNone = n ∧ bz p0 kk c d = U r) (fun _ _ _ _ _ H => ?_) (fun k1 l c d f g h ⟨a1, H⟩ => ?_) be (0) (([] : List Int)) ((U ⟨Z, 0, N⟩)) (0) ([Z]) (⟨z, H⟩)) (ss [1] z z) (sb z)
 ·unfold bz at H
  exact absurd H (by simp)
 ·unfold bz at H
  refine sR <| oP z <| nQ <| ak <| cI H z (fun H => ?_) (fun H => ?_)
  ·refine ar <| ax <| ak <| az <| sR <| oP z <| bE H fun a a2 H => cn z z z z z dX ca z X a2 fun c4 c5 M P => ?_
   obtain ⟨c6, c7, c8, c9, d0, d1, d2, d3, d4, d5, rfl, a3, a4, m, a5, a6, a7, o, a8, a9, b0⟩ := bj M
   obtain rfl := a3
   obtain rfl := a4
   obtain ⟨q, s, rfl⟩ := aj m
   obtain rfl := a5
   obtain ⟨d6, d7, rfl, t, u⟩ := aK a6
   obtain ⟨x, A, rfl⟩ := aj t
   obtain ⟨C, D, rfl⟩ := aj u
   obtain rfl := a7
   obtain ⟨E, F, rfl⟩ := aj o
   obtain rfl := a8
   obtain rfl := a9
   obtain rfl := b0
   refine o1 z (cA (cs := [B a.q_, I J a.g_.j_, I J a.g_.c_, S q a.r_.length s, I J a.w_, S x a.n_.e_.length A, S C a.n_.d_.length D, I J a.x_, S E a.b_.length F, I J a.m_, I J a.p_, I J a.s_]) z z ca (bW bor P) z) <| aA z z z z ca (fun _ => kp) fun d8 => oP z <| sC 0 [B a.q_, I J a.g_.j_, I J a.g_.c_, S q a.r_.length s, I J a.w_, S x a.n_.e_.length A, S C a.n_.d_.length D, I J a.x_, S E a.b_.length F, I J a.m_, I J a.p_, I J a.s_] [_, _, _, _, _, _, _, _, _, _, _, _] 1 z ca z <| nR <| oP z <| o1 z (rx 0 1 _ z ca z) <| bE H fun d9 b1 H => Bh z z (aw z) (rW (cap := []) z GP z z (fun k j => sr k b1 (iQ z z (ad m k j) z (aF (ad t k j) (ad u k j)) z (ad o k j) z z z))) (fun _ _ => Y) <| nQ <| cI H z (fun H => ?_) (fun H => ?_)
   ·exact aW <| oPP z <| bQ (val := I J) (h1 := fun _ => z) [c] [(0, [I J c])] z z z z z aP ty3 z z z ⟨z, z, nl z, Y⟩ z z (fun _ => kp) fun e0 => bE H fun b2 G H => cm (r := 0) (ys := ([c] : List Int)) z z z z z z aP ty3 z z z (ap (e := ae eI 3) (r := 2) z) G (fun _ _ _ => kp) fun b3 b4 b5 => ct z (fun k j => fh (i := 0) j z (ff G)) fun Q => oP z <| ay <| cd <| ax <| aW <| oPP z <| ay <| cD (RW.at (l (J.wrap (c + 1)) (b2) (b3) (b4) (b5) (⟨Q, H⟩)) (ss [0] z z) (sb z))
   ·exact ar <| cd <| ax <| aW <| oPP z <| ay <| cD (RW.at (l (J.wrap (c + 1)) (d) (f) (g) (h) (⟨a1, H⟩)) (ss [0] z z) (sb z))
  ·exact bF <| aN <| aR <| aO <| ax <| sR <| oPP z <| nT <| bg (rs := [.tmp 4]) (vs := [S f d.length g]) z ⟨z, Y⟩ (fun w' hw' => by
    obtain rfl := ai H
    exact ⟨_, z, f, d.length, g, h, z, hw'.sel [0] z z⟩)
theorem qz (w : World) {d : List Nat} {p0 : ah} {e : List Value} {r : List Int} (H : lQ p0 = U r) (HS : St w d [] w) (t : (cz).rd w d p0 e) :
    Calls Tryz.prog 14 #[.agg e.toArray] w (fun en w' => ∃ v, en = .returned v ∧ ∃ (m : Option Addr), ∃ (o : Nat), ∃ (c0 : Nat), ∃ (u : List Nat), v = S m o c0 ∧ St w d [W (ae eI 3) u r [S m o c0]] w') := by
 obtain ⟨x, A, rfl, f, p⟩ := bZ t
 obtain ⟨C, D, rfl⟩ := aj f
 obtain rfl := p
 unfold lQ at H
 refine aH Tryz.func14 z Tryz.ntmps14 z (HS) <| sR <| ob _ z fun E => oP z <| nR <| o1 z (rx 0 0 _ z bx z) <| bE H fun g q H => au z GO z z z z (fun k a => mr k q (a.carve [] z z) (aM (ad f k a) z)) fun F k L a l => ?_
 obtain ⟨h, G, j, s, rfl, c⟩ := l
 obtain rfl := aI (i := 0) c z
 refine ⟨St w d [_, _], a.comp [] z z c, fun _ _ => Y, ?_⟩
 exact oP z <| nT <| bg (rs := [.tmp 2]) (vs := [S h g.length j]) z ⟨z, Y⟩ (fun w' hw' => by
  obtain rfl := ai H
  exact ⟨_, z, h, g.length, j, s, z, hw'.sel [1] z z⟩)
theorem mK (w : World) {p0 : bc} {f : List Value} {r : Int} (H : gC p0 = U r) (k : (cb).rd w [] p0 f) :
    Calls Tryz.prog 29 #[.agg f.toArray] w (fun en w' => en = .returned (I J r) ∧ Ext [] w w') := by
 obtain ⟨l, m, o, rfl, g, d, e⟩ := bA k
 obtain rfl := g
 obtain ⟨q, s, rfl⟩ := aj d
 obtain ⟨t, u, rfl⟩ := aj e
 unfold gC at H
 refine aH Tryz.func29 z Tryz.ntmps29 z (St.init w []) <| sR <| ob _ z fun v => oP z <| nQ <| ak <| sR <| o1 z (rx 0 0 _ z dD z) <| bE H fun x h H => oq z (qc z DS (fun c a => oe c h (bO z (ad d c a) (ad e c a)))) tt2 <| oP z <| nQ <| cI H z (fun H => ?_) (fun H => ?_)
 ·exact sR <| oP z <| nT <| am <| xr 2 z (by cases H; exact q1)
 ·exact ar <| ax <| sR <| o1 z (rx 0 0 _ z dD z) <| bE H fun A i H => oq z (qc z vf (fun c a => gE c i (bO z (ad d c a) (ad e c a)))) tt2 <| bE H fun C j H => o1 z (xR z z z j) <| aa [.p, .p, .p] z <| nT <| xr 2 z (by cases H; exact q1)
end Go.Vk
