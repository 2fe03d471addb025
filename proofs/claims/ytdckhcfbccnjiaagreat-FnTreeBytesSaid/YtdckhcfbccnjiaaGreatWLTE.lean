/- The code does what the functions of data say. Printed by program. -/
import Derived.Test.YtdckhcfbccnjiaaGreatWLTD
namespace Go.Vk
open Value renaming int → I, slice → S, pointer → O, bool → B
open IntKind renaming i64 → J, u8 → K
open Bool renaming true → y, false → n
open Option renaming some → U, none → N
open Res renaming box → b, own → W
open Go.Proofs Go.RowKit
set_option maxHeartbeats 4000000
set_option maxRecDepth 100000
theorem uc (w : World) {o : List Nat} {p0b : List Int} {p0 : ak} {p1 : ae} {b_0 : Nat} {a_p0b : Option Addr} {n_p0b c_p0b : Nat} {e1 : List Value} {r : ar × ak} (H : my p0b p0 p1 = U r) (HS : St w o [b b_0 77 [S a_p0b p0b.length c_p0b, I J p0.i_, I J p0.h_]] w) (g_p0b : (ad e8 5).rd w o p0b [S a_p0b n_p0b c_p0b]) (g1 : (bk).rd w o p1 e1) :
    Calls Tryz.prog 63 #[O (U ⟨b_0, 0, N⟩), .agg e1.toArray] w (fun en w' => ∃ v, en = .returned v ∧ ∃ (a0 : Option Addr), ∃ (n0 : Nat), ∃ (c0 : Nat), ∃ (F0 : List Nat), ∃ (a1 : Option Addr), ∃ (n1 : Nat), ∃ (c1 : Nat), ∃ (F1 : List Nat), v = .agg #[S a0 n0 c0, S a1 n1 c1] ∧ St w o [W (ad eI 3) F0 r.1.d_ [S a0 n0 c0], W (ad (ad eI 3) 45) F1 r.1.b_ [S a1 n1 c1], b b_0 77 [S a_p0b n_p0b c_p0b, I J r.2.i_, I J r.2.h_]] w') := by
 obtain rfl := fp g_p0b
 obtain ⟨k3, k4, rfl, L, M⟩ := aX g1
 obtain ⟨e2, e3, rfl⟩ := ao L
 obtain ⟨e4, e5, rfl⟩ := ao M
 unfold my at H
 refine aN Tryz.func63 z Tryz.ntmps63 z (HS) <| sR <| ob _ z fun b2 => aB z z z z cK (fun _ => kp) fun b3 => nR <| o1 z (rx 0 1 _ z cV z) <| bE H fun a9 h4 H => aj z Cu z z z z (fun c a => kV c h4 (a.carve [] z z) (ah (ab L c a) (ab M c a))) fun k5 c G a f2 => ?_
 obtain ⟨e6, k6, e7, h5, e9, k7, f0, h6, rfl, a5⟩ := f2
 obtain rfl := aA (i := 0) a5 z
 obtain rfl := aA (i := 1) a5 z
 refine ⟨St w o [_, _, _, _, _], a.comp [] z z a5, fun _ _ => Y, ?_⟩
 refine aB z z z z cK (fun _ => kp) fun f1 => sC 0 [S e6 a9.d_.length e7, S e9 a9.b_.length f0] [_, _] 5 z cK z <| nR <| oP z <| bq (val := I J) (h1 := fun _ => z) [0, 1, 3, 12, 30, 60] [(0, [I J 0]), (1, [I J 1]), (2, [I J 3]), (3, [I J 12]), (4, [I J 30]), (5, [I J 60])] z z z z z aT ty3 z z z ⟨z, z, nl z, z, z, nl z, z, z, nl z, z, z, nl z, z, z, nl z, z, z, nl z, Y⟩ z z (fun _ => kp) fun k8 => bE H fun b0 h7 H => aj z jA z z z z (fun c a => aU c h7 (a.carve [0] z z) (rdB [0] z z a g_p0b) (rdO 6 [0] z a z z)) fun k9 c G a f3 => ?_
 obtain ⟨rfl, f4⟩ := f3
 refine ⟨St w o [_, _, _, _, _, _, _, _], a.comp [0] z z f4, fun _ _ => Y, ?_⟩
 refine oP z <| nQ <| am <| sR <| oP z <| nQ <| ay <| CW.at (CT (fun (E : Int) (F : Int) (d : List Int) (h : Option Addr) (j : Nat) (t : List Nat) (f : List (List Int)) (k : Option Addr) (l : Nat) (u : List Nat) (q : Int) => St w o [b b_0 77 [S a_p0b p0b.length c_p0b, I J E, I J F], b b2 73 [S e2 p1.f_.length e3, S e4 p1.n_.length e5], b b3 58 [S N 0 0, S N 0 0], b f1 58 [S h d.length j, S k f.length l], W (ad eI 3) t d [S h d.length j], W (ad (ad eI 3) 45) u f [S k f.length l]]) (fun E F d h j t f k l u q => [(0, O (U ⟨b_0, 0, N⟩)), (3, O (U ⟨b2, 0, N⟩)), (4, O (U ⟨b3, 0, N⟩)), (5, O (U ⟨f1, 0, N⟩)), (6, I J b0.1), (7, I J q)]) (fun kk => fun E F d h j t f k l u q => eN b0 p0b p1 kk E F d f q = U r) (fun _ _ _ _ _ _ _ _ _ _ _ H => ?_) (fun k1 a6 E F d h j t f k l u q H => ?_) aY (b0.2.i_) (b0.2.h_) (a9.d_) (e6) (e7) (h5) (a9.b_) (e9) (f0) (h6) (0) (H)) (ss [7, 1, 2, 5, 3, 4] z z) (sb z)
 ·unfold eN at H
  exact absurd H (by simp)
 ·unfold eN at H
  refine am <| sR <| aa [.p, .p, .p] z <| nQ <| cI H z (fun H => ?_) (fun H => ?_)
  ·refine av <| az <| am <| ay <| sR <| oP z <| o1 z (rx 0 1 _ z cV z) <| bE H fun g f5 H => aj z Fm z z z z (fun c a => pR c f5 (a.carve [0] z z) (rdB [0] z z a g_p0b) (ah (rdB [0] z z a L) (rdB [0] z z a M))) fun i1 c G a c8 => ?_
   obtain ⟨A, i2, C, f6, rfl, b1⟩ := c8
   obtain rfl := aA (i := 0) b1 z
   refine ⟨St w o [_, _, _, _, _, _, _, _], a.comp [0] z z b1, fun _ _ => Y, ?_⟩
   refine aB z z z z jU (fun _ => kp) fun f7 => sC 0 [S A g.1.w_.length C, I J g.1.y_] [_, _] 8 z jU z <| nQ <| bE H fun D a7 H => bE H fun m a8 H => zn [(0, y), (2, y), (3, y)] (Br.alt 1 (Br.pre [(4, n), (5, n), (6, n), (7, y), (8, y), (9, y), (10, n)] Br.done) (Br.pre [(4, n)] (Br.alt 1 (Br.pre [(5, n), (6, n), (7, y), (8, y), (9, y), (10, n)] Br.done) (Br.pre [(5, n), (1, n), (6, n), (7, y), (8, y), (9, y), (10, n)] Br.done)))) (St w o [Res.nil, b b2 73 [S e2 p1.f_.length e3, S e4 p1.n_.length e5], b b3 58 [S N 0 0, S N 0 0], Res.nil, W (ad eI 3) t d [S h d.length j], W (ad (ad eI 3) 45) u f [S k f.length l], W (ad eI 3) f6 g.1.w_ [S A g.1.w_.length C], Res.nil, b f7 113 [S A g.1.w_.length C, I J g.1.y_]]) bU (by kernel_rfl) (bj (aJ (db (bj (aJ bb))))) (sm [y, y, y, n, y, y, y, n, y] z) <| bm z (aw z) (rx 0 1 _ z cV z) <| bm z (aw z) (rx 0 8 _ z jU z) <| oP z <| aQ <| eD (sm [y, y, y, n, y, y, y, n, y] z) z ?_ ?_
   ·refine wa z z (aw z) (rx 0 3 _ z cK z) <| bq (val := I J) (h1 := fun _ => z) [1, 2, 7] [(0, [I J 1]), (1, [I J 2]), (2, [I J 7])] z z z z z aT ty3 z z z ⟨z, z, nl z, z, z, nl z, z, z, nl z, Y⟩ z z (fun _ => (sm [y, y, y, n, y, y, y, n, y] z)) fun i3 => aj z jA z z z z (fun c a => aU c a7 (a.carve [7] z z) (rdB [7] z z a g_p0b) (rdO 9 [7] z a z z)) fun i4 c G a c9 => ?_
    obtain ⟨rfl, d0⟩ := c9
    refine ⟨St w o [_, _, _, _, _, _, _, _, _, _, _], a.comp [7] z z d0, (sm [y, y, y, n, y, y, y, n, y] z), ?_⟩
    refine aj z Da z z z z (fun c a => kT c a8 (a.carve [] z z) (ah (ab L c a) (ab M c a)) (aH (x := (ar.mk d f)) (c0 := [S h d.length j]) (c1 := [S k f.length l]) (ap (e := ad eI 3) (r := 4) z c a) (ap (e := ad (ad eI 3) 45) (r := 5) z c a)) (bV (x := g.1) (c0 := [S A g.1.w_.length C]) (c1 := [I J g.1.y_]) (ap (e := ad eI 3) (r := 6) z c a) z)) (fun i5 c G a d1 => ?_)
    obtain ⟨b4, i6, b5, f8, b6, i7, b7, f9, rfl, P⟩ := d1
    obtain rfl := aA (i := 0) P z
    obtain rfl := aA (i := 1) P z
    refine ⟨St w o [_, _, _, _, _, _, _, _, _, _, _, _, _], a.comp [] z z P, (sm [y, y, y, n, y, y, y, n, y] z), ?_⟩
    refine aa [.p, .p, .p] z <| bp (off := 0) [S b4 m.1.d_.length b5, S b6 m.1.b_.length b7] [_, _] (i := 3) z z z z z z cK z z (al z) z z z (sm [y, y, y, n, y, y, y, n, y] z) <| aQ <| uv <| bW <| az <| CW.weak (C' := St w o [_, _, _, _, _, _, _, _, _, _, _]) ?_ (ss [1, 2, 3, 4, 5, 6, 8, 9, 10, 11, 12] z z)
    exact aP <| aa [.p, .p, .p] z <| ax <| ct (RW.at (a6 (D.2.i_) (D.2.h_) (m.1.d_) (b4) (b5) (f8) (m.1.b_) (b6) (b7) (f9) (J.wrap (q + 1)) (H)) (ss [8, 0, 1, 2, 9, 10] z z) (sb z))
   refine dG (sm [y, y, y, n, y, y, y, n, y] z) z <| bq (val := I J) (h1 := fun _ => z) [1, 2, 7] [(0, [I J 1]), (1, [I J 2]), (2, [I J 7])] z z z z z aT ty3 z z z ⟨z, z, nl z, z, z, nl z, z, z, nl z, Y⟩ z z (fun _ => (sm [y, y, y, n, y, y, y, n, y] z)) fun i8 => aQ <| eD (sm [y, y, y, n, y, y, y, n, y] z) z ?_ ?_
   ·refine wa z z (aw z) (rx 0 3 _ z cK z) <| aj z jA z z z z (fun c a => aU c a7 (a.carve [7] z z) (rdB [7] z z a g_p0b) (rdO 9 [7] z a z z)) fun i9 c G a d2 => ?_
    obtain ⟨rfl, d3⟩ := d2
    refine ⟨St w o [_, _, _, _, _, _, _, _, _, _, _], a.comp [7] z z d3, (sm [y, y, y, n, y, y, y, n, y] z), ?_⟩
    refine aj z Da z z z z (fun c a => kT c a8 (a.carve [] z z) (ah (ab L c a) (ab M c a)) (aH (x := (ar.mk d f)) (c0 := [S h d.length j]) (c1 := [S k f.length l]) (ap (e := ad eI 3) (r := 4) z c a) (ap (e := ad (ad eI 3) 45) (r := 5) z c a)) (bV (x := g.1) (c0 := [S A g.1.w_.length C]) (c1 := [I J g.1.y_]) (ap (e := ad eI 3) (r := 6) z c a) z)) (fun j0 c G a d4 => ?_)
    obtain ⟨b8, j1, b9, g0, c2, j2, c3, g2, rfl, Q⟩ := d4
    obtain rfl := aA (i := 0) Q z
    obtain rfl := aA (i := 1) Q z
    refine ⟨St w o [_, _, _, _, _, _, _, _, _, _, _, _, _], a.comp [] z z Q, (sm [y, y, y, n, y, y, y, n, y] z), ?_⟩
    refine aa [.p, .p, .p] z <| bp (off := 0) [S b8 m.1.d_.length b9, S c2 m.1.b_.length c3] [_, _] (i := 3) z z z z z z cK z z (al z) z z z (sm [y, y, y, n, y, y, y, n, y] z) <| aQ <| uv <| bW <| az <| CW.weak (C' := St w o [_, _, _, _, _, _, _, _, _, _, _]) ?_ (ss [1, 2, 3, 4, 5, 6, 8, 9, 10, 11, 12] z z)
    exact aP <| aa [.p, .p, .p] z <| ax <| ct (RW.at (a6 (D.2.i_) (D.2.h_) (m.1.d_) (b8) (b9) (g0) (m.1.b_) (c2) (c3) (g2) (J.wrap (q + 1)) (H)) (ss [8, 0, 1, 2, 9, 10] z z) (sb z))
   refine dG (sm [y, y, y, n, y, y, y, n, y] z) z <| aj z jA z z z z (fun c a => aU c a7 (a.carve [7] z z) (rdB [7] z z a g_p0b) (rdO 9 [7] z a z z)) fun j3 c G a d5 => ?_
   obtain ⟨rfl, d6⟩ := d5
   refine ⟨St w o [_, _, _, _, _, _, _, _, _, _, _], a.comp [7] z z d6, (sm [y, y, y, n, y, y, y, n, y] z), ?_⟩
   refine wa z z (aw z) (rx 0 3 _ z cK z) <| aj z Da z z z z (fun c a => kT c a8 (a.carve [] z z) (ah (ab L c a) (ab M c a)) (aH (x := (ar.mk d f)) (c0 := [S h d.length j]) (c1 := [S k f.length l]) (ap (e := ad eI 3) (r := 4) z c a) (ap (e := ad (ad eI 3) 45) (r := 5) z c a)) (bV (x := g.1) (c0 := [S A g.1.w_.length C]) (c1 := [I J g.1.y_]) (ap (e := ad eI 3) (r := 6) z c a) z)) fun j4 c G a d7 => ?_
   obtain ⟨c4, j5, c5, g3, c6, j6, c7, g4, rfl, R⟩ := d7
   obtain rfl := aA (i := 0) R z
   obtain rfl := aA (i := 1) R z
   refine ⟨St w o [_, _, _, _, _, _, _, _, _, _, _, _, _], a.comp [] z z R, (sm [y, y, y, n, y, y, y, n, y] z), ?_⟩
   refine aa [.p, .p, .p] z <| bp (off := 0) [S c4 m.1.d_.length c5, S c6 m.1.b_.length c7] [_, _] (i := 3) z z z z z z cK z z (al z) z z z (sm [y, y, y, n, y, y, y, n, y] z) <| aQ <| uv <| bW <| az <| CW.weak (C' := St w o [_, _, _, _, _, _, _, _, _, _, _]) ?_ (ss [1, 2, 3, 4, 5, 6, 8, 9, 10, 11, 12] z z)
   exact aP <| aa [.p, .p, .p] z <| ax <| ct (RW.at (a6 (D.2.i_) (D.2.h_) (m.1.d_) (c4) (c5) (g3) (m.1.b_) (c6) (c7) (g4) (J.wrap (q + 1)) (H)) (ss [8, 0, 1, 2, 9, 10] z z) (sb z))
  ·refine bx <| aK <| aR <| aL <| az <| am <| sR <| oP z <| bE H fun j7 g5 H => aj z sV z z z z (fun c a => dL c g5 (a.carve [0] z z) (rdB [0] z z a g_p0b)) fun j8 c G a d8 => ?_
   obtain ⟨rfl, d9⟩ := d8
   refine ⟨St w o [_, _, _, _, _, _, _], a.comp [0] z z d9, fun _ _ => Y, ?_⟩
   refine nQ <| cI H z (fun H => ?_) (fun H => ?_)
   ·refine sR <| o1 z (rx 0 3 _ z cK z) <| bE H fun s g6 H => aj z sD z z z z (fun c a => eS c g6 (a.carve [] z z) (aH (x := (ar.mk d f)) (c0 := [S h d.length j]) (c1 := [S k f.length l]) (ap (e := ad eI 3) (r := 4) z c a) (ap (e := ad (ad eI 3) 45) (r := 5) z c a))) fun j9 c G a e0 => ?_
    obtain ⟨X, k0, Z, g7, a2, k2, a3, g8, rfl, a4⟩ := e0
    obtain rfl := aA (i := 0) a4 z
    obtain rfl := aA (i := 1) a4 z
    refine ⟨St w o [_, _, _, _, _, _, _, _, _], a.comp [] z z a4, fun _ _ => Y, ?_⟩
    exact sC 0 [S X s.d_.length Z, S a2 s.b_.length a3] [_, _] 2 z cK z <| nT <| aq <| aO (rs := [.cell 4 58]) (vs := [.agg #[S X s.d_.length Z, S a2 s.b_.length a3]]) z ⟨⟨_, [S X s.d_.length Z, S a2 s.b_.length a3], _, _, _, z, cK, (bn (T := 58) 0 (bJ (i := 2) z) z), z, z⟩, Y⟩ (fun w' hw' => by
     obtain rfl := af H
     exact ⟨_, z, X, s.d_.length, Z, g7, a2, s.b_.length, a3, g8, z, hw'.sel [7, 8, 6] z z⟩)
   ·exact av <| az <| sR <| o1 z (rx 0 3 _ z cK z) <| sC 0 [S h d.length j, S k f.length l] [_, _] 2 z cK z <| nT <| aO (rs := [.cell 4 58]) (vs := [.agg #[S h d.length j, S k f.length l]]) z ⟨⟨_, [S h d.length j, S k f.length l], _, _, _, z, cK, (bn (T := 58) 0 (bJ (i := 2) z) z), z, z⟩, Y⟩ (fun w' hw' => by
     obtain rfl := af H
     exact ⟨_, z, h, d.length, j, t, k, f.length, l, u, z, hw'.sel [4, 5, 6] z z⟩)
theorem vn (w : World) {m : List Nat} {p0b : List Int} {p0 : ak} {p1 : ae} {b_0 : Nat} {a_p0b : Option Addr} {n_p0b c_p0b : Nat} {a5 : List Value} {r : ar × ak} (H : nt p0b p0 p1 = U r) (HS : St w m [b b_0 77 [S a_p0b p0b.length c_p0b, I J p0.i_, I J p0.h_]] w) (g_p0b : (ad e8 5).rd w m p0b [S a_p0b n_p0b c_p0b]) (g1 : (bk).rd w m p1 a5) :
    Calls Tryz.prog 52 #[O (U ⟨b_0, 0, N⟩), .agg a5.toArray] w (fun en w' => ∃ v, en = .returned v ∧ ∃ (a0 : Option Addr), ∃ (n0 : Nat), ∃ (c0 : Nat), ∃ (F0 : List Nat), ∃ (a1 : Option Addr), ∃ (n1 : Nat), ∃ (c1 : Nat), ∃ (F1 : List Nat), v = .agg #[S a0 n0 c0, S a1 n1 c1] ∧ St w m [W (ad eI 3) F0 r.1.d_ [S a0 n0 c0], W (ad (ad eI 3) 45) F1 r.1.b_ [S a1 n1 c1], b b_0 77 [S a_p0b n_p0b c_p0b, I J r.2.i_, I J r.2.h_]] w') := by
 obtain rfl := fp g_p0b
 obtain ⟨g4, g5, rfl, a6, a7⟩ := aX g1
 obtain ⟨L, M, rfl⟩ := ao a6
 obtain ⟨P, Q, rfl⟩ := ao a7
 unfold nt at H
 refine aN Tryz.func52 z Tryz.ntmps52 z (HS) <| sR <| ob _ z fun X => aB z z z z cK (fun _ => kp) fun x => nR <| oP z <| o1 z (rx 0 1 _ z cV z) <| bE H fun a d8 H => aj z Gf z z z z (fun l c => uc l d8 (c.carve [0] z z) (rdB [0] z z c g_p0b) (ah (rdB [0] z z c a6) (rdB [0] z z c a7))) fun g6 l w2 c b7 => ?_
 obtain ⟨g, g7, k, o, f, g8, d, s, rfl, F⟩ := b7
 obtain rfl := aA (i := 0) F z
 obtain rfl := aA (i := 1) F z
 refine ⟨St w m [_, _, _, _, _, _], c.comp [0] z z F, fun _ _ => Y, ?_⟩
 refine aB z z z z cK (fun _ => kp) fun A => sC 0 [S g a.1.d_.length k, S f a.1.b_.length d] [_, _] 6 z cK z <| nQ <| am <| sR <| oP z <| bE H fun a8 d9 H => aj z oX z z z z (fun l c => ca l d9 (c.carve [5] z z) (rdB [5] z z c g_p0b)) fun g9 l w2 c b8 => ?_
 obtain ⟨rfl, b9⟩ := b8
 refine ⟨St w m [_, _, _, _, _, _, _, _], c.comp [5] z z b9, fun _ _ => Y, ?_⟩
 refine nQ <| ay <| am <| CW.weak (C' := St w m [_, _, _, _, _, _]) ?_ (ss [1, 2, 3, 4, 6, 7] z z)
 refine aP <| oPP z <| nQ <| cI H z (fun H => ?_) (fun H => ?_)
 ·refine sR <| aa [.fa 58 0 0 jc] z <| o1 z (r1 0 4 z bG z) <| aa [.lenS 45 3 aT, .p] z <| nQ <| cI H z (fun H => ?_) (fun H => ?_)
  ·refine cw 5 [(0, y), (1, y), (2, y), (3, n), (4, n)] (St w m [b X 73 [S L p1.f_.length M, S P p1.n_.length Q], b x 58 [S N 0 0, S N 0 0], W (ad eI 3) o a.1.d_ [S g a.1.d_.length k], W (ad (ad eI 3) 45) s a.1.b_ [S f a.1.b_.length d], b A 58 [S g a.1.d_.length k, S f a.1.b_.length d], Res.nil]) bU (by kernel_rfl) (bj (aJ bb)) (sm [y, y, y, y, y, n] z) <| aa [.fa 58 0 0 jc] z <| bm z (aw z) (r1 0 4 z bG z) <| oP z <| bq (val := I J) (h1 := fun _ => z) [(-1), 999, 998, 1000, 9223372036854775807] [(0, [I J (-1)]), (1, [I J 999]), (2, [I J 998]), (3, [I J 1000]), (4, [I J 9223372036854775807])] z z z z z aT ty3 z z z ⟨z, z, nl z, z, z, nl z, z, z, nl z, z, z, nl z, z, z, nl z, Y⟩ z z (fun _ => (sm [y, y, y, y, y, n] z)) fun h0 => bE H fun h2 e0 H => aj z jA z z z z (fun l c => aU l e0 (c.carve [5] z z) (rdB [5] z z c g_p0b) (rdO 6 [5] z c z z)) fun h3 l w2 c c2 => ?_
   obtain ⟨rfl, c3⟩ := c2
   refine ⟨St w m [_, _, _, _, _, _, _, _], c.comp [5] z z c3, (sm [y, y, y, y, y, n] z), ?_⟩
   exact aQ <| jf <| bE H fun h4 a9 H => bF (e := eI) (xs := a.1.d_) (j := 0) z z z z z aT ty3 z (ap (e := ad eI 3) (r := 2) z) a9 (by rw [Nat.mul_one]) <| lW (i := 2) (j := 0) z z z z z z ty3 z a9 (fun _ => z) kp <| ax <| bW <| az <| sR <| o1 z (rx 0 4 _ z cK z) <| sC 0 [S g a.1.d_.length k, S f a.1.b_.length d] [_, _] 1 z cK z <| nT <| aO (rs := [.cell 4 58]) (vs := [.agg #[S g a.1.d_.length k, S f a.1.b_.length d]]) z ⟨⟨_, [S g a.1.d_.length k, S f a.1.b_.length d], _, _, _, z, cK, (bn (T := 58) 0 (bJ (i := 1) z) z), z, z⟩, Y⟩ (fun w' hw' => by
    obtain rfl := af H
    exact ⟨_, z, g, a.1.d_.length, k, o, f, a.1.b_.length, d, s, z, hw'.sel [2, 3, 7] z z⟩)
  ·exact av <| bW <| az <| sR <| o1 z (rx 0 4 _ z cK z) <| sC 0 [S g a.1.d_.length k, S f a.1.b_.length d] [_, _] 1 z cK z <| nT <| aO (rs := [.cell 4 58]) (vs := [.agg #[S g a.1.d_.length k, S f a.1.b_.length d]]) z ⟨⟨_, [S g a.1.d_.length k, S f a.1.b_.length d], _, _, _, z, cK, (bn (T := 58) 0 (bJ (i := 1) z) z), z, z⟩, Y⟩ (fun w' hw' => by
    obtain rfl := af H
    exact ⟨_, z, g, a.1.d_.length, k, o, f, a.1.b_.length, d, s, z, hw'.sel [2, 3, 5] z z⟩)
 ·refine sR <| oPP z <| nQ <| cI H z (fun H => ?_) (fun H => ?_)
  ·exact aP <| aa [.fa 58 0 0 jc] z <| o1 z (r1 0 4 z bG z) <| bq (val := I J) (h1 := fun _ => z) [0] [(0, [I J 0])] z z z z z aT ty3 z z z ⟨z, z, nl z, Y⟩ z z (fun _ => kp) fun h5 => bE H fun C b0 H => bC (r := 2) (ys := ([0] : List Int)) z z z z z z aT ty3 z z z (ap (e := ad eI 3) (r := 6) z) b0 (fun _ _ _ => kp) fun D E e1 => cc z (fun l c => fh (i := 2) c z (fe b0)) fun f9 => aa [.fa 58 0 0 jc] z <| sC 0 [S D C.length E] [_, _] 4 z bG z <| ax <| bW <| az <| sR <| o1 z (rx 0 4 _ z cK z) <| sC 0 [S D C.length E, S f a.1.b_.length d] [_, _] 1 z cK z <| nT <| aO (rs := [.cell 4 58]) (vs := [.agg #[S D C.length E, S f a.1.b_.length d]]) z ⟨⟨_, [S D C.length E, S f a.1.b_.length d], _, _, _, z, cK, (bn (T := 58) 0 (bJ (i := 1) z) z), z, z⟩, Y⟩ (fun w' hw' => by
    obtain rfl := af H
    exact ⟨_, z, D, C.length, E, e1, f, a.1.b_.length, d, s, z, hw'.sel [2, 3, 5] z z⟩)
  ·refine sR <| oPP z <| nQ <| cI H z (fun H => ?_) (fun H => ?_)
   ·refine sR <| aa [.fa 58 1 1 dt] z <| o1 z (r1 1 4 z cY z) <| aa [.lenS 28 45 cC, .p, .p] z <| bE H fun e2 Z H => aV [(43, B e2), (0, O (U ⟨b_0, 0, N⟩)), (4, O (U ⟨x, 0, N⟩)), (5, O (U ⟨A, 0, N⟩))] 7 ?_ (fun key => OW.sub (R := [(0, O (U ⟨b_0, 0, N⟩)), (4, O (U ⟨x, 0, N⟩)), (5, O (U ⟨A, 0, N⟩)), (36, B (decide ((a.1.b_.length : Int) > 0)))]) ?_ (sb z))
    ·refine nQ <| cI H z (fun H => ?_) (fun H => ?_)
     ·refine bE H fun G b1 H => nZ (fun l c => foc (r := 3) c z b1) fun e3 e4 e5 h6 => gz (fun l c => c.1) fun e6 => ?_
      obtain ⟨a2, a3⟩ := e6
      refine CW.weak (C' := St w m [_, _, _, _, _, _, _, _]) ?_ (fun l c => c.2)
      refine qG (fun l c => qE (i := 7) c z) fun b2 b3 => gz (fun l c => c.1) fun e7 => ?_
      subst e7
      refine CW.weak (C' := St w m [_, _, _, _, _, _, _, _]) ?_ (fun l c => c.2)
      refine cw 7 [(0, y), (1, y), (2, y), (3, y), (4, y), (5, n), (6, n)] (St w m [b X 73 [S L p1.f_.length M, S P p1.n_.length Q], b x 58 [S N 0 0, S N 0 0], W (ad eI 3) o a.1.d_ [S g a.1.d_.length k], Res.nil, b A 58 [S g a.1.d_.length k, S f a.1.b_.length d], Res.nil, Res.hole (ad eI 3) 45 e3 d a.1.b_ ((0 : Int).toNat) e4 [S b2 G.length b3], W (ad eI 3) e5 G [S b2 G.length b3]]) bU (by kernel_rfl) (bj (aJ bb)) (sm [y, y, y, y, y, n, y, y] z) <| aa [.fa 58 1 1 dt] z <| bm z (aw z) (r1 1 4 z cY z) <| eZ z z z z z cC bG z (ez (p := 6) z) a3 a2 (cg b1).1 <| bm z (aw z) (jO 6 0 z z z bG (by first | rfl | simp only [cE, cS, cz]) z) <| oP z <| bq (val := I J) (h1 := fun _ => z) [(-1), 500, 1000] [(0, [I J (-1)]), (1, [I J 500]), (2, [I J 1000])] z z z z z aT ty3 z z z ⟨z, z, nl z, z, z, nl z, z, z, nl z, Y⟩ z z (fun _ => (sm [y, y, y, y, y, n, y, y] z)) fun h7 => bE H fun h8 e9 H => aj z jA z z z z (fun l c => aU l e9 (c.carve [5] z z) (rdB [5] z z c g_p0b) (rdO 8 [5] z c z z)) fun h9 l w2 c c4 => ?_
      obtain ⟨rfl, c5⟩ := c4
      refine ⟨St w m [_, _, _, _, _, _, _, _, _, _], c.comp [5] z z c5, (sm [y, y, y, y, y, n, y, y] z), ?_⟩
      refine aQ <| jf <| bE H fun i0 b4 H => bF (e := eI) (xs := G) (j := 0) z z z z z aT ty3 z (ap (e := ad eI 3) (r := 7) z) b4 (by rw [Nat.mul_one]) <| lW (i := 7) (j := 0) z z z z z z ty3 z b4 (fun _ => z) kp <| ax <| bW <| az <| am <| CW.weak (C' := St w m [_, _, _, _, _, _, _, _]) ?_ (ss [0, 1, 2, 4, 6, 7, 8, 9] z z)
      exact aP <| o1 z (rx 0 3 _ z cK z) <| sC 0 [S g a.1.d_.length k, S f a.1.b_.length d] [_, _] 1 z cK z <| nT <| gR (fun l c => unf (p := 4) (q := 5) c z z z a3 a2) fun f0 => eG (C' := St w m [_, _, _, _, _, _, _, _, _]) (fun _ h => h) <| aO (rs := [.cell 4 58]) (vs := [.agg #[S g a.1.d_.length k, S f a.1.b_.length d]]) z ⟨⟨_, [S g a.1.d_.length k, S f a.1.b_.length d], _, _, _, z, cK, (bn (T := 58) 0 (bJ (i := 1) z) z), z, z⟩, Y⟩ (fun w' hw' => by
       obtain rfl := af H
       exact ⟨_, z, g, a.1.d_.length, k, o, f, a.1.b_.length, d, f0, z, hw'.sel [2, 8, 7] z z⟩)
     ·exact av <| bW <| az <| sR <| o1 z (rx 0 4 _ z cK z) <| sC 0 [S g a.1.d_.length k, S f a.1.b_.length d] [_, _] 1 z cK z <| nT <| aO (rs := [.cell 4 58]) (vs := [.agg #[S g a.1.d_.length k, S f a.1.b_.length d]]) z ⟨⟨_, [S g a.1.d_.length k, S f a.1.b_.length d], _, _, _, z, cK, (bn (T := 58) 0 (bJ (i := 1) z) z), z, z⟩, Y⟩ (fun w' hw' => by
       obtain rfl := af H
       exact ⟨_, z, g, a.1.d_.length, k, o, f, a.1.b_.length, d, s, z, hw'.sel [2, 3, 5] z z⟩)
    ·clear H
     have H := Z
     clear Z
     generalize (decide ((a.1.b_.length : Int) > 0)) = f1 at H key ⊢
     cases f1
     ·have H := bh z H
      refine aa [.p, .p, .p, .p, .p, .p, .p] z ?_
      obtain rfl := af H
      exact OW.sub key (sb z)
     ·have H := bi z H
      refine aa [.fa 58 1 1 dt] z <| o1 z (r1 1 4 z cY z) <| bE H fun i1 b5 H => bF (e := ad eI 3) (xs := a.1.b_) (j := 0) z z z z z cC bG z (fun l c => ap (e := ad (ad eI 3) 45) (r := 3) z l c) b5 z <| AK z z z z bG (fun l c => ap (e := ad (ad eI 3) 45) (r := 3) z l c) b5 z fun i2 i3 => aa [.lenS 45 3 aT, .p] z <| oP z <| ?_
      obtain rfl := af H
      exact OW.sub key (sb z)
   ·refine sR <| oPP z <| nQ <| cI H z (fun H => ?_) (fun H => ?_)
    ·refine sR <| aa [.fa 58 1 1 dt] z <| o1 z (r1 1 4 z cY z) <| aa [.lenS 28 45 cC, .p] z <| nQ <| cI H z (fun H => ?_) (fun H => ?_)
     ·refine bE H fun f2 a4 H => nZ (fun l c => foc (r := 3) c z a4) fun f3 f4 i4 g0 => gz (fun l c => c.1) fun f5 => ?_
      obtain ⟨t, u⟩ := f5
      refine CW.weak (C' := St w m [_, _, _, _, _, _, _, _]) ?_ (fun l c => c.2)
      refine qG (fun l c => qE (i := 7) c z) fun c6 c7 => gz (fun l c => c.1) fun c8 => ?_
      subst c8
      refine CW.weak (C' := St w m [_, _, _, _, _, _, _, _]) ?_ (fun l c => c.2)
      exact cw 8 [(0, y), (1, y), (2, y), (3, y), (4, y), (5, y), (6, n), (7, n)] (St w m [b X 73 [S L p1.f_.length M, S P p1.n_.length Q], b x 58 [S N 0 0, S N 0 0], W (ad eI 3) o a.1.d_ [S g a.1.d_.length k], Res.nil, b A 58 [S g a.1.d_.length k, S f a.1.b_.length d], b b_0 77 [S a_p0b p0b.length c_p0b, I J a8.2.i_, I J a8.2.h_], Res.hole (ad eI 3) 45 f3 d a.1.b_ ((0 : Int).toNat) f4 [S c6 f2.length c7], Res.nil]) bU (by kernel_rfl) (bj (aJ bb)) (sm [y, y, y, y, y, y, y, n] z) <| aa [.fa 58 1 1 dt] z <| bm z (aw z) (r1 1 4 z cY z) <| aa [.fa 58 1 1 dt] z <| bm z (aw z) (r1 1 4 z cY z) <| eZ z z z z z cC bG z (ez (p := 6) z) u t (cg a4).1 <| bm z (aw z) (jO 6 0 z z z bG (by first | rfl | simp only [cE, cS, cz]) z) <| bq (val := I J) (h1 := fun _ => z) [0] [(0, [I J 0])] z z z z z aT ty3 z z z ⟨z, z, nl z, Y⟩ z z (fun _ => (sm [y, y, y, y, y, y, y, n] z)) fun g2 => bE H fun c9 d0 H => bC (r := 7) (ys := ([0] : List Int)) z z z z z z aT ty3 z z z (ap (e := ad eI 3) (r := 8) z) d0 (fun _ _ _ => (sm [y, y, y, y, y, y, y, n] z)) fun d1 d2 g3 => aQ <| jf <| eZ z z z z z cC bG z (ez (p := 6) z) u t (cg a4).1 <| eA (off := 0) [S d1 c9.length d2] (p := 6) (c' := [_]) z z z z z (by first | rfl | simp only [cE, cS, cz]) z bG z z (al z) z z z kp <| ax <| bW <| az <| sR <| o1 z (rx 0 4 _ z cK z) <| sC 0 [S g a.1.d_.length k, S f a.1.b_.length d] [_, _] 1 z cK z <| nT <| gR (fun l c => unf (p := 6) (q := 7) c z z z u t) fun d3 => eG (C' := St w m [_, _, _, _, _, _, _, _, _, _]) (fun _ h => h) <| aO (rs := [.cell 4 58]) (vs := [.agg #[S g a.1.d_.length k, S f a.1.b_.length d]]) z ⟨⟨_, [S g a.1.d_.length k, S f a.1.b_.length d], _, _, _, z, cK, (bn (T := 58) 0 (bJ (i := 1) z) z), z, z⟩, Y⟩ (fun w' hw' => by
       obtain rfl := af H
       exact ⟨_, z, g, a.1.d_.length, k, o, f, a.1.b_.length, d, d3, z, hw'.sel [2, 9, 5] z z⟩)
     ·exact av <| bW <| az <| sR <| o1 z (rx 0 4 _ z cK z) <| sC 0 [S g a.1.d_.length k, S f a.1.b_.length d] [_, _] 1 z cK z <| nT <| aO (rs := [.cell 4 58]) (vs := [.agg #[S g a.1.d_.length k, S f a.1.b_.length d]]) z ⟨⟨_, [S g a.1.d_.length k, S f a.1.b_.length d], _, _, _, z, cK, (bn (T := 58) 0 (bJ (i := 1) z) z), z, z⟩, Y⟩ (fun w' hw' => by
       obtain rfl := af H
       exact ⟨_, z, g, a.1.d_.length, k, o, f, a.1.b_.length, d, s, z, hw'.sel [2, 3, 5] z z⟩)
    ·exact av <| bW <| az <| sR <| o1 z (rx 0 4 _ z cK z) <| sC 0 [S g a.1.d_.length k, S f a.1.b_.length d] [_, _] 1 z cK z <| nT <| aO (rs := [.cell 4 58]) (vs := [.agg #[S g a.1.d_.length k, S f a.1.b_.length d]]) z ⟨⟨_, [S g a.1.d_.length k, S f a.1.b_.length d], _, _, _, z, cK, (bn (T := 58) 0 (bJ (i := 1) z) z), z, z⟩, Y⟩ (fun w' hw' => by
      obtain rfl := af H
      exact ⟨_, z, g, a.1.d_.length, k, o, f, a.1.b_.length, d, s, z, hw'.sel [2, 3, 5] z z⟩)
theorem ul (w : World) {j : List Nat} {p0b : List Int} {p0 : ak} {p1 : ae} {b_0 : Nat} {a_p0b : Option Addr} {n_p0b c_p0b : Nat} {g3 : List Value} {r : ai × ak} (H : mF p0b p0 p1 = U r) (HS : St w j [b b_0 77 [S a_p0b p0b.length c_p0b, I J p0.i_, I J p0.h_]] w) (g_p0b : (ad e8 5).rd w j p0b [S a_p0b n_p0b c_p0b]) (g1 : (bk).rd w j p1 g3) :
    Calls Tryz.prog 32 #[O (U ⟨b_0, 0, N⟩), .agg g3.toArray] w (fun en w' => ∃ v, en = .returned v ∧ ∃ (a0 : Option Addr), ∃ (n0 : Nat), ∃ (c0 : Nat), ∃ (F0 : List Nat), v = .agg #[S a0 n0 c0, I J r.1.g_] ∧ St w j [W (ad (aC) 60) F0 r.1.a_ [S a0 n0 c0], b b_0 77 [S a_p0b n_p0b c_p0b, I J r.2.i_, I J r.2.h_]] w') := by
 obtain rfl := fp g_p0b
 obtain ⟨F6, F7, rfl, a7, a8⟩ := aX g1
 obtain ⟨A, C, rfl⟩ := ao a7
 obtain ⟨D, E, rfl⟩ := ao a8
 unfold mF at H
 refine aN Tryz.func32 z Tryz.ntmps32 z (HS) <| sR <| ob _ z fun F => aB z z z z br (fun _ => kp) fun G => nR <| oP z <| o1 z (rx 0 1 _ z cV z) <| bE H fun c n5 H => aj z GT z z z z (fun f a => sY f n5 (a.carve [0] z z) (rdB [0] z z a g_p0b) (ah (rdB [0] z z a a7) (rdB [0] z z a a8))) fun F8 f P a g8 => ?_
 obtain ⟨g, F9, d, m, rfl, c8⟩ := g8
 obtain rfl := aA (i := 0) c8 z
 refine ⟨St w j [_, _, _, _, _], a.comp [0] z z c8, fun _ _ => Y, ?_⟩
 refine aB z z z z br (fun _ => kp) fun L => sC 0 [S g c.1.a_.length d, I J c.1.g_] [_, _] 5 z br z <| nQ <| am <| sR <| aa [.fa 26 0 0 bR] z <| o1 z (r1 0 5 z ec z) <| aa [.lenS 24 60 dW, .p] z <| nQ <| cI H z (fun H => ?_) (fun H => ?_)
 ·exact sR <| o1 z (rx 0 5 _ z br z) <| sC 0 [S g c.1.a_.length d, I J c.1.g_] [_, _] 2 z br z <| nT <| aq <| aO (rs := [.cell 4 26]) (vs := [.agg #[S g c.1.a_.length d, I J c.1.g_]]) z ⟨⟨_, [S g c.1.a_.length d, I J c.1.g_], _, _, _, z, br, (bn (T := 26) 0 (bJ (i := 2) z) z), z, z⟩, Y⟩ (fun w' hw' => by
   obtain rfl := af H
   exact ⟨_, z, g, c.1.a_.length, d, m, z, hw'.sel [3, 4] z z⟩)
 ·refine av <| az <| sR <| aa [.p, .fa 26 0 0 bR] z <| o1 z (r1 0 5 z ec z) <| aa [.lenS 24 60 dW] z <| bE H fun Q n6 H => aj z oX z z z z (fun f a => ca f n6 (a.carve [4] z z) (rdB [4] z z a g_p0b)) fun G0 f P a g9 => ?_
  obtain ⟨rfl, h0⟩ := g9
  refine ⟨St w j [_, _, _, _, _, _, _], a.comp [4] z z h0, fun _ _ => Y, ?_⟩
  refine oP z <| nQ <| am <| am <| CW.weak (C' := St w j [_, _, _, _, _]) ?_ (ss [1, 2, 3, 5, 6] z z)
  refine aP <| oP z <| bE H fun G1 n7 H => aj z oX z z z z (fun f a => ca f n7 (a.carve [4] z z) (rdB [4] z z a g_p0b)) fun G2 f P a h2 => ?_
  obtain ⟨rfl, h3⟩ := h2
  refine ⟨St w j [_, _, _, _, _, _], a.comp [4] z z h3, fun _ _ => Y, ?_⟩
  refine nQ <| ay <| sR <| oPP z <| nQ <| cI H z (fun H => ?_) (fun H => ?_)
  ·refine aP <| oP z <| bq (val := I J) (h1 := fun _ => z) [(-1), 0, 99999, 100000] [(0, [I J (-1)]), (1, [I J 0]), (2, [I J 99999]), (3, [I J 100000])] z z z z z aT ty3 z z z ⟨z, z, nl z, z, z, nl z, z, z, nl z, z, z, nl z, Y⟩ z z (fun _ => kp) fun G3 => bE H fun b2 n8 H => aj z jA z z z z (fun f a => aU f n8 (a.carve [5] z z) (rdB [5] z z a g_p0b) (rdO 6 [5] z a z z)) fun G4 f P a h4 => ?_
   obtain ⟨rfl, h5⟩ := h4
   refine ⟨St w j [_, _, _, _, _, _, _, _], a.comp [5] z z h5, fun _ _ => Y, ?_⟩
   refine aa [.fa 26 1 1 lH] z <| sC 1 [I J b2.1] [_, _] 3 z ty3 z <| ax <| bW <| az <| am <| CW.weak (C' := St w j [_, _, _, _, _, _]) ?_ (ss [0, 1, 2, 3, 6, 7] z z)
   exact aP <| o1 z (rx 0 3 _ z br z) <| sC 0 [S g c.1.a_.length d, I J b2.1] [_, _] 1 z br z <| nT <| aO (rs := [.cell 4 26]) (vs := [.agg #[S g c.1.a_.length d, I J b2.1]]) z ⟨⟨_, [S g c.1.a_.length d, I J b2.1], _, _, _, z, br, (bn (T := 26) 0 (bJ (i := 1) z) z), z, z⟩, Y⟩ (fun w' hw' => by
    obtain rfl := af H
    exact ⟨_, z, g, c.1.a_.length, d, m, z, hw'.sel [2, 5] z z⟩)
  ·refine sR <| oPP z <| nQ <| cI H z (fun H => ?_) (fun H => ?_)
   ·refine cw 5 [(0, y), (1, y), (2, y), (3, y), (4, n)] (St w j [b F 73 [S A p1.f_.length C, S D p1.n_.length E], b G 26 [S N 0 0, I J 0], W (ad (aC) 60) m c.1.a_ [S g c.1.a_.length d], b L 26 [S g c.1.a_.length d, I J c.1.g_], Res.nil, Res.nil]) bU (by kernel_rfl) (bj (aJ bb)) (sm [y, y, y, y, y, n] z) <| aa [.fa 26 0 0 bR] z <| bm z (aw z) (r1 0 3 z ec z) <| oPP z <| bE H fun g4 n9 H => aj z oX z z z z (fun f a => ca f n9 (a.carve [5] z z) (rdB [5] z z a g_p0b)) fun G5 f P a h6 => ?_
    obtain ⟨rfl, h7⟩ := h6
    refine ⟨St w j [_, _, _, _, _, _, _], a.comp [5] z z h7, (sm [y, y, y, y, y, n] z), ?_⟩
    refine aQ <| jf <| bE H fun R g5 H => oZ z (fun f a => foc (r := 2) a z g5) fun G6 G7 G8 G9 => cc z (fun f a => a.1) fun o0 => ?_
    obtain ⟨c9, d0⟩ := o0
    refine dH (C' := St w j [_, _, _, _, _, _, _, _, _]) z (fun f a => a.2) <| dQ z (fun f a => dI (i := 8) a z) fun H0 H1 H2 => dQ z (fun _ h => h) fun H3 H4 H5 => dQ z (fun _ h => h) fun H6 H7 H8 => dQ z (fun _ h => h) fun H9 I0 I1 => cc z (fun f a => a.1) fun o2 => ?_
    subst o2
    refine dH (C' := St w j [_, _, _, _, _, _, _, _, _, _, _, _, _]) z (fun f a => a.2) <| eZ z z z z z dW bZ z (ez (p := 7) z) d0 c9 (cg g5).1 <| aa [.fa 60 7 9 ky] z <| eA (off := 9) [I J g4.1] (p := 7) (c' := [_, _, _, _, _, _, _, _, _, _, _, _]) z z z z z (by first | rfl | simp only [cE, cS, cz]) z ty3 z z (al z) z z z kp <| ax <| bW <| az <| am <| CW.weak (C' := St w j [_, _, _, _, _, _, _, _, _]) ?_ (ss [0, 1, 3, 6, 7, 9, 10, 11, 12] z z)
    exact aP <| o1 z (rx 0 2 _ z br z) <| sC 0 [S g c.1.a_.length d, I J c.1.g_] [_, _] 1 z br z <| nT <| gR (fun f a => cm (x0 := R.s_) (x1 := R.k_.j_) (x2 := R.k_.c_) (x4 := R.x_) (x7 := R.v_) (x9 := g4.1) (x10 := R.p_) (x11 := R.q_) [5, 6, 7, 8] a z z) fun I2 => eG (C' := St w j [_, _, _, _, _, _, _, _, _, _]) (fun _ h => h) <| gR (fun f a => unf (p := 4) (q := 9) a z z z d0 c9) fun o3 => eG (C' := St w j [_, _, _, _, _, _, _, _, _, _, _]) (fun _ h => h) <| aO (rs := [.cell 4 26]) (vs := [.agg #[S g c.1.a_.length d, I J c.1.g_]]) z ⟨⟨_, [S g c.1.a_.length d, I J c.1.g_], _, _, _, z, br, (bn (T := 26) 0 (bJ (i := 1) z) z), z, z⟩, Y⟩ (fun w' hw' => by
     obtain rfl := af H
     exact ⟨_, z, g, c.1.a_.length, d, o3, z, hw'.sel [10, 3] z z⟩)
   ·refine sR <| oPP z <| nQ <| cI H z (fun H => ?_) (fun H => ?_)
    ·refine cw 7 [(0, y), (1, y), (2, y), (3, y), (4, y), (5, n), (6, n)] (St w j [b F 73 [S A p1.f_.length C, S D p1.n_.length E], b G 26 [S N 0 0, I J 0], W (ad (aC) 60) m c.1.a_ [S g c.1.a_.length d], b L 26 [S g c.1.a_.length d, I J c.1.g_], Res.nil, Res.nil]) bU (by kernel_rfl) (bj (aJ bb)) (sm [y, y, y, y, y, n] z) <| aa [.fa 26 0 0 bR] z <| bm z (aw z) (r1 0 3 z ec z) <| aa [.p, .p, .p] z <| bq (val := I J) (h1 := fun _ => z) [(-1), 0, 1, Q.1, 9223372036854775807] [(0, [I J (-1)]), (1, [I J 0]), (2, [I J 1]), (3, [I J Q.1]), (4, [I J 9223372036854775807])] z z z z z aT ty3 z z z ⟨z, z, nl z, z, z, nl z, z, z, nl z, z, z, nl z, z, z, nl z, Y⟩ z z (fun _ => (sm [y, y, y, y, y, n] z)) fun I3 => bE H fun g6 o4 H => aj z jA z z z z (fun f a => aU f o4 (a.carve [5] z z) (rdB [5] z z a g_p0b) (rdO 6 [5] z a z z)) fun I4 f P a h8 => ?_
     obtain ⟨rfl, h9⟩ := h8
     refine ⟨St w j [_, _, _, _, _, _, _, _], a.comp [5] z z h9, (sm [y, y, y, y, y, n] z), ?_⟩
     refine aQ <| jf <| bE H fun X g7 H => oZ z (fun f a => foc (r := 2) a z g7) fun I5 I6 I7 I8 => cc z (fun f a => a.1) fun o5 => ?_
     obtain ⟨d1, b3⟩ := o5
     refine dH (C' := St w j [_, _, _, _, _, _, _, _, _, _]) z (fun f a => a.2) <| dQ z (fun f a => dI (i := 9) a z) fun o8 o9 p2 => dQ z (fun _ h => h) fun p3 p4 p5 => dQ z (fun _ h => h) fun p6 p7 p8 => dQ z (fun _ h => h) fun p9 q0 q2 => cc z (fun f a => a.1) fun i0 => ?_
     subst i0
     refine dH (C' := St w j [_, _, _, _, _, _, _, _, _, _, _, _, _, _]) z (fun f a => a.2) <| eZ z z z z z dW bZ z (ez (p := 8) z) b3 d1 (cg g7).1 <| aa [.fa 60 8 10 nw] z <| eA (off := 10) [I J g6.1] (p := 8) (c' := [_, _, _, _, _, _, _, _, _, _, _, _]) z z z z z (by first | rfl | simp only [cE, cS, cz]) z ty3 z z (al z) z z z kp <| ax <| bW <| az <| am <| CW.weak (C' := St w j [_, _, _, _, _, _, _, _, _, _]) ?_ (ss [0, 1, 3, 6, 7, 8, 10, 11, 12, 13] z z)
     exact aP <| o1 z (rx 0 2 _ z br z) <| sC 0 [S g c.1.a_.length d, I J c.1.g_] [_, _] 1 z br z <| nT <| gR (fun f a => cm (x0 := X.s_) (x1 := X.k_.j_) (x2 := X.k_.c_) (x4 := X.x_) (x7 := X.v_) (x9 := X.l_) (x10 := g6.1) (x11 := X.q_) [6, 7, 8, 9] a z z) fun q3 => eG (C' := St w j [_, _, _, _, _, _, _, _, _, _, _]) (fun _ h => h) <| gR (fun f a => unf (p := 5) (q := 10) a z z z b3 d1) fun i1 => eG (C' := St w j [_, _, _, _, _, _, _, _, _, _, _, _]) (fun _ h => h) <| aO (rs := [.cell 4 26]) (vs := [.agg #[S g c.1.a_.length d, I J c.1.g_]]) z ⟨⟨_, [S g c.1.a_.length d, I J c.1.g_], _, _, _, z, br, (bn (T := 26) 0 (bJ (i := 1) z) z), z, z⟩, Y⟩ (fun w' hw' => by
      obtain rfl := af H
      exact ⟨_, z, g, c.1.a_.length, d, i1, z, hw'.sel [11, 4] z z⟩)
    ·refine sR <| oPP z <| nQ <| cI H z (fun H => ?_) (fun H => ?_)
     ·refine bE H fun k a9 H => nZ (fun f a => foc (r := 2) a z a9) fun i2 i3 q4 q5 => gz (fun f a => a.1) fun i4 => ?_
      obtain ⟨a1, a2⟩ := i4
      refine CW.weak (C' := St w j [_, _, _, _, _, _, _, _]) ?_ (fun f a => a.2)
      refine nv (fun f a => dI (i := 7) a z) fun i5 i6 q6 => nv (fun _ h => h) fun d2 d3 i7 => nv (fun _ h => h) fun d4 d5 i8 => nv (fun _ h => h) fun d6 d7 i9 => gz (fun f a => a.1) fun j0 => ?_
      subst j0
      refine CW.weak (C' := St w j [_, _, _, _, _, _, _, _, _, _, _, _]) ?_ (fun f a => a.2)
      refine cw 17 [(0, y), (1, y), (2, y), (3, y), (4, y), (5, y), (6, y), (7, y), (8, y), (9, y), (10, y), (11, y), (12, y), (13, n), (14, n), (15, n), (16, n)] (St w j [b F 73 [S A p1.f_.length C, S D p1.n_.length E], b G 26 [S N 0 0, I J 0], Res.nil, b L 26 [S g c.1.a_.length d, I J c.1.g_], Res.nil, Res.nil, Res.hole (aC) 60 i2 d c.1.a_ Q.1.toNat i3 [B k.s_, I J k.k_.j_, I J k.k_.c_, S i5 k.t_.length i6, I J k.x_, S d2 k.m_.d_.length d3, S d4 k.m_.b_.length d5, I J k.v_, S d6 k.f_.length d7, I J k.l_, I J k.p_, I J k.q_], Res.nil, Res.nil, W (ad eI 3) i7 k.m_.d_ [S d2 k.m_.d_.length d3], W (ad (ad eI 3) 45) i8 k.m_.b_ [S d4 k.m_.b_.length d5], W (ad eI 3) i9 k.f_ [S d6 k.f_.length d7]]) bU (by kernel_rfl) (bj (aJ bb)) (sm [y, y, y, y, y, n, y, y, n, y, y, y] z) <| aa [.fa 26 0 0 bR] z <| bm z (aw z) (r1 0 3 z ec z) <| aa [.p, .fa 26 0 0 bR] z <| bm z (aw z) (r1 0 3 z ec z) <| oP z <| eZ z z z z z dW bZ z (ez (p := 6) z) a2 a1 (cg a9).1 <| aa [.fa 60 2 3 iX] z <| bm z (aw z) (jO 6 3 z z z bG (by first | rfl | simp only [cE, cS, cz]) z) <| aa [.p, .p, .p, .p] z <| bq (val := I J) (h1 := fun _ => z) [(-1), Q.1, J.wrap (Q.1 + 1), 40] [(0, [I J (-1)]), (1, [I J Q.1]), (2, [I J (J.wrap (Q.1 + 1))]), (3, [I J 40])] z z z z z aT ty3 z z z ⟨z, z, nl z, z, z, nl z, z, z, nl z, z, z, nl z, Y⟩ z z (fun _ => (sm [y, y, y, y, y, n, y, y, n, y, y, y] z)) fun q7 => bE H fun b0 j1 H => aj z jA z z z z (fun f a => aU f j1 (a.carve [5] z z) (rdB [5] z z a g_p0b) (rdO 12 [5] z a z z)) fun q8 f P a f0 => ?_
      obtain ⟨rfl, f1⟩ := f0
      refine ⟨St w j [_, _, _, _, _, _, _, _, _, _, _, _, _, _], a.comp [5] z z f1, (sm [y, y, y, y, y, n, y, y, n, y, y, y] z), ?_⟩
      refine bq (val := I J) (h1 := fun _ => z) [b0.1] [(0, [I J b0.1])] z z z z z aT ty3 z z z ⟨z, z, nl z, Y⟩ z z (fun _ => (sm [y, y, y, y, y, n, y, y, n, y, y, y] z)) fun q9 => bE H fun j2 j3 H => bC (r := 8) (ys := ([b0.1] : List Int)) z z z z z z aT ty3 z z z (ap (e := ad eI 3) (r := 14) z) j3 (fun _ _ _ => (sm [y, y, y, y, y, n, y, y, n, y, y, y] z)) fun j4 j5 r0 => aQ <| jf <| eZ z z z z z dW bZ z (ez (p := 6) z) a2 a1 (cg a9).1 <| aa [.fa 60 2 3 iX] z <| eA (off := 3) [S j4 j2.length j5] (p := 6) (c' := [_, _, _, _, _, _, _, _, _, _, _, _]) z z z z z (by first | rfl | simp only [cE, cS, cz]) z bG z z (al z) z z z kp <| ax <| bW <| az <| am <| CW.weak (C' := St w j [_, _, _, _, _, _, _, _, _, _, _]) ?_ (ss [0, 1, 3, 6, 8, 9, 10, 11, 12, 13, 14] z z)
      exact aP <| o1 z (rx 0 2 _ z br z) <| sC 0 [S g c.1.a_.length d, I J c.1.g_] [_, _] 1 z br z <| nT <| gR (fun f a => cm (x0 := k.s_) (x1 := k.k_.j_) (x2 := k.k_.c_) (x4 := k.x_) (x7 := k.v_) (x9 := k.l_) (x10 := k.p_) (x11 := k.q_) [4, 5, 6, 7] a z z) fun r2 => eG (C' := St w j [_, _, _, _, _, _, _, _, _, _, _, _]) (fun _ h => h) <| gR (fun f a => unf (p := 3) (q := 11) a z z z a2 a1) fun j6 => eG (C' := St w j [_, _, _, _, _, _, _, _, _, _, _, _, _]) (fun _ h => h) <| aO (rs := [.cell 4 26]) (vs := [.agg #[S g c.1.a_.length d, I J c.1.g_]]) z ⟨⟨_, [S g c.1.a_.length d, I J c.1.g_], _, _, _, z, br, (bn (T := 26) 0 (bJ (i := 1) z) z), z, z⟩, Y⟩ (fun w' hw' => by
       obtain rfl := af H
       exact ⟨_, z, g, c.1.a_.length, d, j6, z, hw'.sel [12, 9] z z⟩)
     ·refine sR <| oPP z <| nQ <| cI H z (fun H => ?_) (fun H => ?_)
      ·refine cw 6 [(0, y), (1, y), (2, y), (3, y), (4, n), (5, n)] (St w j [b F 73 [S A p1.f_.length C, S D p1.n_.length E], b G 26 [S N 0 0, I J 0], W (ad (aC) 60) m c.1.a_ [S g c.1.a_.length d], b L 26 [S g c.1.a_.length d, I J c.1.g_], Res.nil, Res.nil]) bU (by kernel_rfl) (bj (aJ bb)) (sm [y, y, y, y, y, n] z) <| aa [.fa 26 0 0 bR] z <| bm z (aw z) (r1 0 3 z ec z) <| oPP z <| bq (val := I J) (h1 := fun _ => z) [(-1), 1, 2, 4] [(0, [I J (-1)]), (1, [I J 1]), (2, [I J 2]), (3, [I J 4])] z z z z z aT ty3 z z z ⟨z, z, nl z, z, z, nl z, z, z, nl z, z, z, nl z, Y⟩ z z (fun _ => (sm [y, y, y, y, y, n] z)) fun r3 => bE H fun d8 j7 H => aj z jA z z z z (fun f a => aU f j7 (a.carve [5] z z) (rdB [5] z z a g_p0b) (rdO 6 [5] z a z z)) fun r4 f P a f2 => ?_
       obtain ⟨rfl, f3⟩ := f2
       refine ⟨St w j [_, _, _, _, _, _, _, _], a.comp [5] z z f3, (sm [y, y, y, y, y, n] z), ?_⟩
       refine aQ <| jf <| bE H fun t d9 H => oZ z (fun f a => foc (r := 2) a z d9) fun r5 r6 r7 r8 => cc z (fun f a => a.1) fun j8 => ?_
       obtain ⟨b4, b5⟩ := j8
       refine dH (C' := St w j [_, _, _, _, _, _, _, _, _, _]) z (fun f a => a.2) <| dQ z (fun f a => dI (i := 9) a z) fun r9 s0 s1 => dQ z (fun _ h => h) fun s2 s3 s4 => dQ z (fun _ h => h) fun s5 s6 s7 => dQ z (fun _ h => h) fun s8 s9 t0 => cc z (fun f a => a.1) fun j9 => ?_
       subst j9
       refine dH (C' := St w j [_, _, _, _, _, _, _, _, _, _, _, _, _, _]) z (fun f a => a.2) <| eZ z z z z z dW bZ z (ez (p := 8) z) b5 b4 (cg d9).1 <| aa [.fa 60 3 4 pb] z <| eA (off := 4) [I J d8.1] (p := 8) (c' := [_, _, _, _, _, _, _, _, _, _, _, _]) z z z z z (by first | rfl | simp only [cE, cS, cz]) z ty3 z z (al z) z z z kp <| ax <| bW <| az <| am <| CW.weak (C' := St w j [_, _, _, _, _, _, _, _, _, _]) ?_ (ss [0, 1, 3, 6, 7, 8, 10, 11, 12, 13] z z)
       exact aP <| o1 z (rx 0 2 _ z br z) <| sC 0 [S g c.1.a_.length d, I J c.1.g_] [_, _] 1 z br z <| nT <| gR (fun f a => cm (x0 := t.s_) (x1 := t.k_.j_) (x2 := t.k_.c_) (x4 := d8.1) (x7 := t.v_) (x9 := t.l_) (x10 := t.p_) (x11 := t.q_) [6, 7, 8, 9] a z z) fun t1 => eG (C' := St w j [_, _, _, _, _, _, _, _, _, _, _]) (fun _ h => h) <| gR (fun f a => unf (p := 5) (q := 10) a z z z b5 b4) fun k0 => eG (C' := St w j [_, _, _, _, _, _, _, _, _, _, _, _]) (fun _ h => h) <| aO (rs := [.cell 4 26]) (vs := [.agg #[S g c.1.a_.length d, I J c.1.g_]]) z ⟨⟨_, [S g c.1.a_.length d, I J c.1.g_], _, _, _, z, br, (bn (T := 26) 0 (bJ (i := 1) z) z), z, z⟩, Y⟩ (fun w' hw' => by
        obtain rfl := af H
        exact ⟨_, z, g, c.1.a_.length, d, k0, z, hw'.sel [11, 4] z z⟩)
      ·refine sR <| oPP z <| nQ <| cI H z (fun H => ?_) (fun H => ?_)
       ·refine cw 6 [(0, y), (1, y), (2, y), (3, y), (4, n), (5, n)] (St w j [b F 73 [S A p1.f_.length C, S D p1.n_.length E], b G 26 [S N 0 0, I J 0], W (ad (aC) 60) m c.1.a_ [S g c.1.a_.length d], b L 26 [S g c.1.a_.length d, I J c.1.g_], Res.nil, Res.nil]) bU (by kernel_rfl) (bj (aJ bb)) (sm [y, y, y, y, y, n] z) <| aa [.fa 26 0 0 bR] z <| bm z (aw z) (r1 0 3 z ec z) <| oPP z <| bq (val := I J) (h1 := fun _ => z) [(-1), 1, 900, 9223372036854775807] [(0, [I J (-1)]), (1, [I J 1]), (2, [I J 900]), (3, [I J 9223372036854775807])] z z z z z aT ty3 z z z ⟨z, z, nl z, z, z, nl z, z, z, nl z, z, z, nl z, Y⟩ z z (fun _ => (sm [y, y, y, y, y, n] z)) fun t2 => bE H fun e0 k1 H => aj z jA z z z z (fun f a => aU f k1 (a.carve [5] z z) (rdB [5] z z a g_p0b) (rdO 6 [5] z a z z)) fun t3 f P a f4 => ?_
        obtain ⟨rfl, f5⟩ := f4
        refine ⟨St w j [_, _, _, _, _, _, _, _], a.comp [5] z z f5, (sm [y, y, y, y, y, n] z), ?_⟩
        refine aQ <| jf <| bE H fun u e1 H => oZ z (fun f a => foc (r := 2) a z e1) fun t4 t5 t6 t7 => cc z (fun f a => a.1) fun k2 => ?_
        obtain ⟨b6, b7⟩ := k2
        refine dH (C' := St w j [_, _, _, _, _, _, _, _, _, _]) z (fun f a => a.2) <| dQ z (fun f a => dI (i := 9) a z) fun t8 t9 u0 => dQ z (fun _ h => h) fun u1 u2 u3 => dQ z (fun _ h => h) fun u4 u5 u6 => dQ z (fun _ h => h) fun u7 u8 u9 => cc z (fun f a => a.1) fun k3 => ?_
        subst k3
        refine dH (C' := St w j [_, _, _, _, _, _, _, _, _, _, _, _, _, _]) z (fun f a => a.2) <| eZ z z z z z dW bZ z (ez (p := 8) z) b7 b6 (cg e1).1 <| aa [.fa 60 5 7 lE] z <| eA (off := 7) [I J e0.1] (p := 8) (c' := [_, _, _, _, _, _, _, _, _, _, _, _]) z z z z z (by first | rfl | simp only [cE, cS, cz]) z ty3 z z (al z) z z z kp <| ax <| bW <| az <| am <| CW.weak (C' := St w j [_, _, _, _, _, _, _, _, _, _]) ?_ (ss [0, 1, 3, 6, 7, 8, 10, 11, 12, 13] z z)
        exact aP <| o1 z (rx 0 2 _ z br z) <| sC 0 [S g c.1.a_.length d, I J c.1.g_] [_, _] 1 z br z <| nT <| gR (fun f a => cm (x0 := u.s_) (x1 := u.k_.j_) (x2 := u.k_.c_) (x4 := u.x_) (x7 := e0.1) (x9 := u.l_) (x10 := u.p_) (x11 := u.q_) [6, 7, 8, 9] a z z) fun v0 => eG (C' := St w j [_, _, _, _, _, _, _, _, _, _, _]) (fun _ h => h) <| gR (fun f a => unf (p := 5) (q := 10) a z z z b7 b6) fun k4 => eG (C' := St w j [_, _, _, _, _, _, _, _, _, _, _, _]) (fun _ h => h) <| aO (rs := [.cell 4 26]) (vs := [.agg #[S g c.1.a_.length d, I J c.1.g_]]) z ⟨⟨_, [S g c.1.a_.length d, I J c.1.g_], _, _, _, z, br, (bn (T := 26) 0 (bJ (i := 1) z) z), z, z⟩, Y⟩ (fun w' hw' => by
         obtain rfl := af H
         exact ⟨_, z, g, c.1.a_.length, d, k4, z, hw'.sel [11, 4] z z⟩)
       ·refine sR <| oPP z <| nQ <| cI H z (fun H => ?_) (fun H => ?_)
        ·refine cw 11 [(0, y), (1, y), (2, y), (3, y), (4, y), (5, y), (6, y), (7, y), (8, y), (9, n), (10, n)] (St w j [b F 73 [S A p1.f_.length C, S D p1.n_.length E], b G 26 [S N 0 0, I J 0], W (ad (aC) 60) m c.1.a_ [S g c.1.a_.length d], b L 26 [S g c.1.a_.length d, I J c.1.g_], Res.nil, Res.nil]) bU (by kernel_rfl) (bj (aJ bb)) (sm [y, y, y, y, y, n] z) <| aa [.fa 26 0 0 bR] z <| bm z (aw z) (r1 0 3 z ec z) <| aa [.p, .p, .fa 26 1 1 lH] z <| bm z (aw z) (r1 1 3 z ty3 z) <| aa [.fa 26 1 1 lH] z <| bm z (aw z) (r1 1 3 z ty3 z) <| oP z <| bq (val := I J) (h1 := fun _ => z) [(-1), 0, 1, c.1.g_, J.wrap (c.1.g_ + 1)] [(0, [I J (-1)]), (1, [I J 0]), (2, [I J 1]), (3, [I J c.1.g_]), (4, [I J (J.wrap (c.1.g_ + 1))])] z z z z z aT ty3 z z z ⟨z, z, nl z, z, z, nl z, z, z, nl z, z, z, nl z, z, z, nl z, Y⟩ z z (fun _ => (sm [y, y, y, y, y, n] z)) fun v1 => bE H fun e2 k5 H => aj z jA z z z z (fun f a => aU f k5 (a.carve [5] z z) (rdB [5] z z a g_p0b) (rdO 6 [5] z a z z)) fun v2 f P a f6 => ?_
         obtain ⟨rfl, f7⟩ := f6
         refine ⟨St w j [_, _, _, _, _, _, _, _], a.comp [5] z z f7, (sm [y, y, y, y, y, n] z), ?_⟩
         refine aQ <| jf <| bE H fun x e3 H => oZ z (fun f a => foc (r := 2) a z e3) fun v3 v4 v5 v6 => cc z (fun f a => a.1) fun k6 => ?_
         obtain ⟨b8, b9⟩ := k6
         refine dH (C' := St w j [_, _, _, _, _, _, _, _, _, _]) z (fun f a => a.2) <| dQ z (fun f a => dI (i := 9) a z) fun v7 v8 v9 => dQ z (fun _ h => h) fun w0 w3 w4 => dQ z (fun _ h => h) fun w5 w6 w7 => dQ z (fun _ h => h) fun w8 w9 x3 => cc z (fun f a => a.1) fun k7 => ?_
         subst k7
         refine dH (C' := St w j [_, _, _, _, _, _, _, _, _, _, _, _, _, _]) z (fun f a => a.2) <| eZ z z z z z dW bZ z (ez (p := 8) z) b9 b8 (cg e3).1 <| aa [.fa 60 9 11 nx] z <| eA (off := 11) [I J e2.1] (p := 8) (c' := [_, _, _, _, _, _, _, _, _, _, _, _]) z z z z z (by first | rfl | simp only [cE, cS, cz]) z ty3 z z (al z) z z z kp <| ax <| bW <| az <| am <| CW.weak (C' := St w j [_, _, _, _, _, _, _, _, _, _]) ?_ (ss [0, 1, 3, 6, 7, 8, 10, 11, 12, 13] z z)
         exact aP <| o1 z (rx 0 2 _ z br z) <| sC 0 [S g c.1.a_.length d, I J c.1.g_] [_, _] 1 z br z <| nT <| gR (fun f a => cm (x0 := x.s_) (x1 := x.k_.j_) (x2 := x.k_.c_) (x4 := x.x_) (x7 := x.v_) (x9 := x.l_) (x10 := x.p_) (x11 := e2.1) [6, 7, 8, 9] a z z) fun x5 => eG (C' := St w j [_, _, _, _, _, _, _, _, _, _, _]) (fun _ h => h) <| gR (fun f a => unf (p := 5) (q := 10) a z z z b9 b8) fun k8 => eG (C' := St w j [_, _, _, _, _, _, _, _, _, _, _, _]) (fun _ h => h) <| aO (rs := [.cell 4 26]) (vs := [.agg #[S g c.1.a_.length d, I J c.1.g_]]) z ⟨⟨_, [S g c.1.a_.length d, I J c.1.g_], _, _, _, z, br, (bn (T := 26) 0 (bJ (i := 1) z) z), z, z⟩, Y⟩ (fun w' hw' => by
          obtain rfl := af H
          exact ⟨_, z, g, c.1.a_.length, d, k8, z, hw'.sel [11, 4] z z⟩)
        ·refine sR <| oPP z <| nQ <| cI H z (fun H => ?_) (fun H => ?_)
         ·refine bE H fun l b1 H => nZ (fun f a => foc (r := 2) a z b1) fun x6 x8 y0 y1 => gz (fun f a => a.1) fun k9 => ?_
          obtain ⟨a3, a4⟩ := k9
          refine CW.weak (C' := St w j [_, _, _, _, _, _, _, _]) ?_ (fun f a => a.2)
          refine nv (fun f a => dI (i := 7) a z) fun y2 y3 y4 => nv (fun _ h => h) fun y5 y6 y7 => nv (fun _ h => h) fun y8 y9 z0 => nv (fun _ h => h) fun z1 z2 z3 => gz (fun f a => a.1) fun l0 => ?_
          subst l0
          refine CW.weak (C' := St w j [_, _, _, _, _, _, _, _, _, _, _, _]) ?_ (fun f a => a.2)
          refine rI 12 bU (by kernel_rfl) <| aa [.fa 26 0 0 bR] z <| o1 z (r1 0 3 z ec z) <| aa [.p, .fa 26 0 0 bR] z <| o1 z (r1 0 3 z ec z) <| oP z <| eZ z z z z z dW bZ z (ez (p := 6) z) a4 a3 (cg b1).1 <| aa [.fa 60 0 0 mw] z <| o1 z (jO 6 0 z z z ty4 (by first | rfl | simp only [cE, cS, cz]) z) <| oP z <| eZ z z z z z dW bZ z (ez (p := 6) z) a4 a3 (cg b1).1 <| aa [.fa 60 0 0 mw] z <| co <| eA (off := 0) [B (!l.s_)] (p := 6) (c' := [_, _, _, _, _, _, _, _, _, _, _, _]) z z z z z (by first | rfl | simp only [cE, cS, cz]) z ty4 z z (al z) z z z kp <| ax <| bW <| az <| am <| CW.weak (C' := St w j [_, _, _, _, _, _, _, _, _]) ?_ (ss [0, 1, 3, 5, 6, 8, 9, 10, 11] z z)
          exact aP <| o1 z (rx 0 2 _ z br z) <| sC 0 [S g c.1.a_.length d, I J c.1.g_] [_, _] 1 z br z <| nT <| gR (fun f a => cm (x0 := (!l.s_)) (x1 := l.k_.j_) (x2 := l.k_.c_) (x4 := l.x_) (x7 := l.v_) (x9 := l.l_) (x10 := l.p_) (x11 := l.q_) [5, 6, 7, 8] a z z) fun z4 => eG (C' := St w j [_, _, _, _, _, _, _, _, _, _]) (fun _ h => h) <| gR (fun f a => unf (p := 4) (q := 9) a z z z a4 a3) fun l1 => eG (C' := St w j [_, _, _, _, _, _, _, _, _, _, _]) (fun _ h => h) <| aO (rs := [.cell 4 26]) (vs := [.agg #[S g c.1.a_.length d, I J c.1.g_]]) z ⟨⟨_, [S g c.1.a_.length d, I J c.1.g_], _, _, _, z, br, (bn (T := 26) 0 (bJ (i := 1) z) z), z, z⟩, Y⟩ (fun w' hw' => by
           obtain rfl := af H
           exact ⟨_, z, g, c.1.a_.length, d, l1, z, hw'.sel [10, 3] z z⟩)
         ·refine sR <| oPP z <| nQ <| cI H z (fun H => ?_) (fun H => ?_)
          ·refine cw 6 [(0, y), (1, y), (2, y), (3, y), (4, y), (5, n)] (St w j [b F 73 [S A p1.f_.length C, S D p1.n_.length E], b G 26 [S N 0 0, I J 0], W (ad (aC) 60) m c.1.a_ [S g c.1.a_.length d], b L 26 [S g c.1.a_.length d, I J c.1.g_], Res.nil, Res.nil]) bU (by kernel_rfl) (bj (aJ bb)) (sm [y, y, y, y, y, n] z) <| aa [.fa 26 0 0 bR] z <| bm z (aw z) (r1 0 3 z ec z) <| oPP z <| bm z (aw z) (rx 0 0 _ z cV z) <| bE H fun a5 l2 H => aj z GU z z z z (fun f a => uU f l2 (a.carve [5] z z) (rdB [5] z z a g_p0b) (ah (rdB [5] z z a a7) (rdB [5] z z a a8))) fun z5 f P a f8 => ?_
           obtain ⟨rfl, f9⟩ := f8
           refine ⟨St w j [_, _, _, _, _, _, _], a.comp [5] z z f9, (sm [y, y, y, y, y, n] z), ?_⟩
           refine aQ <| jf <| bE H fun M e4 H => oZ z (fun f a => foc (r := 2) a z e4) fun z6 z7 z8 z9 => cc z (fun f a => a.1) fun l3 => ?_
           obtain ⟨c1, c2⟩ := l3
           refine dH (C' := St w j [_, _, _, _, _, _, _, _, _]) z (fun f a => a.2) <| dQ z (fun f a => dI (i := 8) a z) fun A0 A1 A2 => dQ z (fun _ h => h) fun A3 A4 A5 => dQ z (fun _ h => h) fun A6 A7 A8 => dQ z (fun _ h => h) fun A9 B0 B1 => cc z (fun f a => a.1) fun l4 => ?_
           subst l4
           refine dH (C' := St w j [_, _, _, _, _, _, _, _, _, _, _, _, _]) z (fun f a => a.2) <| eZ z z z z z dW bZ z (ez (p := 7) z) c2 c1 (cg e4).1 <| aa [.fa 60 1 1 kL] z <| eA (off := 1) [I J a5.1.j_, I J a5.1.c_] (p := 7) (c' := [_, _, _, _, _, _, _, _, _, _, _, _]) z z z z z (by first | rfl | simp only [cE, cS, cz]) z cL z z (al z) z z z kp <| ax <| bW <| az <| am <| CW.weak (C' := St w j [_, _, _, _, _, _, _, _, _]) ?_ (ss [0, 1, 3, 6, 7, 9, 10, 11, 12] z z)
           exact aP <| o1 z (rx 0 2 _ z br z) <| sC 0 [S g c.1.a_.length d, I J c.1.g_] [_, _] 1 z br z <| nT <| gR (fun f a => cm (x0 := M.s_) (x1 := a5.1.j_) (x2 := a5.1.c_) (x4 := M.x_) (x7 := M.v_) (x9 := M.l_) (x10 := M.p_) (x11 := M.q_) [5, 6, 7, 8] a z z) fun B2 => eG (C' := St w j [_, _, _, _, _, _, _, _, _, _]) (fun _ h => h) <| gR (fun f a => unf (p := 4) (q := 9) a z z z c2 c1) fun l5 => eG (C' := St w j [_, _, _, _, _, _, _, _, _, _, _]) (fun _ h => h) <| aO (rs := [.cell 4 26]) (vs := [.agg #[S g c.1.a_.length d, I J c.1.g_]]) z ⟨⟨_, [S g c.1.a_.length d, I J c.1.g_], _, _, _, z, br, (bn (T := 26) 0 (bJ (i := 1) z) z), z, z⟩, Y⟩ (fun w' hw' => by
            obtain rfl := af H
            exact ⟨_, z, g, c.1.a_.length, d, l5, z, hw'.sel [10, 3] z z⟩)
          ·refine sR <| oPP z <| nQ <| cI H z (fun H => ?_) (fun H => ?_)
           ·refine cw 6 [(0, y), (1, y), (2, y), (3, y), (4, y), (5, n)] (St w j [b F 73 [S A p1.f_.length C, S D p1.n_.length E], b G 26 [S N 0 0, I J 0], W (ad (aC) 60) m c.1.a_ [S g c.1.a_.length d], b L 26 [S g c.1.a_.length d, I J c.1.g_], Res.nil, Res.nil]) bU (by kernel_rfl) (bj (aJ bb)) (sm [y, y, y, y, y, n] z) <| aa [.fa 26 0 0 bR] z <| bm z (aw z) (r1 0 3 z ec z) <| oPP z <| bm z (aw z) (rx 0 0 _ z cV z) <| bE H fun l6 l7 H => aj z GQ z z z z (fun f a => ub f l7 (a.carve [5] z z) (rdB [5] z z a g_p0b) (ah (rdB [5] z z a a7) (rdB [5] z z a a8))) fun B3 f P a g0 => ?_
            obtain ⟨l8, B4, l9, B5, rfl, c3⟩ := g0
            obtain rfl := aA (i := 0) c3 z
            refine ⟨St w j [_, _, _, _, _, _, _, _], a.comp [5] z z c3, (sm [y, y, y, y, y, n] z), ?_⟩
            refine aQ <| jf <| bE H fun o e5 H => oZ z (fun f a => foc (r := 2) a z e5) fun B6 B7 B8 B9 => cc z (fun f a => a.1) fun m0 => ?_
            obtain ⟨c4, c5⟩ := m0
            refine dH (C' := St w j [_, _, _, _, _, _, _, _, _, _]) z (fun f a => a.2) <| dQ z (fun f a => dI (i := 9) a z) fun C0 C1 C2 => dQ z (fun _ h => h) fun C3 C4 C5 => dQ z (fun _ h => h) fun C6 C7 C8 => dQ z (fun _ h => h) fun C9 D0 D1 => cc z (fun f a => a.1) fun m1 => ?_
            subst m1
            refine dH (C' := St w j [_, _, _, _, _, _, _, _, _, _, _, _, _, _]) z (fun f a => a.2) <| eZ z z z z z dW bZ z (ez (p := 8) z) c5 c4 (cg e5).1 <| aa [.fa 60 6 8 mM] z <| eA (off := 8) [S l8 l6.1.length l9] (p := 8) (c' := [_, _, _, _, _, _, _, _, _, _, _, _]) z z z z z (by first | rfl | simp only [cE, cS, cz]) z bG z z (al z) z z z kp <| ax <| bW <| az <| am <| CW.weak (C' := St w j [_, _, _, _, _, _, _, _, _, _]) ?_ (ss [0, 1, 3, 6, 7, 8, 10, 11, 12, 13] z z)
            exact aP <| o1 z (rx 0 2 _ z br z) <| sC 0 [S g c.1.a_.length d, I J c.1.g_] [_, _] 1 z br z <| nT <| gR (fun f a => cm (x0 := o.s_) (x1 := o.k_.j_) (x2 := o.k_.c_) (x4 := o.x_) (x7 := o.v_) (x9 := o.l_) (x10 := o.p_) (x11 := o.q_) [6, 7, 8, 3] a z z) fun D2 => eG (C' := St w j [_, _, _, _, _, _, _, _, _, _, _]) (fun _ h => h) <| gR (fun f a => unf (p := 5) (q := 10) a z z z c5 c4) fun m2 => eG (C' := St w j [_, _, _, _, _, _, _, _, _, _, _, _]) (fun _ h => h) <| aO (rs := [.cell 4 26]) (vs := [.agg #[S g c.1.a_.length d, I J c.1.g_]]) z ⟨⟨_, [S g c.1.a_.length d, I J c.1.g_], _, _, _, z, br, (bn (T := 26) 0 (bJ (i := 1) z) z), z, z⟩, Y⟩ (fun w' hw' => by
             obtain rfl := af H
             exact ⟨_, z, g, c.1.a_.length, d, m2, z, hw'.sel [11, 4] z z⟩)
           ·refine sR <| oPP z <| nQ <| cI H z (fun H => ?_) (fun H => ?_)
            ·refine cw 6 [(0, y), (1, y), (2, y), (3, y), (4, y), (5, n)] (St w j [b F 73 [S A p1.f_.length C, S D p1.n_.length E], b G 26 [S N 0 0, I J 0], W (ad (aC) 60) m c.1.a_ [S g c.1.a_.length d], b L 26 [S g c.1.a_.length d, I J c.1.g_], Res.nil, Res.nil]) bU (by kernel_rfl) (bj (aJ bb)) (sm [y, y, y, y, y, n] z) <| aa [.fa 26 0 0 bR] z <| bm z (aw z) (r1 0 3 z ec z) <| oPP z <| bm z (aw z) (rx 0 0 _ z cV z) <| bE H fun e6 m3 H => aj z Gd z z z z (fun f a => vn f m3 (a.carve [5] z z) (rdB [5] z z a g_p0b) (ah (rdB [5] z z a a7) (rdB [5] z z a a8))) fun D3 f P a g2 => ?_
             obtain ⟨m4, D4, m5, D5, m6, D6, m7, D7, rfl, a6⟩ := g2
             obtain rfl := aA (i := 0) a6 z
             obtain rfl := aA (i := 1) a6 z
             refine ⟨St w j [_, _, _, _, _, _, _, _, _], a.comp [5] z z a6, (sm [y, y, y, y, y, n] z), ?_⟩
             refine aQ <| jf <| bE H fun s e7 H => oZ z (fun f a => foc (r := 2) a z e7) fun D8 D9 E0 E1 => cc z (fun f a => a.1) fun m8 => ?_
             obtain ⟨c6, c7⟩ := m8
             refine dH (C' := St w j [_, _, _, _, _, _, _, _, _, _, _]) z (fun f a => a.2) <| dQ z (fun f a => dI (i := 10) a z) fun E2 E3 E4 => dQ z (fun _ h => h) fun E5 E6 E7 => dQ z (fun _ h => h) fun E8 E9 F1 => dQ z (fun _ h => h) fun F2 F3 F4 => cc z (fun f a => a.1) fun m9 => ?_
             subst m9
             refine dH (C' := St w j [_, _, _, _, _, _, _, _, _, _, _, _, _, _, _]) z (fun f a => a.2) <| eZ z z z z z dW bZ z (ez (p := 9) z) c7 c6 (cg e7).1 <| aa [.fa 60 4 5 ep] z <| eA (off := 5) [S m4 e6.1.d_.length m5, S m6 e6.1.b_.length m7] (p := 9) (c' := [_, _, _, _, _, _, _, _, _, _, _, _]) z z z z z (by first | rfl | simp only [cE, cS, cz]) z cK z z (al z) z z z kp <| ax <| bW <| az <| am <| CW.weak (C' := St w j [_, _, _, _, _, _, _, _, _, _, _]) ?_ (ss [0, 1, 3, 6, 7, 8, 9, 11, 12, 13, 14] z z)
             exact aP <| o1 z (rx 0 2 _ z br z) <| sC 0 [S g c.1.a_.length d, I J c.1.g_] [_, _] 1 z br z <| nT <| gR (fun f a => cm (x0 := s.s_) (x1 := s.k_.j_) (x2 := s.k_.c_) (x4 := s.x_) (x7 := s.v_) (x9 := s.l_) (x10 := s.p_) (x11 := s.q_) [7, 3, 4, 10] a z z) fun F5 => eG (C' := St w j [_, _, _, _, _, _, _, _, _, _, _, _]) (fun _ h => h) <| gR (fun f a => unf (p := 6) (q := 11) a z z z c7 c6) fun n1 => eG (C' := St w j [_, _, _, _, _, _, _, _, _, _, _, _, _]) (fun _ h => h) <| aO (rs := [.cell 4 26]) (vs := [.agg #[S g c.1.a_.length d, I J c.1.g_]]) z ⟨⟨_, [S g c.1.a_.length d, I J c.1.g_], _, _, _, z, br, (bn (T := 26) 0 (bJ (i := 1) z) z), z, z⟩, Y⟩ (fun w' hw' => by
              obtain rfl := af H
              exact ⟨_, z, g, c.1.a_.length, d, n1, z, hw'.sel [12, 5] z z⟩)
            ·refine sR <| oPP z <| nQ <| cI H z (fun H => ?_) (fun H => ?_)
             ·refine aP <| aa [.fa 26 0 0 bR] z <| o1 z (r1 0 3 z ec z) <| aa [.fa 26 0 0 bR] z <| o1 z (r1 0 3 z ec z) <| aa [.lenS 24 60 dW, .p] z <| bE H fun Z e9 H => rT (e := aC) (xs := c.1.a_) z z z z dW bZ z z z e9 (fun f a => ap (e := ad (aC) 60) (r := 2) z f a) <| aa [.fa 26 0 0 bR] z <| sl z (fun f a => St.trunc (i := 2) a z e9 z) fun n2 => dH (C' := St w j [_, _, _, _, _, _, _]) z (fun _ h => h) <| sC 0 [S (tq g d (0 : Int).toNat 12) Z.length (d - (0 : Int).toNat)] [_, _] 3 z ec z <| ax <| bW <| az <| am <| CW.weak (C' := St w j [_, _, _, _, _]) ?_ (ss [0, 1, 3, 5, 6] z z)
              exact aP <| o1 z (rx 0 2 _ z br z) <| sC 0 [S (tq g d (0 : Int).toNat 12) Z.length (d - (0 : Int).toNat), I J c.1.g_] [_, _] 1 z br z <| nT <| aO (rs := [.cell 4 26]) (vs := [.agg #[S (tq g d (0 : Int).toNat 12) Z.length (d - (0 : Int).toNat), I J c.1.g_]]) z ⟨⟨_, [S (tq g d (0 : Int).toNat 12) Z.length (d - (0 : Int).toNat), I J c.1.g_], _, _, _, z, br, (bn (T := 26) 0 (bJ (i := 1) z) z), z, z⟩, Y⟩ (fun w' hw' => by
               obtain rfl := af H
               exact ⟨_, z, (tq g d (0 : Int).toNat 12), Z.length, (d - (0 : Int).toNat), n2, z, hw'.sel [4, 3] z z⟩)
             ·exact av <| bW <| az <| sR <| o1 z (rx 0 3 _ z br z) <| sC 0 [S g c.1.a_.length d, I J c.1.g_] [_, _] 1 z br z <| nT <| aO (rs := [.cell 4 26]) (vs := [.agg #[S g c.1.a_.length d, I J c.1.g_]]) z ⟨⟨_, [S g c.1.a_.length d, I J c.1.g_], _, _, _, z, br, (bn (T := 26) 0 (bJ (i := 1) z) z), z, z⟩, Y⟩ (fun w' hw' => by
               obtain rfl := af H
               exact ⟨_, z, g, c.1.a_.length, d, m, z, hw'.sel [2, 5] z z⟩)
theorem uj (w : World) {d : List Nat} {p0b : List Int} {p0 : ak} {b_0 : Nat} {a_p0b : Option Addr} {n_p0b c_p0b : Nat} {r : ai × ak} (H : nL p0b p0 = U r) (HS : St w d [b b_0 77 [S a_p0b p0b.length c_p0b, I J p0.i_, I J p0.h_]] w) (g_p0b : (ad e8 5).rd w d p0b [S a_p0b n_p0b c_p0b]) :
    Calls Tryz.prog 15 #[O (U ⟨b_0, 0, N⟩)] w (fun en w' => ∃ v, en = .returned v ∧ ∃ (t : Option Addr), ∃ (u : Nat), ∃ (c0 : Nat), ∃ (P : List Nat), v = .agg #[S t u c0, I J r.1.g_] ∧ St w d [W (ad (aC) 60) P r.1.a_ [S t u c0], b b_0 77 [S a_p0b n_p0b c_p0b, I J r.2.i_, I J r.2.h_]] w') := by
 obtain rfl := fp g_p0b
 unfold nL at H
 refine aN Tryz.func15 z Tryz.ntmps15 z (HS) <| sR <| aB z z z z br (fun _ => kp) fun Q => nR <| oP z <| bE H fun m x H => aj z GO z z z z (fun f a => uk f x (a.carve [0] z z) (rdB [0] z z a g_p0b)) fun R f A a o => ?_
 obtain ⟨C, X, D, Z, E, a1, F, a2, rfl, g⟩ := o
 obtain rfl := aA (i := 0) g z
 obtain rfl := aA (i := 1) g z
 refine ⟨St w d [_, _, _, _, _], a.comp [0] z z g, fun _ _ => Y, ?_⟩
 refine aB z z z z cV (fun _ => kp) fun a3 => sC 0 [S C m.1.f_.length D, S E m.1.n_.length F] [_, _] 5 z cV z <| nQ <| am <| sR <| oP z <| bE H fun a4 G H => aj z sV z z z z (fun f a => dL f G (a.carve [4] z z) (rdB [4] z z a g_p0b)) fun a5 f A a p => ?_
 obtain ⟨rfl, q⟩ := p
 refine ⟨St w d [_, _, _, _, _, _, _], a.comp [4] z z q, fun _ _ => Y, ?_⟩
 refine nQ <| cI H z (fun H => ?_) (fun H => ?_)
 ·refine am <| CW.weak (C' := St w d [_, _, _, _, _]) ?_ (ss [1, 2, 3, 5, 6] z z)
  exact aP <| o1 z (bu [] [S N 0 0, I J 0] z z br zX z Y z) <| sC 0 [S N 0 0, I J 0] [_, _] 0 z br z <| nT <| aq <| eG (fun _ h => St.pushNil (e := aC) (T := 60) h) <| aO (rs := [.cell 2 26]) (vs := [.agg #[S N 0 0, I J 0]]) z ⟨⟨_, [S N 0 0, I J 0], _, _, _, z, br, (bn (T := 26) 0 (bJ (i := 0) z) z), z, z⟩, Y⟩ (fun w' hw' => by
   obtain rfl := af H
   exact ⟨_, z, N, 0, 0, [], z, hw'.sel [5, 4] z z⟩)
 ·refine av <| az <| am <| CW.weak (C' := St w d [_, _, _, _, _]) ?_ (ss [1, 2, 3, 5, 6] z z)
  refine aP <| oP z <| o1 z (rx 0 3 _ z cV z) <| bE H fun c L H => aj z GP z z z z (fun f a => ul f L (a.carve [4] z z) (rdB [4] z z a g_p0b) (ah (rdO 1 [4] z a z z) (rdO 2 [4] z a z z))) fun a6 f A a s => ?_
  obtain ⟨j, a7, k, M, rfl, l⟩ := s
  obtain rfl := aA (i := 0) l z
  refine ⟨St w d [_, _, _, _, _, _, _], a.comp [4] z z l, fun _ _ => Y, ?_⟩
  exact sC 0 [S j c.1.a_.length k, I J c.1.g_] [_, _] 0 z br z <| nT <| aO (rs := [.cell 2 26]) (vs := [.agg #[S j c.1.a_.length k, I J c.1.g_]]) z ⟨⟨_, [S j c.1.a_.length k, I J c.1.g_], _, _, _, z, br, (bn (T := 26) 0 (bJ (i := 0) z) z), z, z⟩, Y⟩ (fun w' hw' => by
   obtain rfl := af H
   exact ⟨_, z, j, c.1.a_.length, k, M, z, hw'.sel [5, 6] z z⟩)
theorem rc (w : World) {g : List Nat} {p0 : List Int} {a_0 : Option Addr} {n_0 c_0 : Nat} {r : ai} (H : jK p0 = U r) (HS : St w g [] w) (j : (ad e8 5).rd w g p0 [S a_0 n_0 c_0]) :
    Calls Tryz.prog 5 #[S a_0 n_0 c_0] w (fun en w' => ∃ v, en = .returned v ∧ ∃ (o : Option Addr), ∃ (p : Nat), ∃ (c0 : Nat), ∃ (u : List Nat), v = .agg #[S o p c0, I J r.g_] ∧ St w g [W (ad (aC) 60) u r.a_ [S o p c0]] w') := by
 obtain rfl := fp j
 unfold jK at H
 refine aN Tryz.func5 z Tryz.ntmps5 z (HS) <| sR <| aB z z z z br (fun _ => kp) fun A => nR <| oP z <| bE H fun C q H => aj z Fs z z z z (fun f a => rf f q (a.carve [] z z) (ab j f a)) fun D f x a k => ?_
 obtain ⟨E, rfl, l⟩ := k
 refine ⟨St w g [_, _], a.comp [] z z l, fun _ _ => Y, ?_⟩
 refine bE H fun c s H => aj z GL z z z z (fun f a => uj f s (a.carve [1] z z) (rdB [1] z z a j)) fun F f x a m => ?_
 obtain ⟨d, G, e, t, rfl, h⟩ := m
 obtain rfl := aA (i := 0) h z
 refine ⟨St w g [_, _, _, _], a.comp [1] z z h, fun _ _ => Y, ?_⟩
 exact sC 0 [S d c.1.a_.length e, I J c.1.g_] [_, _] 0 z br z <| nT <| aO (rs := [.cell 2 26]) (vs := [.agg #[S d c.1.a_.length e, I J c.1.g_]]) z ⟨⟨_, [S d c.1.a_.length e, I J c.1.g_], _, _, _, z, br, (bn (T := 26) 0 (bJ (i := 0) z) z), z, z⟩, Y⟩ (fun w' hw' => by
  obtain rfl := af H
  exact ⟨_, z, d, c.1.a_.length, e, t, z, hw'.sel [2] z z⟩)
theorem mP (w : World) {p0 : Int} {r : Int} (H : jG p0 = U r)   :
    Calls Tryz.prog 53 #[I J p0] w (fun en w' => en = .returned (I J r) ∧ Ext [] w w') := by
 unfold jG at H
 refine aN Tryz.func53 z Tryz.ntmps53 z (St.init w []) <| sR <| oP z <| nR <| oP z <| nQ <| am <| sR <| oP z <| nQ <| ay <| CW.at (jH (fun (a : Int) (c : Int) => St w [] []) (fun a c => [(0, I J p0), (3, I J a), (4, I J c)]) (fun kk => fun a c => fG p0 kk a c = U r) (fun _ _ H => ?_) (fun e d a c H => ?_) aY (1) (0) (H)) (ss [] z z) (sb z)
 ·unfold fG at H
  exact absurd H (by simp)
 ·unfold fG at H
  refine am <| sR <| aa [.p, .p, .p] z <| nQ <| cI H z (fun H => ?_) (fun H => ?_)
  ·exact av <| az <| am <| ay <| aP <| aa [.p, .p, .p] z <| ax <| bW <| az <| aP <| aa [.p, .p, .p] z <| ax <| ct (RW.at (d (J.wrap (a * 2)) (J.wrap (c + 1)) (H)) (ss [] z z) (sb z))
  ·exact bx <| aK <| aR <| aL <| az <| sR <| oPP z <| nT <| xr 2 z (by cases H; exact q1)
theorem tM (w : World) {j : List Nat} {p0b : List Int} {p0 : ak} {p1 : Int} {b_0 : Nat} {a_p0b : Option Addr} {n_p0b c_p0b : Nat} {r : (List Int) × ak} (H : ma p0b p0 p1 = U r) (HS : St w j [b b_0 77 [S a_p0b p0b.length c_p0b, I J p0.i_, I J p0.h_]] w) (g_p0b : (ad e8 5).rd w j p0b [S a_p0b n_p0b c_p0b]) :
    Calls Tryz.prog 54 #[O (U ⟨b_0, 0, N⟩), I J p1] w (fun en w' => ∃ v, en = .returned v ∧ ∃ (a0 : Option Addr), ∃ (n0 : Nat), ∃ (c0 : Nat), ∃ (F0 : List Nat), v = S a0 n0 c0 ∧ St w j [W (ad eI 3) F0 r.1 [S a0 n0 c0], b b_0 77 [S a_p0b n_p0b c_p0b, I J r.2.i_, I J r.2.h_]] w') := by
 obtain rfl := fp g_p0b
 unfold ma at H
 refine aN Tryz.func54 z Tryz.ntmps54 z (HS) <| sR <| oP z <| nR <| bI (e := eI) z z z z aT ty3 (fun _ => kp) fun Q => oP z <| nR <| aa [.p, .p, .p] z <| bE H fun R c1 H => aj z oX z z z z (fun c a => ca c c1 (a.carve [0] z z) (rdB [0] z z a g_p0b)) fun d0 c D a Z => ?_
 obtain ⟨rfl, a1⟩ := Z
 refine ⟨St w j [_, _, _], a.comp [0] z z a1, fun _ _ => Y, ?_⟩
 refine oP z <| nR <| aa [.p, .p, .p] z <| bE H fun X c2 H => aj z oX z z z z (fun c a => ca c c2 (a.carve [2] z z) (rdB [2] z z a g_p0b)) fun d1 c D a a2 => ?_
 obtain ⟨rfl, a3⟩ := a2
 refine ⟨St w j [_, _, _, _], a.comp [2] z z a3, fun _ _ => Y, ?_⟩
 refine oP z <| nQ <| am <| CW.weak (C' := St w j [_, _]) ?_ (ss [1, 3] z z)
 refine aP <| oP z <| bq (val := I J) (h1 := fun _ => z) [2, 8, 200] [(0, [I J 2]), (1, [I J 8]), (2, [I J 200])] z z z z z aT ty3 z z z ⟨z, z, nl z, z, z, nl z, z, z, nl z, Y⟩ z z (fun _ => kp) fun d2 => bE H fun s c3 H => aj z jA z z z z (fun c a => aU c c3 (a.carve [1] z z) (rdB [1] z z a g_p0b) (rdO 2 [1] z a z z)) fun d3 c D a a4 => ?_
 obtain ⟨rfl, a5⟩ := a4
 refine ⟨St w j [_, _, _, _], a.comp [1] z z a5, fun _ _ => Y, ?_⟩
 refine oP z <| nQ <| am <| sR <| oP z <| nQ <| ay <| CW.at (og (fun (k : Int) (l : Int) (d : List Int) (f : Option Addr) (g : Nat) (m : List Nat) (h : Int) => St w j [b b_0 77 [S a_p0b p0b.length c_p0b, I J k, I J l], W (ad eI 3) m d [S f d.length g]]) (fun k l d f g m h => [(0, O (U ⟨b_0, 0, N⟩)), (5, S f d.length g), (6, I J R.1), (7, I J X.1), (8, I J s.1), (9, I J h)]) (fun kk => fun k l d f g m h => f.isNone = n ∧ dD R X p0b s kk k l d h = U r) (fun _ _ _ _ _ _ _ H => ?_) (fun k1 t k l d f g m h ⟨c5, H⟩ => ?_) aY (s.2.i_) (s.2.h_) (([] : List Int)) ((U ⟨Q, 0, N⟩)) (0) ([Q]) (0) (⟨z, H⟩)) (ss [3, 0] z z) (sb z)
 ·unfold dD at H
  exact absurd H (by simp)
 ·unfold dD at H
  refine am <| sR <| aa [.p, .p, .p] z <| nQ <| cI H z (fun H => ?_) (fun H => ?_)
  ·refine av <| az <| am <| ay <| sR <| aa [.p, .p, .p] z <| nQ <| cI H z (fun H => ?_) (fun H => ?_)
   ·refine aP <| aa [.p, .p, .p] z <| bE H fun u a6 H => aj z sV z z z z (fun c a => dL c a6 (a.carve [0] z z) (rdB [0] z z a g_p0b)) fun c6 c D a E => ?_
    obtain ⟨rfl, F⟩ := E
    refine ⟨St w j [_, _, _], a.comp [0] z z F, fun _ _ => Y, ?_⟩
    exact bE H fun o a7 H => oq z (qc z Ce (fun c a => ll c a7)) tt2 <| bq (val := I J) (h1 := fun _ => z) [o] [(0, [I J o])] z z z z z aT ty3 z z z ⟨z, z, nl z, Y⟩ z z (fun _ => kp) fun c7 => bE H fun a8 x H => bC (r := 1) (ys := ([o] : List Int)) z z z z z z aT ty3 z z z (ap (e := ad eI 3) (r := 3) z) x (fun _ _ _ => kp) fun a9 b0 b1 => cc z (fun c a => fh (i := 1) a z (fe x)) fun G => oP z <| ax <| bW <| az <| aP <| aa [.p, .p, .p] z <| ax <| ct (RW.at (t (u.2.i_) (u.2.h_) (a8) (a9) (b0) (b1) (J.wrap (h + 1)) (⟨G, H⟩)) (ss [2, 1] z z) (sb z))
   ·refine aP <| oPP z <| bE H fun A b2 H => aj z sV z z z z (fun c a => dL c b2 (a.carve [0] z z) (rdB [0] z z a g_p0b)) fun c8 c D a L => ?_
    obtain ⟨rfl, M⟩ := L
    refine ⟨St w j [_, _, _], a.comp [0] z z M, fun _ _ => Y, ?_⟩
    exact oP z <| bE H fun q b3 H => oq z (qc z Ce (fun c a => ll c b3)) tt2 <| bq (val := I J) (h1 := fun _ => z) [q] [(0, [I J q])] z z z z z aT ty3 z z z ⟨z, z, nl z, Y⟩ z z (fun _ => kp) fun c9 => bE H fun b4 C H => bC (r := 1) (ys := ([q] : List Int)) z z z z z z aT ty3 z z z (ap (e := ad eI 3) (r := 3) z) C (fun _ _ _ => kp) fun b5 b6 b7 => cc z (fun c a => fh (i := 1) a z (fe C)) fun P => oP z <| ax <| bW <| az <| aP <| aa [.p, .p, .p] z <| ax <| ct (RW.at (t (A.2.i_) (A.2.h_) (b4) (b5) (b6) (b7) (J.wrap (h + 1)) (⟨P, H⟩)) (ss [2, 1] z z) (sb z))
  ·exact bx <| aK <| aR <| aL <| az <| sR <| oPP z <| nT <| aO (rs := [.tmp 4]) (vs := [S f d.length g]) z ⟨z, Y⟩ (fun w' hw' => by
    obtain rfl := af H
    exact ⟨_, z, f, d.length, g, m, z, hw'.sel [1, 0] z z⟩)
theorem tQ (w : World) {l : List Nat} {p0 : aE} {F : List Value} {r : aE} (H : mo p0 = U r) (HS : St w l [] w) (g0 : (fR).rd w l p0 F) :
    Calls Tryz.prog 64 #[.agg F.toArray] w (fun en w' => ∃ v, en = .returned v ∧ ∃ (a0 : Option Addr), ∃ (n0 : Nat), ∃ (c0 : Nat), ∃ (F0 : List Nat), v = .agg #[S a0 n0 c0] ∧ St w l [W (ad (ad eI 3) 45) F0 r.o_ [S a0 n0 c0]] w') := by
 obtain ⟨b3, rfl, G⟩ := fK g0
 obtain ⟨L, M, rfl⟩ := ao G
 unfold mo at H
 refine aN Tryz.func64 z Tryz.ntmps64 z (HS) <| sR <| ob _ z fun m => aB z z z z dm (fun _ => kp) fun o => nR <| o1 z (bu [] [S N 0 0] z z dm Do z Y z) <| aB z z z z dm (fun _ => kp) fun s => sC 0 [S N 0 0] [_] 2 z dm z <| nQ <| am <| sR <| oP z <| nQ <| ay <| CW.weak ?_ (fun _ h => St.pushNil (e := ad eI 3) (T := 45) h)
 refine CW.at (iw (fun (a : List (List Int)) (c : Option Addr) (d : Nat) (f : List Nat) (g : Int) => St w l [b m 30 [S L p0.o_.length M], b o 30 [S N 0 0], b s 30 [S c a.length d], W (ad (ad eI 3) 45) f a [S c a.length d]]) (fun a c d f g => [(1, O (U ⟨m, 0, N⟩)), (2, O (U ⟨o, 0, N⟩)), (3, O (U ⟨s, 0, N⟩)), (4, I J g)]) (fun kk => fun a c d f g => gq p0 kk a g = U r) (fun _ _ _ _ _ H => ?_) (fun k1 P a c d f g H => ?_) aY (([] : List (List Int))) (N) (0) ([]) (0) (H)) (ss [0, 1, 2, 3] z z) (sb z)
 ·unfold gq at H
  exact absurd H (by simp)
 ·unfold gq at H
  refine am <| sR <| aa [.p, .fa 30 0 0 cJ] z <| o1 z (r1 0 0 z cY z) <| aa [.lenS 28 45 cC, .p] z <| nQ <| cI H z (fun H => ?_) (fun H => ?_)
  ·refine av <| az <| am <| ay <| cw 10 [(0, y), (1, y), (3, y), (4, y), (5, y), (6, y), (7, y), (2, n), (8, n), (9, n)] (St w l [b m 30 [S L p0.o_.length M], b o 30 [S N 0 0], b s 30 [S c a.length d], W (ad (ad eI 3) 45) f a [S c a.length d]]) bU (by kernel_rfl) (bj (aJ (db (bj (aJ bb))))) (tk 4 z) <| aa [.fa 30 0 0 cJ] z <| bm z (aw z) (r1 0 2 z cY z) <| aa [.fa 30 0 0 cJ] z <| bm z (aw z) (r1 0 0 z cY z) <| oP z <| bE H fun Q R H => cf z z z z z cC bG z G R fun a6 a7 k E => ?_
   obtain ⟨a8, a9, rfl⟩ := ao k
   refine bm z (aw z) (aM z z bG (ce (fun _ h => h.ext) E)) <| bI (e := eI) z z z z aT ty3 (fun _ => (tk 4 z)) fun b0 => bE H fun t X H => bC (r := 4) (ys := Q) z z z z z z aT ty3 z z z (ab k) X (fun _ _ _ => (tk 4 z)) fun u x b1 => dV [(0, [S u t.length x])] z z z z z cC bG z z ⟨z, z, nl z, Y⟩ [S u t.length x] z (fun _ => (tk 4 z)) fun b2 => dH z (fun _ h => pg (p := 5) (q := 4) h z z z) <| aQ <| jf <| bE H fun A Z H => ix (r := 3) (j := 6) z z z z z z cC bG z z z z z z z Z (fun _ _ _ => kp) fun C D a1 => aa [.fa 30 0 0 cJ] z <| sC 0 [S C A.length D] [_] 2 z cY z <| ax <| bW <| az <| CW.weak (C' := St w l [_, _, _, _]) ?_ (ss [0, 1, 2, 7] z z)
   exact aP <| aa [.p, .p, .p] z <| ax <| ct (RW.at (P (A) (C) (D) (a1) (J.wrap (g + 1)) (H)) (ss [0, 1, 2, 3] z z) (sb z))
  ·exact bx <| aK <| aR <| aL <| az <| sR <| o1 z (rx 0 2 _ z dm z) <| sC 0 [S c a.length d] [_] 1 z dm z <| nT <| aO (rs := [.cell 2 30]) (vs := [.agg #[S c a.length d]]) z ⟨⟨_, [S c a.length d], _, _, _, z, dm, (bn (T := 30) 0 (bJ (i := 1) z) z), z, z⟩, Y⟩ (fun w' hw' => by
    obtain rfl := af H
    exact ⟨_, z, c, a.length, d, f, z, hw'.sel [3] z z⟩)
theorem sJ (w : World) {p0 : aE} {s : List Value} {r : Bool} (H : lm p0 = U r) (P : (fR).rd w [] p0 s) :
    Calls Tryz.prog 65 #[.agg s.toArray] w (fun en w' => en = .returned (B r) ∧ Ext [] w w') := by
 obtain ⟨b5, rfl, f⟩ := fK P
 obtain ⟨t, u, rfl⟩ := ao f
 unfold lm at H
 refine aN Tryz.func65 z Tryz.ntmps65 z (St.init w []) <| sR <| ob _ z fun g => oP z <| nQ <| am <| sR <| aa [.fa 30 0 0 cJ] z <| o1 z (r1 0 0 z cY z) <| aa [.lenS 28 45 cC, .p] z <| nQ <| cI H z (fun H => ?_) (fun H => ?_)
 ·exact sR <| oP z <| nT <| aq <| xr 2 z (by cases H; exact q1)
 ·refine av <| az <| am <| sR <| oP z <| nQ <| ay <| CW.at (gF (fun (c : Int) => St w [] [b g 30 [S t p0.o_.length u]]) (fun c => [(1, O (U ⟨g, 0, N⟩)), (3, I J c)]) (fun kk => fun c => cy p0 kk c = U r) (fun _ H => ?_) (fun Q x c H => ?_) aY (0) (H)) (ss [0] z z) (sb z)
  ·unfold cy at H
   exact absurd H (by simp)
  ·unfold cy at H
   refine am <| sR <| aa [.p, .fa 30 0 0 cJ] z <| o1 z (r1 0 0 z cY z) <| aa [.lenS 28 45 cC, .p] z <| nQ <| cI H z (fun H => ?_) (fun H => ?_)
   ·refine av <| az <| am <| ay <| am <| sR <| aa [.fa 30 0 0 cJ] z <| o1 z (r1 0 0 z cY z) <| oP z <| bE H fun R A H => cf z z z z z cC bG z f A fun X Z k l => ?_
    obtain ⟨a0, a1, rfl⟩ := ao k
    refine o1 z (aM z z bG (ce bor l)) <| aa [.lenS 45 3 aT] z <| bE H fun a2 C H => oq z (qc z gN (fun h v => be h C)) tt2 <| oP z <| nQ <| cI H z (fun H => ?_) (fun H => ?_)
    ·exact sR <| oP z <| nT <| aq <| ba <| aq <| cd <| ba <| aq <| xr 2 z (by cases H; exact q1)
    ·refine av <| az <| sR <| oP z <| nQ <| ay <| CW.at (gF (fun (a : Int) => St w [] [b g 30 [S t p0.o_.length u]]) (fun a => [(1, O (U ⟨g, 0, N⟩)), (3, I J c), (4, I J a)]) (fun kk => fun a => fI p0 c (cy p0 Q) kk a = U r) (fun _ H => ?_) (fun k2 D a H => ?_) aY (0) (H)) (ss [0] z z) (sb z)
     ·unfold fI at H
      exact absurd H (by simp)
     ·unfold fI at H
      refine am <| sR <| aa [.p, .fa 30 0 0 cJ] z <| o1 z (r1 0 0 z cY z) <| oP z <| bE H fun a3 E H => cf z z z z z cC bG z f E fun a4 a5 m o => ?_
      obtain ⟨a6, a7, rfl⟩ := ao m
      refine o1 z (aM z z bG (ce bor o)) <| aa [.lenS 45 3 aT, .p] z <| nQ <| cI H z (fun H => ?_) (fun H => ?_)
      ·refine av <| az <| am <| ay <| am <| dR bU (by kernel_rfl) <| aa [.fa 30 0 0 cJ] z <| o1 z (r1 0 0 z cY z) <| oP z <| bE H fun F G H => cf z z z z z cC bG z f G fun a8 a9 d q => ?_
       obtain ⟨b0, b1, rfl⟩ := ao d
       refine o1 z (aM z z bG (ce bor q)) <| oP z <| bE H fun b2 i H => bF (e := eI) (xs := F) (j := a) z z z z z aT ty3 z (ab d) i (by rw [Nat.mul_one]) <| o1 z (aM z z ty3 (bO (ab d) i)) <| oP z <| bE H fun b3 L H => oq z (qc z Ea (fun h v => mP h L)) tt2 <| bE H fun b4 M H => oq z (qc z gN (fun h v => be h M)) tt2 <| oP z <| co <| az <| cI H z (fun H => ?_) (fun H => ?_)
       ·exact sR <| oP z <| nT <| ba <| aq <| cd <| ba <| ba <| aq <| cd <| ba <| aq <| xr 2 z (by cases H; exact q1)
       ·exact av <| bW <| az <| aP <| aa [.p, .p, .p] z <| ax <| ct (RW.at (D (J.wrap (a + 1)) (H)) (ss [0] z z) (sb z))
      ·exact bx <| aK <| aR <| aL <| bW <| az <| aP <| aa [.p, .p, .p] z <| ax <| ct (RW.at (x (J.wrap (c + 1)) (H)) (ss [0] z z) (sb z))
   ·exact bx <| aK <| aR <| aL <| az <| sR <| oP z <| nT <| xr 2 z (by cases H; exact q1)
theorem rW (w : World) {l : List Nat} {p0 : aE} {p1 : Int} {e1 : List Value} {r : aE × Bool} (H : kD p0 p1 = U r) (HS : St w l [] w) (g0 : (fR).rd w l p0 e1) :
    Calls Tryz.prog 55 #[.agg e1.toArray, I J p1] w (fun en w' => ∃ v, en = .returned v ∧ ∃ (a0 : Option Addr), ∃ (n0 : Nat), ∃ (c0 : Nat), ∃ (F0 : List Nat), v = .tuple #[.agg #[S a0 n0 c0], B r.2] ∧ St w l [W (ad (ad eI 3) 45) F0 r.1.o_ [S a0 n0 c0]] w') := by
 obtain ⟨m6, rfl, b5⟩ := fK g0
 obtain ⟨m7, m8, rfl⟩ := ao b5
 unfold kD at H
 refine aN Tryz.func55 z Tryz.ntmps55 z (HS) <| sR <| ob _ z fun m9 => aB z z z z dm (fun _ => kp) fun o => oP z <| nR <| o1 z (rx 0 0 _ z dm z) <| bE H fun Q i9 H => aj z Gl z z z z (fun g a => tQ g i9 (a.carve [] z z) (fH (ab b5 g a))) fun n1 g w2 a e5 => ?_
 obtain ⟨X, n2, Z, e2, rfl, b6⟩ := e5
 obtain rfl := aA (i := 0) b6 z
 refine ⟨St w l [_, _, _], a.comp [] z z b6, fun _ _ => Y, ?_⟩
 refine aB z z z z dm (fun _ => kp) fun s => sC 0 [S X Q.o_.length Z] [_] 3 z dm z <| nQ <| am <| sR <| o1 z (rx 0 0 _ z dm z) <| bE H fun e3 j0 H => oq z (qc z Gp (fun g a => sJ g j0 (fH (ab b5 g a)))) tt2 <| oPP z <| bE H fun j1 b7 H => aV [(18, B j1), (1, I J p1), (4, O (U ⟨o, 0, N⟩)), (6, O (U ⟨s, 0, N⟩))] 4 ?_ (fun key => OW.sub (R := [(1, I J p1), (4, O (U ⟨o, 0, N⟩)), (6, O (U ⟨s, 0, N⟩)), (14, B (!e3))]) ?_ (sb z))
 ·refine nQ <| cI H z (fun H => ?_) (fun H => ?_)
  ·exact sR <| o1 z (rx 0 3 _ z dm z) <| sC 0 [S X Q.o_.length Z] [_] 1 z dm z <| oP z <| nT <| aq <| aO (rs := [.cell 4 30, .tmp 5]) (vs := [.agg #[S X Q.o_.length Z], B n]) z ⟨⟨_, [S X Q.o_.length Z], _, _, _, z, dm, (bn (T := 30) 0 (bJ (i := 1) z) z), z, z⟩, z, Y⟩ (fun w' hw' => by
    obtain rfl := af H
    exact ⟨_, z, X, Q.o_.length, Z, e2, z, hw'.sel [2] z z⟩)
  ·refine av <| az <| zC (fun (u : List (List Int)) (E : Option Addr) (D : Nat) (b3 : List Nat) => St w l [b o 30 [S N 0 0], b s 30 [S E u.length D], W (ad (ad eI 3) 45) b3 u [S E u.length D]]) (fun u E D b3 => [(1, I J p1), (4, O (U ⟨o, 0, N⟩)), (6, O (U ⟨s, 0, N⟩))]) (fun u E D b3 => ib p1 u = U r) (fun u E D b3 H => ?_) (fun J1 => ?_)
   ·unfold ib at H
    refine am <| bE H fun j3 b8 H => nZ (fun g a => foc (r := 2) a z b8) fun j4 j5 n3 n4 => gz (fun g a => a.1) fun j6 => ?_
    obtain ⟨a7, a8⟩ := j6
    refine CW.weak (C' := St w l [_, _, _, _, _]) ?_ (fun g a => a.2)
    refine qG (fun g a => qE (i := 4) a z) fun j7 j8 => gz (fun g a => a.1) fun j9 => ?_
    subst j9
    refine CW.weak (C' := St w l [_, _, _, _, _]) ?_ (fun g a => a.2)
    refine cw 9 [(0, y), (1, y), (2, y), (3, y), (4, y), (5, y), (6, y), (7, n), (8, n)] (St w l [b o 30 [S N 0 0], b s 30 [S E u.length D], Res.nil, Res.hole (ad eI 3) 45 j4 D u ((0 : Int).toNat) j5 [S j7 j3.length j8], Res.nil]) bU (by kernel_rfl) (aJ bb) (sm [y, y, y, y, n] z) <| aa [.fa 30 0 0 cJ] z <| bm z (aw z) (r1 0 1 z cY z) <| aa [.fa 30 0 0 cJ] z <| bm z (aw z) (r1 0 1 z cY z) <| eZ z z z z z cC bG z (ez (p := 3) z) a8 a7 (cg b8).1 <| bm z (aw z) (jO 3 0 z z z bG (by first | rfl | simp only [cE, cS, cz]) z) <| oP z <| bq (val := I J) (h1 := fun _ => z) [p1] [(0, [I J p1])] z z z z z aT ty3 z z z ⟨z, z, nl z, Y⟩ z z (fun _ => (sm [y, y, y, y, n] z)) fun n5 => bE H fun b9 k0 H => bC (r := 4) (ys := ([p1] : List Int)) z z z z z z aT ty3 z z z (ap (e := ad eI 3) (r := 5) z) k0 (fun _ _ _ => (sm [y, y, y, y, n] z)) fun k2 k3 n6 => aQ <| jf <| eZ z z z z z cC bG z (ez (p := 3) z) a8 a7 (cg b8).1 <| eA (off := 0) [S k2 b9.length k3] (p := 3) (c' := [_]) z z z z z (by first | rfl | simp only [cE, cS, cz]) z bG z z (al z) z z z kp <| nQ <| am <| sR <| oP z <| nQ <| ay <| BQ (fun g a => unf (p := 3) (q := 4) a z z z a8 a7) fun e4 => CW.weak (C' := St w l [_, _, _, _, _, _, _]) ?_ (fun _ h => h)
    refine CW.at (iw (fun (c : List (List Int)) (f : Option Addr) (d : Nat) (F : List Nat) (k : Int) => St w l [b o 30 [S N 0 0], b s 30 [S f c.length d], W (ad (ad eI 3) 45) F c [S f c.length d]]) (fun c f d F k => [(4, O (U ⟨o, 0, N⟩)), (6, O (U ⟨s, 0, N⟩)), (7, I J k)]) (fun kk => fun c f d F k => cO kk c k = U r) (fun _ _ _ _ _ H => ?_) (fun k1 e6 c f d F k H => ?_) aY ((u.set (0 : Int).toNat b9)) (E) (D) (e4) (0) (H)) (fun _ h => by have h2 : St w l [b o 30 [S N 0 0], b s 30 [S E u.length D], W (ad (ad eI 3) 45) e4 (u.set (0 : Int).toNat b9) [S E u.length D]] _ := St.sel [0, 1, 6] z z h; simpa only [List.length_set, List.length_cons, List.length_nil] using h2) (by simp only [Sub, List.length_set, List.length_cons, List.length_nil]; exact ⟨z, z, z, Y⟩)
    ·unfold cO at H
     exact absurd H (by simp)
    ·unfold cO at H
     refine am <| sR <| oPP z <| nQ <| cI H z (fun H => ?_) (fun H => ?_)
     ·refine av <| az <| am <| ay <| am <| sR <| aa [.p, .fa 30 0 0 cJ] z <| o1 z (r1 0 1 z cY z) <| aa [.lenS 28 45 cC, .p, .p] z <| bE H fun e7 b4 H => aV [(57, B e7), (4, O (U ⟨o, 0, N⟩)), (6, O (U ⟨s, 0, N⟩)), (7, I J k)] 8 ?_ (fun key => OW.sub (R := [(4, O (U ⟨o, 0, N⟩)), (6, O (U ⟨s, 0, N⟩)), (7, I J k), (49, B (decide (k ≥ (c.length : Int))))]) ?_ (sb z))
      ·refine nQ <| cI H z (fun H => ?_) (fun H => ?_)
       ·exact bx <| aK <| xP z <| aK <| aR <| aL <| az <| sR <| o1 z (rx 0 1 _ z dm z) <| sC 0 [S f c.length d] [_] 0 z dm z <| oP z <| nT <| aO (rs := [.cell 4 30, .tmp 5]) (vs := [.agg #[S f c.length d], B y]) z ⟨⟨_, [S f c.length d], _, _, _, z, dm, (bn (T := 30) 0 (bJ (i := 0) z) z), z, z⟩, z, Y⟩ (fun w' hw' => by
         obtain rfl := af H
         exact ⟨_, z, f, c.length, d, F, z, hw'.sel [2] z z⟩)
       ·refine av <| az <| am <| sR <| oPP z <| nQ <| cI H z (fun H => ?_) (fun H => ?_)
        ·refine am <| bE H fun a1 a9 H => nZ (fun g a => foc (r := 2) a z a9) fun e9 f0 f1 l0 => gz (fun g a => a.1) fun f2 => ?_
         obtain ⟨a2, a3⟩ := f2
         refine CW.weak (C' := St w l [_, _, _, _, _]) ?_ (fun g a => a.2)
         refine qG (fun g a => qE (i := 4) a z) fun c2 c3 => gz (fun g a => a.1) fun f3 => ?_
         subst f3
         refine CW.weak (C' := St w l [_, _, _, _, _]) ?_ (fun g a => a.2)
         exact cw 11 [(0, y), (1, y), (2, y), (4, y), (5, y), (6, y), (7, y), (8, y), (9, y), (3, n), (10, n)] (St w l [b o 30 [S N 0 0], b s 30 [S f c.length d], Res.nil, Res.hole (ad eI 3) 45 e9 d c k.toNat f0 [S c2 a1.length c3], W (ad eI 3) f1 a1 [S c2 a1.length c3]]) bU (by kernel_rfl) (aJ (aJ (bj (aJ (db (bj (aJ bb))))))) (tk 5 z) <| aa [.fa 30 0 0 cJ] z <| bm z (aw z) (r1 0 1 z cY z) <| aa [.p, .fa 30 0 0 cJ] z <| bm z (aw z) (r1 0 1 z cY z) <| oP z <| eZ z z z z z cC bG z (ez (p := 3) z) a3 a2 (cg a9).1 <| bm z (aw z) (jO 3 0 z z z bG (by first | rfl | simp only [cE, cS, cz]) z) <| bE H fun f4 c4 H => rT (e := eI) (xs := a1) z z z z aT ty3 z z z c4 (ap (e := ad eI 3) (r := 4) z) <| bI (e := eI) z z z z aT ty3 (fun _ => (tk 5 z)) fun l1 => bE H fun f5 f6 H => bC (r := 5) (ys := f4) z z z z z z aT ty3 z z z (xi (ap (e := ad eI 3) (r := 4) z) c4) f6 (fun _ _ _ => (tk 5 z)) fun f7 f8 l2 => aQ <| jf <| eZ z z z z z cC bG z (ez (p := 3) z) a3 a2 (cg a9).1 <| eA (off := 0) [S f7 f5.length f8] (p := 3) (c' := [_]) z z z z z (by first | rfl | simp only [cE, cS, cz]) z bG z z (al z) z z z kp <| nQ <| bx <| aK <| xP z <| aK <| aR <| aL <| az <| sR <| o1 z (rx 0 1 _ z dm z) <| sC 0 [S f c.length d] [_] 0 z dm z <| oP z <| nT <| gR (fun g a => unf (p := 3) (q := 5) a z z z a3 a2) fun f9 => eG (C' := St w l [_, _, _, _, _, _, _]) (fun _ h => h) <| aO (rs := [.cell 4 30, .tmp 5]) (vs := [.agg #[S f c.length d], B y]) z ⟨⟨_, [S f c.length d], _, _, _, z, dm, (bn (T := 30) 0 (bJ (i := 0) z) z), z, z⟩, z, Y⟩ (fun w' hw' => by
          obtain rfl := af H
          exact ⟨_, z, f, c.length, d, f9, z, hw'.sel [6] z z⟩)
        ·refine av <| az <| am <| bE H fun G L H => nZ (fun g a => foc (r := 2) a z L) fun g1 g2 g3 l3 => gz (fun g a => a.1) fun g4 => ?_
         obtain ⟨A, C⟩ := g4
         refine CW.weak (C' := St w l [_, _, _, _, _]) ?_ (fun g a => a.2)
         refine qG (fun g a => qE (i := 4) a z) fun c5 c6 => gz (fun g a => a.1) fun g5 => ?_
         subst g5
         refine CW.weak (C' := St w l [_, _, _, _, _]) ?_ (fun g a => a.2)
         refine dR bU (by kernel_rfl) <| aa [.fa 30 0 0 cJ] z <| o1 z (r1 0 1 z cY z) <| oP z <| eZ z z z z z cC bG z (ez (p := 3) z) C A (cg L).1 <| o1 z (jO 3 0 z z z bG (by first | rfl | simp only [cE, cS, cz]) z) <| bE H fun M c7 H => bF (e := eI) (xs := G) (j := 0) z z z z z aT ty3 z (ap (e := ad eI 3) (r := 4) z) c7 (by rw [Nat.mul_one]) <| o1 z (aM z z ty3 (bO (ap (e := ad eI 3) (r := 4) z) c7)) <| aa [.fa 30 0 0 cJ] z <| o1 z (r1 0 1 z cY z) <| oP z <| eZ z z z z z cC bG z (ez (p := 3) z) C A (cg L).1 <| o1 z (jO 3 0 z z z bG (by first | rfl | simp only [cE, cS, cz]) z) <| bE H fun P c8 H => bF (e := eI) (xs := G) (j := 1) z z z z z aT ty3 z (ap (e := ad eI 3) (r := 4) z) c8 (by rw [Nat.mul_one]) <| o1 z (aM z z ty3 (bO (ap (e := ad eI 3) (r := 4) z) c8)) <| oPP z <| co <| az <| am <| cw 11 [(0, y), (1, y), (2, y), (4, y), (5, y), (6, y), (7, y), (8, y), (9, y), (3, n), (10, n)] (St w l [b o 30 [S N 0 0], b s 30 [S f c.length d], Res.nil, Res.hole (ad eI 3) 45 g1 d c k.toNat g2 [S c5 G.length c6], W (ad eI 3) g3 G [S c5 G.length c6]]) bU (by kernel_rfl) (aJ (bj (aJ (db (bj (aJ bb)))))) (tk 5 z) <| aa [.fa 30 0 0 cJ] z <| bm z (aw z) (r1 0 1 z cY z) <| aa [.p, .fa 30 0 0 cJ] z <| bm z (aw z) (r1 0 1 z cY z) <| oP z <| eZ z z z z z cC bG z (ez (p := 3) z) C A (cg L).1 <| bm z (aw z) (jO 3 0 z z z bG (by first | rfl | simp only [cE, cS, cz]) z) <| bE H fun g6 c9 H => rT (e := eI) (xs := G) z z z z aT ty3 z z z c9 (ap (e := ad eI 3) (r := 4) z) <| bI (e := eI) z z z z aT ty3 (fun _ => (tk 5 z)) fun l4 => bE H fun b0 g7 H => bC (r := 5) (ys := g6) z z z z z z aT ty3 z z z (xi (ap (e := ad eI 3) (r := 4) z) c9) g7 (fun _ _ _ => (tk 5 z)) fun g8 g9 l5 => aQ <| jf <| eZ z z z z z cC bG z (ez (p := 3) z) C A (cg L).1 <| eA (off := 0) [S g8 b0.length g9] (p := 3) (c' := [_]) z z z z z (by first | rfl | simp only [cE, cS, cz]) z bG z z (al z) z z z kp <| nQ <| zC (fun (m : List (List Int)) (x : Option Addr) (t : Nat) (a4 : List Nat) => St w l [b o 30 [S N 0 0], b s 30 [S x m.length t], W (ad (ad eI 3) 45) a4 m [S x m.length t]]) (fun m x t a4 => [(4, O (U ⟨o, 0, N⟩)), (6, O (U ⟨s, 0, N⟩)), (7, I J k), (8, I J (J.wrap (M + P)))]) (fun m x t a4 => ie k M P (cO k1) m = U r) (fun m x t a4 H => ?_) (fun J2 => ?_)
         ·unfold ie at H
          refine bE H fun h0 b1 H => nZ (fun g a => foc (r := 2) a z b1) fun h3 h4 l6 l7 => gz (fun g a => a.1) fun h5 => ?_
          obtain ⟨a5, a6⟩ := h5
          refine CW.weak (C' := St w l [_, _, _, _, _]) ?_ (fun g a => a.2)
          refine qG (fun g a => qE (i := 4) a z) fun h6 h7 => gz (fun g a => a.1) fun h8 => ?_
          subst h8
          refine CW.weak (C' := St w l [_, _, _, _, _]) ?_ (fun g a => a.2)
          exact cw 13 [(0, y), (1, y), (2, y), (3, y), (4, y), (5, y), (6, y), (7, y), (8, y), (9, y), (10, y), (11, n), (12, n)] (St w l [b o 30 [S N 0 0], b s 30 [S x m.length t], Res.nil, Res.hole (ad eI 3) 45 h3 t m ((J.wrap (k + 1)).toNat) h4 [S h6 h0.length h7], Res.nil]) bU (by kernel_rfl) (bj (aJ (db (bj (aJ bb))))) (sm [y, y, y, y, n] z) <| aa [.fa 30 0 0 cJ] z <| bm z (aw z) (r1 0 1 z cY z) <| aa [.p, .p, .fa 30 0 0 cJ] z <| bm z (aw z) (r1 0 1 z cY z) <| oPP z <| eZ z z z z z cC bG z (ez (p := 3) z) a6 a5 (cg b1).1 <| bm z (aw z) (jO 3 0 z z z bG (by first | rfl | simp only [cE, cS, cz]) z) <| oP z <| bq (val := I J) (h1 := fun _ => z) [J.wrap (M + P)] [(0, [I J (J.wrap (M + P))])] z z z z z aT ty3 z z z ⟨z, z, nl z, Y⟩ z z (fun _ => (sm [y, y, y, y, n] z)) fun l8 => bE H fun b2 h9 H => bC (r := 4) (ys := ([J.wrap (M + P)] : List Int)) z z z z z z aT ty3 z z z (ap (e := ad eI 3) (r := 5) z) h9 (fun _ _ _ => (sm [y, y, y, y, n] z)) fun i0 i1 l9 => aQ <| jf <| eZ z z z z z cC bG z (ez (p := 3) z) a6 a5 (cg b1).1 <| eA (off := 0) [S i0 b2.length i1] (p := 3) (c' := [_]) z z z z z (by first | rfl | simp only [cE, cS, cz]) z bG z z (al z) z z z kp <| ax <| bW <| az <| aP <| aa [.p, .p, .p] z <| ax <| gR (fun g a => unf (p := 3) (q := 4) a z z z a6 a5) fun d0 => eG (C' := St w l [_, _, _, _, _, _, _]) (fun _ h => h) <| ct (RW.at (e6 ((m.set (J.wrap (k + 1)).toNat b2)) (x) (t) (d0) (J.wrap (k + 1)) (H)) (fun _ h => by have h2 : St w l [b o 30 [S N 0 0], b s 30 [S x m.length t], W (ad (ad eI 3) 45) d0 (m.set (J.wrap (k + 1)).toNat b2) [S x m.length t]] _ := St.sel [0, 1, 6] z z h; simpa only [List.length_set, List.length_cons, List.length_nil] using h2) (by simp only [Sub, List.length_set, List.length_cons, List.length_nil]; exact ⟨z, z, z, Y⟩))
         ·refine sR <| aa [.p, .p, .fa 30 0 0 cJ] z <| o1 z (r1 0 1 z cY z) <| aa [.lenS 28 45 cC, .p] z <| nQ <| cI H z (fun H => ?_) (fun H => ?_)
          ·exact aP <| aa [.fa 30 0 0 cJ] z <| o1 z (r1 0 1 z cY z) <| bI (e := eI) z z z z aT ty3 (fun _ => kp) fun d1 => dV [(0, [S (U ⟨d1, 0, N⟩) 0 0])] z z z z z cC bG z z ⟨z, z, nl z, Y⟩ [S (U ⟨d1, 0, N⟩) 0 0] z (fun _ => kp) fun m0 => dH z (fun _ h => pg (p := 7) (q := 6) h z z z) <| sl z (fun g a => unf (p := 3) (q := 5) a z z z C A) fun m1 => dH (C' := St w l [_, _, _, _, _, _, _, _, _, _]) z (fun _ h => h) <| bE H fun d2 i2 H => ix (r := 9) (j := 8) z z z z z z cC bG z z z z z z z i2 (fun _ _ _ => kp) fun d3 d4 i3 => aa [.fa 30 0 0 cJ] z <| sC 0 [S d3 d2.length d4] [_] 1 z cY z <| ax <| XW.at (J2 (d2) (d3) (d4) (i3) (H)) (ss [0, 1, 10] z z) (sb z)
          ·exact av <| gR (fun g a => unf (p := 3) (q := 5) a z z z C A) fun d5 => eG (C' := St w l [_, _, _, _, _, _, _]) (fun _ h => h) <| XW.at (J2 ((c.set k.toNat b0)) (f) (d) (d5) (H)) (fun _ h => by have h2 : St w l [b o 30 [S N 0 0], b s 30 [S f c.length d], W (ad (ad eI 3) 45) d5 (c.set k.toNat b0) [S f c.length d]] _ := St.sel [0, 1, 6] z z h; simpa only [List.length_set, List.length_cons, List.length_nil] using h2) (by simp only [Sub, List.length_set, List.length_cons, List.length_nil]; exact ⟨z, z, z, z, Y⟩)
      ·clear H
       have H := b4
       clear b4
       generalize (decide (k ≥ (c.length : Int))) = i4 at H key ⊢
       cases i4
       ·have H := bh z H
        refine aa [.fa 30 0 0 cJ] z <| o1 z (r1 0 1 z cY z) <| oP z <| bE H fun m2 d6 H => bF (e := ad eI 3) (xs := c) (j := k) z z z z z cC bG z (fun g a => ap (e := ad (ad eI 3) 45) (r := 2) z g a) d6 z <| AK z z z z bG (fun g a => ap (e := ad (ad eI 3) 45) (r := 2) z g a) d6 z fun m3 m4 => aa [.lenS 45 3 aT, .p] z <| oP z <| ?_
        obtain rfl := af H
        exact OW.sub key (sb z)
       ·have H := bi z H
        refine aa [.p, .p, .p, .p, .p, .p, .p, .p] z ?_
        obtain rfl := af H
        exact OW.sub key (sb z)
     ·exact bx <| aK <| aR <| aL <| az <| sR <| o1 z (rx 0 1 _ z dm z) <| sC 0 [S f c.length d] [_] 0 z dm z <| oP z <| nT <| aO (rs := [.cell 4 30, .tmp 5]) (vs := [.agg #[S f c.length d], B y]) z ⟨⟨_, [S f c.length d], _, _, _, z, dm, (bn (T := 30) 0 (bJ (i := 0) z) z), z, z⟩, z, Y⟩ (fun w' hw' => by
       obtain rfl := af H
       exact ⟨_, z, f, c.length, d, F, z, hw'.sel [2] z z⟩)
   ·refine sR <| aa [.fa 30 0 0 cJ] z <| o1 z (r1 0 3 z cY z) <| aa [.lenS 28 45 cC, .p] z <| nQ <| cI H z (fun H => ?_) (fun H => ?_)
    ·exact aP <| aa [.fa 30 0 0 cJ] z <| o1 z (r1 0 3 z cY z) <| bI (e := eI) z z z z aT ty3 (fun _ => kp) fun d7 => dV [(0, [S (U ⟨d7, 0, N⟩) 0 0])] z z z z z cC bG z z ⟨z, z, nl z, Y⟩ [S (U ⟨d7, 0, N⟩) 0 0] z (fun _ => kp) fun m5 => dH z (fun _ h => pg (p := 5) (q := 4) h z z z) <| bE H fun d8 i5 H => ix (r := 2) (j := 6) z z z z z z cC bG z z z z z z z i5 (fun _ _ _ => kp) fun d9 e0 i6 => aa [.fa 30 0 0 cJ] z <| sC 0 [S d9 d8.length e0] [_] 3 z cY z <| ax <| XW.at (J1 (d8) (d9) (e0) (i6) (H)) (ss [1, 3, 7] z z) (sb z)
    ·exact av <| XW.at (J1 (Q.o_) (X) (Z) (e2) (H)) (ss [1, 3, 2] z z) (sb z)
 ·clear H
  have H := b7
  clear b7
  generalize (!e3) = k5 at H key ⊢
  cases k5
  ·have H := bh z H
   refine oP z <| bE H fun n7 k6 H => oq z (qc z gN (fun g a => be g k6)) tt2 <| oP z <| oP z <| ?_
   obtain rfl := af H
   exact OW.sub key (sb z)
  ·have H := bi z H
   refine aa [.p, .p, .p, .p] z ?_
   obtain rfl := af H
   exact OW.sub key (sb z)
theorem sP (w : World) {s : List Nat} {p0b : List Int} {p0 : ak} {b_0 : Nat} {a_p0b : Option Addr} {n_p0b c_p0b : Nat} {r : aE × ak} (H : lw p0b p0 = U r) (HS : St w s [b b_0 77 [S a_p0b p0b.length c_p0b, I J p0.i_, I J p0.h_]] w) (g_p0b : (ad e8 5).rd w s p0b [S a_p0b n_p0b c_p0b]) :
    Calls Tryz.prog 33 #[O (U ⟨b_0, 0, N⟩)] w (fun en w' => ∃ v, en = .returned v ∧ ∃ (a0 : Option Addr), ∃ (n0 : Nat), ∃ (c0 : Nat), ∃ (F0 : List Nat), v = .agg #[S a0 n0 c0] ∧ St w s [W (ad (ad eI 3) 45) F0 r.1.o_ [S a0 n0 c0], b b_0 77 [S a_p0b n_p0b c_p0b, I J r.2.i_, I J r.2.h_]] w') := by
 obtain rfl := fp g_p0b
 unfold lw at H
 refine aN Tryz.func33 z Tryz.ntmps33 z (HS) <| sR <| aB z z z z dm (fun _ => kp) fun P => nR <| o1 z (bu [] [S N 0 0] z z dm Do z Y z) <| aB z z z z dm (fun _ => kp) fun Z => sC 0 [S N 0 0] [_] 2 z dm z <| nQ <| am <| sR <| oP z <| bE H fun h9 f8 H => aj z sV z z z z (fun f a => dL f f8 (a.carve [0] z z) (rdB [0] z z a g_p0b)) fun i0 f w2 a d3 => ?_
 obtain ⟨rfl, d4⟩ := d3
 refine ⟨St w s [_, _, _, _], a.comp [0] z z d4, fun _ _ => Y, ?_⟩
 refine nQ <| cI H z (fun H => ?_) (fun H => ?_)
 ·refine sR <| oP z <| bq (val := I J) (h1 := fun _ => z) [1, 4, 7, 8] [(0, [I J 1]), (1, [I J 4]), (2, [I J 7]), (3, [I J 8])] z z z z z aT ty3 z z z ⟨z, z, nl z, z, z, nl z, z, z, nl z, z, z, nl z, Y⟩ z z (fun _ => kp) fun i1 => bE H fun a1 f9 H => aj z jA z z z z (fun f a => aU f f9 (a.carve [3] z z) (rdB [3] z z a g_p0b) (rdO 4 [3] z a z z)) fun i2 f w2 a d5 => ?_
  obtain ⟨rfl, d6⟩ := d5
  refine ⟨St w s [_, _, _, _, _, _], a.comp [3] z z d6, fun _ _ => Y, ?_⟩
  refine oP z <| nQ <| am <| am <| CW.weak (C' := St w s [_, _, _, _]) ?_ (ss [1, 2, 4, 5] z z)
  refine aP <| oP z <| nQ <| ay <| CW.weak ?_ (fun _ h => St.pushNil (e := ad eI 3) (T := 45) h)
  refine CW.at (og (fun (Q : Int) (R : Int) (c : List (List Int)) (g : Option Addr) (k : Nat) (E : List Nat) (u : Int) => St w s [b b_0 77 [S a_p0b p0b.length c_p0b, I J Q, I J R], b P 30 [S N 0 0], b Z 30 [S g c.length k], W (ad (ad eI 3) 45) E c [S g c.length k]]) (fun Q R c g k E u => [(0, O (U ⟨b_0, 0, N⟩)), (2, O (U ⟨P, 0, N⟩)), (3, O (U ⟨Z, 0, N⟩)), (4, I J a1.1), (5, I J u)]) (fun kk => fun Q R c g k E u => dq a1 p0b kk Q R c u = U r) (fun _ _ _ _ _ _ _ H => ?_) (fun k1 d7 Q R c g k E u H => ?_) aY (a1.2.i_) (a1.2.h_) (([] : List (List Int))) (N) (0) ([]) (0) (H)) (ss [3, 0, 1, 4] z z) (sb z)
  ·unfold dq at H
   exact absurd H (by simp)
  ·unfold dq at H
   refine am <| sR <| aa [.p, .p, .p] z <| nQ <| cI H z (fun H => ?_) (fun H => ?_)
   ·refine av <| az <| am <| ay <| sR <| bI (e := eI) z z z z aT ty3 (fun _ => kp) fun a9 => oP z <| nR <| oP z <| bE H fun a2 d8 H => aj z oX z z z z (fun f a => ca f d8 (a.carve [0] z z) (rdB [0] z z a g_p0b)) fun g3 f w2 a c2 => ?_
    obtain ⟨rfl, c3⟩ := c2
    refine ⟨St w s [_, _, _, _, _, _], a.comp [0] z z c3, fun _ _ => Y, ?_⟩
    refine oPP z <| nQ <| am <| sR <| oP z <| nQ <| ay <| CW.at (og (fun (F : Int) (G : Int) (t : List Int) (A : Option Addr) (C : Nat) (a3 : List Nat) (L : Int) => St w s [b b_0 77 [S a_p0b p0b.length c_p0b, I J F, I J G], b P 30 [S N 0 0], b Z 30 [S g c.length k], W (ad (ad eI 3) 45) E c [S g c.length k], W (ad eI 3) a3 t [S A t.length C]]) (fun F G t A C a3 L => [(0, O (U ⟨b_0, 0, N⟩)), (2, O (U ⟨P, 0, N⟩)), (3, O (U ⟨Z, 0, N⟩)), (4, I J a1.1), (5, I J u), (6, S A t.length C), (7, I J (J.wrap (1 + a2.1))), (8, I J L)]) (fun kk => fun F G t A C a3 L => A.isNone = n ∧ ei a2 u p0b c (dq a1 p0b k1) kk F G t L = U r) (fun _ _ _ _ _ _ _ H => ?_) (fun k2 d9 F G t A C a3 L ⟨g0, H⟩ => ?_) aY (a2.2.i_) (a2.2.h_) (([] : List Int)) ((U ⟨a9, 0, N⟩)) (0) ([a9]) (0) (⟨z, H⟩)) (ss [5, 1, 2, 3, 4] z z) (sb z)
    ·unfold ei at H
     exact absurd H (by simp)
    ·unfold ei at H
     refine am <| sR <| aa [.p, .p, .p] z <| nQ <| cI H z (fun H => ?_) (fun H => ?_)
     ·refine av <| az <| am <| ay <| aP <| aa [.p, .p, .p] z <| bE H fun b0 e0 H => oq z (qc z Ea (fun f a => mP f e0)) tt2 <| oPP z <| bE H fun g4 e1 H => oq z (qc z Ea (fun f a => mP f e1)) tt2 <| oP z <| bE H fun b1 e2 H => aj z oX z z z z (fun f a => ca f e2 (a.carve [0] z z) (rdB [0] z z a g_p0b)) fun g5 f w2 a c4 => ?_
      obtain ⟨rfl, c5⟩ := c4
      refine ⟨St w s [_, _, _, _, _, _], a.comp [0] z z c5, fun _ _ => Y, ?_⟩
      refine bq (val := I J) (h1 := fun _ => z) [0, b0, b1.1] [(0, [I J 0]), (1, [I J b0]), (2, [I J b1.1])] z z z z z aT ty3 z z z ⟨z, z, nl z, z, z, nl z, z, z, nl z, Y⟩ z z (fun _ => kp) fun g6 => bE H fun X e3 H => aj z jA z z z z (fun f a => aU f e3 (a.carve [5] z z) (rdB [5] z z a g_p0b) (rdO 6 [5] z a z z)) fun g7 f w2 a c6 => ?_
      obtain ⟨rfl, c7⟩ := c6
      refine ⟨St w s [_, _, _, _, _, _, _, _], a.comp [5] z z c7, fun _ _ => Y, ?_⟩
      refine bq (val := I J) (h1 := fun _ => z) [X.1] [(0, [I J X.1])] z z z z z aT ty3 z z z ⟨z, z, nl z, Y⟩ z z (fun _ => kp) fun g8 => bE H fun e4 b2 H => bC (r := 4) (ys := ([X.1] : List Int)) z z z z z z aT ty3 z z z (ap (e := ad eI 3) (r := 8) z) b2 (fun _ _ _ => kp) fun e5 e6 e7 => cc z (fun f a => fh (i := 4) a z (fe b2)) fun c8 => oP z <| ax <| bW <| az <| CW.weak (C' := St w s [_, _, _, _, _, _, _]) ?_ (ss [1, 2, 3, 4, 6, 7, 8] z z)
      exact aP <| aa [.p, .p, .p] z <| ax <| ct (RW.at (d9 (X.2.i_) (X.2.h_) (e4) (e5) (e6) (e7) (J.wrap (L + 1)) (⟨c8, H⟩)) (ss [5, 0, 1, 2, 3] z z) (sb z))
     ·refine bx <| aK <| aR <| aL <| az <| aP <| aa [.fa 30 0 0 cJ] z <| o1 z (r1 0 2 z cY z) <| oP z <| dV [(0, [S A t.length C])] z z z z z cC bG z z ⟨z, z, nl z, Y⟩ [S A t.length C] z (fun _ => kp) fun g9 => dH z (fun _ h => pg (p := 5) (q := 4) h z z z) <| bE H fun b3 e9 H => ix (r := 3) (j := 6) z z z z z z cC bG z z z z z z z e9 (fun _ _ _ => kp) fun b4 b5 f0 => aa [.fa 30 0 0 cJ] z <| sC 0 [S b4 b3.length b5] [_] 2 z cY z <| ax <| bW <| az <| CW.weak (C' := St w s [_, _, _, _]) ?_ (ss [0, 1, 2, 7] z z)
      exact aP <| aa [.p, .p, .p] z <| ax <| ct (RW.at (d7 (F) (G) (b3) (b4) (b5) (f0) (J.wrap (u + 1)) (H)) (ss [0, 1, 2, 3] z z) (sb z))
   ·exact bx <| aK <| aR <| aL <| az <| sR <| o1 z (rx 0 2 _ z dm z) <| sC 0 [S g c.length k] [_] 1 z dm z <| nT <| aq <| aO (rs := [.cell 2 30]) (vs := [.agg #[S g c.length k]]) z ⟨⟨_, [S g c.length k], _, _, _, z, dm, (bn (T := 30) 0 (bJ (i := 1) z) z), z, z⟩, Y⟩ (fun w' hw' => by
     obtain rfl := af H
     exact ⟨_, z, g, c.length, k, E, z, hw'.sel [3, 0] z z⟩)
 ·refine av <| az <| sR <| oPP z <| bq (val := I J) (h1 := fun _ => z) [0, 6, 30, 90] [(0, [I J 0]), (1, [I J 6]), (2, [I J 30]), (3, [I J 90])] z z z z z aT ty3 z z z ⟨z, z, nl z, z, z, nl z, z, z, nl z, z, z, nl z, Y⟩ z z (fun _ => kp) fun h0 => bE H fun h2 f1 H => aj z jA z z z z (fun f a => aU f f1 (a.carve [3] z z) (rdB [3] z z a g_p0b) (rdO 4 [3] z a z z)) fun h3 f w2 a c9 => ?_
  obtain ⟨rfl, d0⟩ := c9
  refine ⟨St w s [_, _, _, _, _, _], a.comp [3] z z d0, fun _ _ => Y, ?_⟩
  refine bE H fun l f2 H => aj z FX z z z z (fun f a => tM f f2 (a.carve [5] z z) (rdB [5] z z a g_p0b)) fun h4 f w2 a d1 => ?_
  obtain ⟨a5, h5, a6, b6, rfl, a7⟩ := d1
  obtain rfl := aA (i := 0) a7 z
  refine ⟨St w s [_, _, _, _, _, _, _, _], a.comp [5] z z a7, fun _ _ => Y, ?_⟩
  refine oP z <| nQ <| am <| am <| CW.weak (C' := St w s [_, _, _, _, _]) ?_ (ss [1, 2, 4, 6, 7] z z)
  refine aP <| oP z <| nQ <| ay <| CW.weak ?_ (fun _ h => St.pushNil (e := ad eI 3) (T := 45) h)
  refine CW.at (iw (fun (D : Int) (d : List (List Int)) (m : Option Addr) (o : Nat) (M : List Nat) => St w s [b b_0 77 [S a_p0b p0b.length c_p0b, I J l.2.i_, I J l.2.h_], b P 30 [S N 0 0], b Z 30 [S m d.length o], W (ad (ad eI 3) 45) M d [S m d.length o], W (ad eI 3) b6 l.1 [S a5 l.1.length a6]]) (fun D d m o M => [(0, O (U ⟨b_0, 0, N⟩)), (2, O (U ⟨P, 0, N⟩)), (3, O (U ⟨Z, 0, N⟩)), (9, S a5 l.1.length a6), (10, I J D)]) (fun kk => fun D d m o M => eh l kk D d = U r) (fun _ _ _ _ _ H => ?_) (fun k3 f3 D d m o M H => ?_) aY (0) (([] : List (List Int))) (N) (0) ([]) (H)) (ss [4, 0, 1, 5, 3] z z) (sb z)
  ·unfold eh at H
   exact absurd H (by simp)
  ·unfold eh at H
   refine am <| sR <| aa [.p, .p, .lenS 45 3 aT, .p] z <| nQ <| cI H z (fun H => ?_) (fun H => ?_)
   ·refine av <| az <| am <| ay <| bE H fun h6 b7 H => bE H fun b8 f4 H => zn [(1, y), (2, y), (3, y), (4, y), (0, n), (5, n), (6, y), (7, y), (8, y), (9, n)] Br.done (St w s [b b_0 77 [S a_p0b p0b.length c_p0b, I J l.2.i_, I J l.2.h_], b P 30 [S N 0 0], Res.nil, W (ad (ad eI 3) 45) M d [S m d.length o], W (ad eI 3) b6 l.1 [S a5 l.1.length a6]]) bU (by kernel_rfl) (bj (aJ (db (bj (aJ bb))))) (sm [y, y, n, y, y] z) <| oPP z <| bF (e := eI) (xs := l.1) (j := D) z z z z z aT ty3 z (ap (e := ad eI 3) (r := 4) z) b7 (by rw [Nat.mul_one]) <| bm z (aw z) (aM z z ty3 (bO (ap (e := ad eI 3) (r := 4) z) b7)) <| wa z z (aw z) (rx 0 2 _ z dm z) <| aj z Gu z z z z (fun f a => rW f f4 (a.carve [] z z) (fH (x := (aE.mk d)) (c0 := [S m d.length o]) (ap (e := ad (ad eI 3) 45) (r := 3) z f a))) fun h7 f w2 a d2 => ?_
    obtain ⟨b9, h8, c1, f5, rfl, a8⟩ := d2
    obtain rfl := aA (i := 0) a8 z
    refine ⟨St w s [_, _, _, _, _, _], a.comp [] z z a8, (sm [y, y, n, y, y] z), ?_⟩
    exact aa [.p, .p, .p] z <| bp (off := 0) [S b9 b8.1.o_.length c1] [_] (i := 2) z z z z z z dm z z (al z) z z z (sm [y, y, n, y, y] z) <| aQ <| uv <| bW <| az <| aP <| aa [.p, .p, .p] z <| ax <| ct (RW.at (f3 (J.wrap (D + 1)) (b8.1.o_) (b9) (c1) (f5) (H)) (ss [0, 1, 2, 5, 4] z z) (sb z))
   ·exact bx <| aK <| aR <| aL <| az <| sR <| o1 z (rx 0 2 _ z dm z) <| sC 0 [S m d.length o] [_] 1 z dm z <| nT <| aO (rs := [.cell 2 30]) (vs := [.agg #[S m d.length o]]) z ⟨⟨_, [S m d.length o], _, _, _, z, dm, (bn (T := 30) 0 (bJ (i := 1) z) z), z, z⟩, Y⟩ (fun w' hw' => by
     obtain rfl := af H
     exact ⟨_, z, m, d.length, o, M, z, hw'.sel [3, 0] z z⟩)
theorem ug (w : World) {k : List Nat} {p0b : List Int} {p0 : ak} {b_0 : Nat} {a_p0b : Option Addr} {n_p0b c_p0b : Nat} {r : aE × ak} (H : mE p0b p0 = U r) (HS : St w k [b b_0 77 [S a_p0b p0b.length c_p0b, I J p0.i_, I J p0.h_]] w) (g_p0b : (ad e8 5).rd w k p0b [S a_p0b n_p0b c_p0b]) :
    Calls Tryz.prog 17 #[O (U ⟨b_0, 0, N⟩)] w (fun en w' => ∃ v, en = .returned v ∧ ∃ (a0 : Option Addr), ∃ (n0 : Nat), ∃ (c0 : Nat), ∃ (F0 : List Nat), v = .agg #[S a0 n0 c0] ∧ St w k [W (ad (ad eI 3) 45) F0 r.1.o_ [S a0 n0 c0], b b_0 77 [S a_p0b n_p0b c_p0b, I J r.2.i_, I J r.2.h_]] w') := by
 obtain rfl := fp g_p0b
 unfold mE at H
 refine aN Tryz.func17 z Tryz.ntmps17 z (HS) <| sR <| aB z z z z dm (fun _ => kp) fun L => nR <| oP z <| bE H fun c c3 H => aj z GR z z z z (fun g a => sP g c3 (a.carve [0] z z) (rdB [0] z z a g_p0b)) fun e5 g w2 a b0 => ?_
 obtain ⟨f, e6, d, M, rfl, Q⟩ := b0
 obtain rfl := aA (i := 0) Q z
 refine ⟨St w k [_, _, _, _], a.comp [0] z z Q, fun _ _ => Y, ?_⟩
 refine aB z z z z dm (fun _ => kp) fun P => sC 0 [S f c.1.o_.length d] [_] 4 z dm z <| nQ <| am <| sR <| oP z <| bE H fun R c4 H => aj z oX z z z z (fun g a => ca g c4 (a.carve [3] z z) (rdB [3] z z a g_p0b)) fun e7 g w2 a b1 => ?_
 obtain ⟨rfl, b2⟩ := b1
 refine ⟨St w k [_, _, _, _, _, _], a.comp [3] z z b2, fun _ _ => Y, ?_⟩
 refine nQ <| ay <| am <| CW.weak (C' := St w k [_, _, _, _]) ?_ (ss [1, 2, 4, 5] z z)
 refine aP <| oPP z <| nQ <| cI H z (fun H => ?_) (fun H => ?_)
 ·refine aP <| aa [.fa 30 0 0 cJ] z <| o1 z (r1 0 2 z cY z) <| bI (e := eI) z z z z aT ty3 (fun _ => kp) fun a6 => dV [(0, [S (U ⟨a6, 0, N⟩) 0 0])] z z z z z cC bG z z ⟨z, z, nl z, Y⟩ [S (U ⟨a6, 0, N⟩) 0 0] z (fun _ => kp) fun e9 => dH z (fun _ h => pg (p := 5) (q := 4) h z z z) <| bE H fun A c5 H => ix (r := 1) (j := 6) z z z z z z cC bG z z z z z z z c5 (fun _ _ _ => kp) fun C D c6 => aa [.fa 30 0 0 cJ] z <| sC 0 [S C A.length D] [_] 2 z cY z <| ax <| bW <| az <| am <| CW.weak (C' := St w k [_, _, _, _]) ?_ (ss [0, 2, 3, 7] z z)
  exact aP <| o1 z (rx 0 1 _ z dm z) <| sC 0 [S C A.length D] [_] 0 z dm z <| nT <| aO (rs := [.cell 2 30]) (vs := [.agg #[S C A.length D]]) z ⟨⟨_, [S C A.length D], _, _, _, z, dm, (bn (T := 30) 0 (bJ (i := 0) z) z), z, z⟩, Y⟩ (fun w' hw' => by
   obtain rfl := af H
   exact ⟨_, z, C, A.length, D, c6, z, hw'.sel [3, 2] z z⟩)
 ·refine sR <| oPP z <| nQ <| cI H z (fun H => ?_) (fun H => ?_)
  ·refine sR <| aa [.fa 30 0 0 cJ] z <| o1 z (r1 0 2 z cY z) <| aa [.lenS 28 45 cC, .p] z <| nQ <| cI H z (fun H => ?_) (fun H => ?_)
   ·refine bE H fun c7 X H => nZ (fun g a => foc (r := 1) a z X) fun c8 c9 f0 f1 => gz (fun g a => a.1) fun d0 => ?_
    obtain ⟨F, G⟩ := d0
    refine CW.weak (C' := St w k [_, _, _, _, _, _]) ?_ (fun g a => a.2)
    refine qG (fun g a => qE (i := 5) a z) fun d1 d2 => gz (fun g a => a.1) fun d3 => ?_
    subst d3
    refine CW.weak (C' := St w k [_, _, _, _, _, _]) ?_ (fun g a => a.2)
    refine cw 11 [(0, y), (1, y), (2, y), (3, y), (4, y), (5, y), (6, y), (7, n), (8, n), (9, n), (10, n)] (St w k [b L 30 [S N 0 0], Res.nil, b P 30 [S f c.1.o_.length d], Res.nil, Res.hole (ad eI 3) 45 c8 d c.1.o_ ((0 : Int).toNat) c9 [S d1 c7.length d2], Res.nil]) bU (by kernel_rfl) (bj (aJ bb)) (sm [y, y, y, n, y, n] z) <| aa [.fa 30 0 0 cJ] z <| bm z (aw z) (r1 0 2 z cY z) <| aa [.fa 30 0 0 cJ] z <| bm z (aw z) (r1 0 2 z cY z) <| eZ z z z z z cC bG z (ez (p := 4) z) G F (cg X).1 <| bm z (aw z) (jO 4 0 z z z bG (by first | rfl | simp only [cE, cS, cz]) z) <| oP z <| bq (val := I J) (h1 := fun _ => z) [2, (-1), 1, 1] [(0, [I J 2]), (1, [I J (-1)]), (2, [I J 1]), (3, [I J 1])] z z z z z aT ty3 z z z ⟨z, z, nl z, z, z, nl z, z, z, nl z, z, z, nl z, Y⟩ z z (fun _ => (sm [y, y, y, n, y, n] z)) fun f2 => bE H fun Z d4 H => aj z jA z z z z (fun g a => aU g d4 (a.carve [3] z z) (rdB [3] z z a g_p0b) (rdO 6 [3] z a z z)) fun f3 g w2 a b3 => ?_
    obtain ⟨rfl, b4⟩ := b3
    refine ⟨St w k [_, _, _, _, _, _, _, _], a.comp [3] z z b4, (sm [y, y, y, n, y, n] z), ?_⟩
    refine bq (val := I J) (h1 := fun _ => z) [Z.1] [(0, [I J Z.1])] z z z z z aT ty3 z z z ⟨z, z, nl z, Y⟩ z z (fun _ => (sm [y, y, y, n, y, n] z)) fun f4 => bE H fun d5 d6 H => bC (r := 5) (ys := ([Z.1] : List Int)) z z z z z z aT ty3 z z z (ap (e := ad eI 3) (r := 8) z) d6 (fun _ _ _ => (sm [y, y, y, n, y, n] z)) fun d7 d8 f5 => aQ <| jf <| eZ z z z z z cC bG z (ez (p := 4) z) G F (cg X).1 <| eA (off := 0) [S d7 d5.length d8] (p := 4) (c' := [_]) z z z z z (by first | rfl | simp only [cE, cS, cz]) z bG z z (al z) z z z kp <| ax <| bW <| az <| am <| CW.weak (C' := St w k [_, _, _, _, _, _, _]) ?_ (ss [0, 2, 4, 5, 6, 7, 8] z z)
    exact aP <| o1 z (rx 0 1 _ z dm z) <| sC 0 [S f c.1.o_.length d] [_] 0 z dm z <| nT <| gR (fun g a => unf (p := 2) (q := 3) a z z z G F) fun d9 => eG (C' := St w k [_, _, _, _, _, _, _, _]) (fun _ h => h) <| aO (rs := [.cell 2 30]) (vs := [.agg #[S f c.1.o_.length d]]) z ⟨⟨_, [S f c.1.o_.length d], _, _, _, z, dm, (bn (T := 30) 0 (bJ (i := 0) z) z), z, z⟩, Y⟩ (fun w' hw' => by
     obtain rfl := af H
     exact ⟨_, z, f, c.1.o_.length, d, d9, z, hw'.sel [7, 5] z z⟩)
   ·exact av <| bW <| az <| sR <| o1 z (rx 0 2 _ z dm z) <| sC 0 [S f c.1.o_.length d] [_] 0 z dm z <| nT <| aO (rs := [.cell 2 30]) (vs := [.agg #[S f c.1.o_.length d]]) z ⟨⟨_, [S f c.1.o_.length d], _, _, _, z, dm, (bn (T := 30) 0 (bJ (i := 0) z) z), z, z⟩, Y⟩ (fun w' hw' => by
     obtain rfl := af H
     exact ⟨_, z, f, c.1.o_.length, d, M, z, hw'.sel [1, 3] z z⟩)
  ·refine sR <| oPP z <| nQ <| cI H z (fun H => ?_) (fun H => ?_)
   ·refine ay <| CW.at (DY (fun (l : List (List Int)) (m : Option Addr) (o : Nat) (E : List Nat) => St w k [b b_0 77 [S a_p0b p0b.length c_p0b, I J R.2.i_, I J R.2.h_], b L 30 [S N 0 0], b P 30 [S m l.length o], W (ad (ad eI 3) 45) E l [S m l.length o]]) (fun l m o E => [(0, O (U ⟨b_0, 0, N⟩)), (2, O (U ⟨L, 0, N⟩)), (3, O (U ⟨P, 0, N⟩))]) (fun kk => fun l m o E => gp R kk l = U r) (fun _ _ _ _ H => ?_) (fun k1 b5 l m o E H => ?_) aY (c.1.o_) (f) (d) (M) (H)) (ss [3, 0, 2, 1] z z) (sb z)
    ·unfold gp at H
     exact absurd H (by simp)
    ·unfold gp at H
     refine am <| sR <| aa [.fa 30 0 0 cJ] z <| o1 z (r1 0 2 z cY z) <| aa [.lenS 28 45 cC, .p] z <| nQ <| cI H z (fun H => ?_) (fun H => ?_)
     ·exact av <| az <| ay <| aP <| aa [.fa 30 0 0 cJ] z <| o1 z (r1 0 2 z cY z) <| bq (val := I J) (h1 := fun _ => z) [1] [(0, [I J 1])] z z z z z aT ty3 z z z ⟨z, z, nl z, Y⟩ z z (fun _ => kp) fun a7 => dV [(0, [S (U ⟨a7, 0, N⟩) (([1] : List Int).length) 1])] z z z z z cC bG z z ⟨z, z, nl z, Y⟩ [S (U ⟨a7, 0, N⟩) (([1] : List Int).length) 1] z (fun _ => kp) fun f6 => dH z (fun _ h => pg (p := 5) (q := 4) h z z z) <| bE H fun a8 e0 H => ix (r := 3) (j := 6) z z z z z z cC bG z z z z z z z e0 (fun _ _ _ => kp) fun a1 a2 b6 => aa [.fa 30 0 0 cJ] z <| sC 0 [S a1 a8.length a2] [_] 2 z cY z <| ax <| bW <| ct (RW.at (b5 (a8) (a1) (a2) (b6) (H)) (ss [0, 1, 2, 7] z z) (sb z))
     ·exact bx <| aK <| aR <| aL <| bW <| az <| sR <| o1 z (rx 0 2 _ z dm z) <| sC 0 [S m l.length o] [_] 1 z dm z <| nT <| aO (rs := [.cell 2 30]) (vs := [.agg #[S m l.length o]]) z ⟨⟨_, [S m l.length o], _, _, _, z, dm, (bn (T := 30) 0 (bJ (i := 1) z) z), z, z⟩, Y⟩ (fun w' hw' => by
       obtain rfl := af H
       exact ⟨_, z, m, l.length, o, E, z, hw'.sel [3, 0] z z⟩)
   ·refine sR <| oPP z <| nQ <| cI H z (fun H => ?_) (fun H => ?_)
    ·refine cw 7 [(0, y), (1, y), (2, y), (3, n), (4, n), (5, n), (6, n)] (St w k [b L 30 [S N 0 0], W (ad (ad eI 3) 45) M c.1.o_ [S f c.1.o_.length d], b P 30 [S f c.1.o_.length d], Res.nil]) bU (by kernel_rfl) (bj (aJ bb)) (sm [y, y, y, n] z) <| aa [.fa 30 0 0 cJ] z <| bm z (aw z) (r1 0 2 z cY z) <| oP z <| bq (val := I J) (h1 := fun _ => z) [256, 257, 1, (-1)] [(0, [I J 256]), (1, [I J 257]), (2, [I J 1]), (3, [I J (-1)])] z z z z z aT ty3 z z z ⟨z, z, nl z, z, z, nl z, z, z, nl z, z, z, nl z, Y⟩ z z (fun _ => (sm [y, y, y, n] z)) fun e2 => bE H fun x b7 H => aj z jA z z z z (fun g a => aU g b7 (a.carve [3] z z) (rdB [3] z z a g_p0b) (rdO 4 [3] z a z z)) fun e3 g w2 a a4 => ?_
     obtain ⟨rfl, a5⟩ := a4
     refine ⟨St w k [_, _, _, _, _, _], a.comp [3] z z a5, (sm [y, y, y, n] z), ?_⟩
     refine bq (val := I J) (h1 := fun _ => z) [x.1] [(0, [I J x.1])] z z z z z aT ty3 z z z ⟨z, z, nl z, Y⟩ z z (fun _ => (sm [y, y, y, n] z)) fun a3 => dV [(0, [S (U ⟨a3, 0, N⟩) (([x.1] : List Int).length) 1])] z z z z z cC bG z z ⟨z, z, nl z, Y⟩ [S (U ⟨a3, 0, N⟩) (([x.1] : List Int).length) 1] z (fun _ => (sm [y, y, y, n] z)) fun e4 => dH z (fun _ h => pg (p := 7) (q := 6) h z z z) <| aQ <| jf <| bE H fun s b8 H => ix (r := 1) (j := 8) z z z z z z cC bG z z z z z z z b8 (fun _ _ _ => kp) fun t u b9 => aa [.fa 30 0 0 cJ] z <| sC 0 [S t s.length u] [_] 2 z cY z <| ax <| bW <| az <| am <| CW.weak (C' := St w k [_, _, _, _, _]) ?_ (ss [0, 2, 4, 5, 9] z z)
     exact aP <| o1 z (rx 0 1 _ z dm z) <| sC 0 [S t s.length u] [_] 0 z dm z <| nT <| aO (rs := [.cell 2 30]) (vs := [.agg #[S t s.length u]]) z ⟨⟨_, [S t s.length u], _, _, _, z, dm, (bn (T := 30) 0 (bJ (i := 0) z) z), z, z⟩, Y⟩ (fun w' hw' => by
      obtain rfl := af H
      exact ⟨_, z, t, s.length, u, b9, z, hw'.sel [4, 3] z z⟩)
    ·exact av <| bW <| az <| sR <| o1 z (rx 0 2 _ z dm z) <| sC 0 [S f c.1.o_.length d] [_] 0 z dm z <| nT <| aO (rs := [.cell 2 30]) (vs := [.agg #[S f c.1.o_.length d]]) z ⟨⟨_, [S f c.1.o_.length d], _, _, _, z, dm, (bn (T := 30) 0 (bJ (i := 0) z) z), z, z⟩, Y⟩ (fun w' hw' => by
      obtain rfl := af H
      exact ⟨_, z, f, c.1.o_.length, d, M, z, hw'.sel [1, 3] z z⟩)
theorem qf (w : World) {c : List Nat} {p0 : List Int} {a_0 : Option Addr} {n_0 c_0 : Nat} {r : aE} (H : ja p0 = U r) (HS : St w c [] w) (s : (ad e8 5).rd w c p0 [S a_0 n_0 c_0]) :
    Calls Tryz.prog 6 #[S a_0 n_0 c_0] w (fun en w' => ∃ v, en = .returned v ∧ ∃ (E : Option Addr), ∃ (F : Nat), ∃ (c0 : Nat), ∃ (Z : List Nat), v = .agg #[S E F c0] ∧ St w c [W (ad (ad eI 3) 45) Z r.o_ [S E F c0]] w') := by
 obtain rfl := fp s
 unfold ja at H
 refine aN Tryz.func6 z Tryz.ntmps6 z (HS) <| sR <| aB z z z z dm (fun _ => kp) fun a1 => nR <| oP z <| bE H fun a2 G H => aj z Fs z z z z (fun d a => rf d G (a.carve [] z z) (ab s d a)) fun a3 d L a u => ?_
 obtain ⟨a4, rfl, x⟩ := u
 refine ⟨St w c [_, _], a.comp [] z z x, fun _ _ => Y, ?_⟩
 refine oP z <| nR <| oP z <| bE H fun e M H => aj z GH z z z z (fun d a => ug d M (a.carve [1] z z) (rdB [1] z z a s)) fun a5 d L a A => ?_
 obtain ⟨f, a6, g, P, rfl, o⟩ := A
 obtain rfl := aA (i := 0) o z
 refine ⟨St w c [_, _, _, _], a.comp [1] z z o, fun _ _ => Y, ?_⟩
 refine aB z z z z dm (fun _ => kp) fun a7 => sC 0 [S f e.1.o_.length g] [_] 4 z dm z <| nQ <| am <| sR <| oP z <| bE H fun a8 Q H => aj z sV z z z z (fun d a => dL d Q (a.carve [3] z z) (rdB [3] z z a s)) fun a9 d L a C => ?_
 obtain ⟨rfl, D⟩ := C
 refine ⟨St w c [_, _, _, _, _, _], a.comp [3] z z D, fun _ _ => Y, ?_⟩
 refine nQ <| cI H z (fun H => ?_) (fun H => ?_)
 ·refine CW.weak (C' := St w c [_, _, _, _]) ?_ (ss [0, 2, 4, 5] z z)
  refine aP <| aa [.fa 30 0 0 cJ] z <| o1 z (r1 0 2 z cY z) <| bq (val := I J) (h1 := fun _ => z) [1000000001] [(0, [I J 1000000001])] z z z z z aT ty3 z z z ⟨z, z, nl z, Y⟩ z z (fun _ => kp) fun t => dV [(0, [S (U ⟨t, 0, N⟩) (([1000000001] : List Int).length) 1])] z z z z z cC bG z z ⟨z, z, nl z, Y⟩ [S (U ⟨t, 0, N⟩) (([1000000001] : List Int).length) 1] z (fun _ => kp) fun b0 => dH z (fun _ h => pg (p := 5) (q := 4) h z z z) <| bE H fun k R H => ix (r := 1) (j := 6) z z z z z z cC bG z z z z z z z R (fun _ _ _ => kp) fun l m X => aa [.fa 30 0 0 cJ] z <| sC 0 [S l k.length m] [_] 2 z cY z <| nQ <| am <| CW.weak (C' := St w c [_, _, _, _]) ?_ (ss [0, 2, 3, 7] z z)
  exact aP <| o1 z (rx 0 1 _ z dm z) <| sC 0 [S l k.length m] [_] 0 z dm z <| nT <| aO (rs := [.cell 2 30]) (vs := [.agg #[S l k.length m]]) z ⟨⟨_, [S l k.length m], _, _, _, z, dm, (bn (T := 30) 0 (bJ (i := 0) z) z), z, z⟩, Y⟩ (fun w' hw' => by
   obtain rfl := af H
   exact ⟨_, z, l, k.length, m, X, z, hw'.sel [3] z z⟩)
 ·refine av <| az <| am <| CW.weak (C' := St w c [_, _, _, _]) ?_ (ss [0, 2, 4, 5] z z)
  exact aP <| o1 z (rx 0 2 _ z dm z) <| sC 0 [S f e.1.o_.length g] [_] 0 z dm z <| nT <| aO (rs := [.cell 2 30]) (vs := [.agg #[S f e.1.o_.length g]]) z ⟨⟨_, [S f e.1.o_.length g], _, _, _, z, dm, (bn (T := 30) 0 (bJ (i := 0) z) z), z, z⟩, Y⟩ (fun w' hw' => by
   obtain rfl := af H
   exact ⟨_, z, f, e.1.o_.length, g, P, z, hw'.sel [1] z z⟩)
theorem ov (w : World) {p0 : Int} {p1 : Int} {p2 : Int} {r : Bool} (H : bQ p0 p1 p2 = U r)   :
    Calls Tryz.prog 66 #[I J p0, I J p1, I J p2] w (fun en w' => en = .returned (B r) ∧ Ext [] w w') := by
 unfold bQ at H
 refine aN Tryz.func66 z Tryz.ntmps66 z (St.init w []) <| sR <| oP z <| nR <| aa [.p, .p, .p, .p] z <| aV [(14, B ((decide (p0 ≥ p1)) && (decide (p0 ≤ p2)))), (6, B n)] 4 ?_ (fun key => OW.sub (R := [(0, I J p0), (2, I J p2), (6, B n), (10, B (decide (p0 ≥ p1)))]) ?_ (sb z))
 ·exact oP z <| nT <| xr 6 z (by cases H; exact q1)
 ·generalize (decide (p0 ≥ p1)) = a at key ⊢
  cases a
  ·exact aa [.p, .p, .p, .p] z <| OW.sub key (sb z)
  ·exact aa [.p, .p, .p] z <| oP z <| OW.sub key (sb z)
theorem qx (w : World) {t : List Nat} {p0 : Int} {r : (List Int) × Bool} (H : lT p0 = U r) (HS : St w t [] w) :
    Calls Tryz.prog 67 #[I J p0] w (fun en w' => ∃ v, en = .returned v ∧ ∃ (u : Option Addr), ∃ (E : Nat), ∃ (c0 : Nat), ∃ (R : List Nat), v = S u E c0 ∧ u.isNone = r.2 ∧ St w t [W (ad e8 5) R r.1 [S u E c0]] w') := by
 unfold lT at H
 refine aN Tryz.func67 z Tryz.ntmps67 z (HS) <| sR <| oP z <| nQ <| am <| sR <| oP z <| bE H fun Z F H => oq z (qc z Ei (fun x g => ov x F)) tt2 <| oP z <| nQ <| cI H z (fun H => ?_) (fun H => ?_)
 ·exact sR <| oP z <| nT <| aq <| eG (fun _ h => St.pushNil (e := e8) (T := 5) h) <| aO (rs := [.tmp 2]) (vs := [S N 0 0]) z ⟨z, Y⟩ (fun w' hw' => by
   obtain rfl := af H
   exact ⟨_, z, N, 0, 0, [], z, z, hw'.sel [0] z z⟩)
 ·refine av <| az <| sR <| bI (e := e8) z z z z fQ ty5 (fun _ => kp) fun k => oP z <| nQ <| am <| ay <| CW.at (iw (fun (a : Int) (c : List Int) (d : Option Addr) (f : Nat) (j : List Nat) => St w t [W (ad e8 5) j c [S d c.length f]]) (fun a c d f j => [(0, I J a), (3, S d c.length f)]) (fun kk => fun a c d f j => d.isNone = n ∧ gS kk a c = U r) (fun _ _ _ _ _ H => ?_) (fun k1 A a c d f j ⟨X, H⟩ => ?_) aY (p0) (([] : List Int)) ((U ⟨k, 0, N⟩)) (0) ([k]) (⟨z, H⟩)) (ss [0] z z) (sb z)
  ·unfold gS at H
   exact absurd H (by simp)
  ·unfold gS at H
   refine am <| sR <| oPP z <| nQ <| cI H z (fun H => ?_) (fun H => ?_)
   ·exact av <| az <| ay <| sR <| aa [.p, .p, .p, .p, .cv 3 5 K us3 in5] z <| bq (val := I K) (h1 := fun _ => z) [K.wrap (el .or J (el .and J a 127) 128)] [(0, [I K (K.wrap (el .or J (el .and J a 127) 128))])] z z z z z fQ ty5 z z z ⟨z, z, nl z, Y⟩ z z (fun _ => kp) fun a1 => bE H fun G l H => bC (r := 0) (ys := ([K.wrap (el .or J (el .and J a 127) 128)] : List Int)) z z z z z z fQ ty5 z z z (ap (e := ad e8 5) (r := 1) z) l (fun _ _ _ => kp) fun L M P => cc z (fun x g => fh (i := 0) g z (fe l)) fun C => oP z <| nQ <| aP <| aa [.p, .p, .p] z <| ax <| bW <| ct (RW.at (A (rt J a 7) (G) (L) (M) (P) (⟨C, H⟩)) (ss [0] z z) (sb z))
   ·exact bx <| aK <| aR <| aL <| az <| sR <| aa [.p, .p, .cv 3 5 K us3 in5] z <| bq (val := I K) (h1 := fun _ => z) [K.wrap a] [(0, [I K (K.wrap a)])] z z z z z fQ ty5 z z z ⟨z, z, nl z, Y⟩ z z (fun _ => kp) fun a2 => bE H fun m o H => bC (r := 0) (ys := ([K.wrap a] : List Int)) z z z z z z fQ ty5 z z z (ap (e := ad e8 5) (r := 1) z) o (fun _ _ _ => kp) fun q s Q => cc z (fun x g => fh (i := 0) g z (fe o)) fun D => oP z <| nT <| aO (rs := [.tmp 2]) (vs := [S q m.length s]) z ⟨z, Y⟩ (fun w' hw' => by
     obtain rfl := af H
     exact ⟨_, z, q, m.length, s, Q, z, D, hw'.sel [0] z z⟩)
theorem uP (w : World) {g : List Nat} {p0 : Int} {r : (List Int) × Bool} (H : nu p0 = U r) (HS : St w g [] w) :
    Calls Tryz.prog 57 #[I J p0] w (fun en w' => ∃ v, en = .returned v ∧ ∃ (s : Option Addr), ∃ (C : Nat), ∃ (c0 : Nat), ∃ (M : List Nat), v = S s C c0 ∧ s.isNone = r.2 ∧ St w g [W (ad e8 5) M r.1 [S s C c0]] w') := by
 unfold nu at H
 refine aN Tryz.func57 z Tryz.ntmps57 z (HS) <| sR <| oP z <| nQ <| am <| ay <| sR <| oP z <| bE H fun Q D H => oq z (qc z Ei (fun c a => ov c D)) tt2 <| oPP z <| nQ <| cI H z (fun H => ?_) (fun H => ?_)
 ·exact sR <| oP z <| nT <| ba <| aq <| eG (fun _ h => St.pushNil (e := e8) (T := 5) h) <| aO (rs := [.tmp 2]) (vs := [S N 0 0]) z ⟨z, Y⟩ (fun w' hw' => by
   obtain rfl := af H
   exact ⟨_, z, N, 0, 0, [], z, z, hw'.sel [0] z z⟩)
 ·refine sR <| aa [.p, .p, .p] z <| nQ <| cI H z (fun H => ?_) (fun H => ?_)
  ·refine sR <| aa [.p, .p, .p] z <| bE H fun j E H => aj z Fw z z z z (fun c a => qx c E (a.carve [] z z)) fun R c P a t => ?_
   obtain ⟨k, X, l, F, rfl, u, d⟩ := t
   obtain rfl := aA (i := 0) d z
   refine ⟨St w g [_], a.comp [] z z d, fun _ _ => Y, ?_⟩
   exact oP z <| nT <| ba <| aq <| aO (rs := [.tmp 2]) (vs := [S k j.1.length l]) z ⟨z, Y⟩ (fun w' hw' => by
    obtain rfl := af H
    exact ⟨_, z, k, j.1.length, l, F, z, u, hw'.sel [0] z z⟩)
  ·refine av <| bW <| az <| sR <| oPP z <| bE H fun m G H => aj z Fw z z z z (fun c a => qx c G (a.carve [] z z)) fun Z c P a x => ?_
   obtain ⟨o, a1, q, L, rfl, A, f⟩ := x
   obtain rfl := aA (i := 0) f z
   refine ⟨St w g [_], a.comp [] z z f, fun _ _ => Y, ?_⟩
   exact oP z <| nT <| aO (rs := [.tmp 2]) (vs := [S o m.1.length q]) z ⟨z, Y⟩ (fun w' hw' => by
    obtain rfl := af H
    exact ⟨_, z, o, m.1.length, q, L, z, A, hw'.sel [0] z z⟩)
theorem dA (w : World) {l : List Nat} {p0 : bM} {p1 : List Int} {b_0 : Nat} {a_0_1 : Option Addr} {n_0_1 c_0_1 : Nat} {F_0_1 : List Nat} {a_1 : Option Addr} {n_1 c_1 : Nat} {r : bM} (H : cN p0 p1 = U r) (HS : St w l [b b_0 48 [S a_0_1 n_0_1 c_0_1, B p0.C_], W (ad e8 5) F_0_1 p0.H_ [S a_0_1 n_0_1 c_0_1]] w) (C : (ad eI 3).rd w l p1 [S a_1 n_1 c_1]) :
    Calls Tryz.prog 36 #[O (U ⟨b_0, 0, N⟩), S a_1 n_1 c_1] w (fun en w' => ∃ v, en = .returned v ∧ ∃ (G : Option Addr), ∃ (L : Nat), ∃ (c0 : Nat), ∃ (F0 : List Nat), v = .tuple #[] ∧ St w l [b b_0 48 [S G L c0, B r.C_], W (ad e8 5) F0 r.H_ [S G L c0]] w') := by
 obtain rfl := aA (i := 1) HS z
 obtain rfl := fp C
 unfold cN at H
 refine aN Tryz.func36 z Tryz.ntmps36 z (HS) <| sR <| aa [.p, .lenS 45 3 aT, .p] z <| nQ <| ay <| CW.at (ry (fun (d : List Int) (f : Option Addr) (g : Nat) (k : List Nat) (a : Bool) (c : Int) => St w l [b b_0 48 [S f d.length g, B a], W (ad e8 5) k d [S f d.length g]]) (fun d f g k a c => [(0, O (U ⟨b_0, 0, N⟩)), (7, S a_1 p1.length c_1), (8, I J (p1.length : Int)), (9, I J c)]) (fun kk => fun d f g k a c => ek p1 kk d a c = U r) (fun _ _ _ _ _ _ H => ?_) (fun k1 D d f g k a c H => ?_) aY (p0.H_) (a_0_1) (c_0_1) (F_0_1) (p0.C_) (0) (H)) (ss [0, 1] z z) (sb z)
 ·unfold ek at H
  exact absurd H (by simp)
 ·unfold ek at H
  refine sR <| oP z <| nQ <| am <| cI H z (fun H => ?_) (fun H => ?_)
  ·refine av <| az <| am <| ay <| sR <| bE H fun a2 q H => bF (e := eI) (xs := p1) (j := c) z z z z z aT ty3 z (ab C) q (by rw [Nat.mul_one]) <| o1 z (aM z z ty3 (bO (ab C) q)) <| oP z <| nR <| oP z <| bE H fun h M H => aj z GK z z z z (fun P m => uP P M (m.carve [] z z)) fun a3 P w2 m E => ?_
   obtain ⟨s, a4, t, a5, rfl, F, o⟩ := E
   obtain rfl := aA (i := 0) o z
   refine ⟨St w l [_, _, _], m.comp [] z z o, fun _ _ => Y, ?_⟩
   refine oP z <| nR <| aa [.p, .p, .p, .fa 48 1 1 yr] z <| o1 z (r1 1 0 z ty4 z) <| oP z <| aV [(23, B (a || h.2)), (0, O (U ⟨b_0, 0, N⟩)), (6, S s h.1.length t), (7, S a_1 p1.length c_1), (8, I J (p1.length : Int)), (9, I J c), (15, O (U ⟨b_0, 0, N⟩))] 3 ?_ (fun key => OW.sub (R := [(0, O (U ⟨b_0, 0, N⟩)), (6, S s h.1.length t), (7, S a_1 p1.length c_1), (8, I J (p1.length : Int)), (9, I J c), (15, O (U ⟨b_0, 0, N⟩)), (20, B a)]) ?_ (sb z))
   ·exact aa [.p, .fa 48 1 1 yr] z <| sC 1 [B (a || h.2)] [_, _] 0 z ty4 z <| nQ <| aP <| aa [.p, .p, .p, .fa 48 0 0 yS] z <| o1 z (r1 0 0 z sN z) <| oP z <| bE H fun u Q H => bC (r := 1) (ys := h.1) z z z z z z fQ ty5 z z z (ap (e := ad e8 5) (r := 2) z) Q (fun _ _ _ => kp) fun x A X => aa [.p, .fa 48 0 0 yS] z <| sC 0 [S x u.length A] [_, _] 0 z sN z <| ax <| bW <| az <| aP <| oPP z <| ax <| ct (RW.at (D (u) (x) (A) (X) ((a || h.2)) (J.wrap (c + 1)) (H)) (ss [0, 1] z z) (sb z))
   ·generalize a = Z at key ⊢
    cases Z
    ·exact oP z <| o1 z (Dm z z fQ F) <| oP z <| OW.sub key (sb z)
    ·exact aa [.p, .p, .p] z <| OW.sub key (sb z)
  ·exact bx <| aK <| aR <| aL <| wz (rs := []) (vs := []) z Y (fun w' hw' => by
    obtain rfl := af H
    exact ⟨_, z, f, d.length, g, k, z, hw'.sel [0, 1] z z⟩)
theorem wX (w : World) {p0 : Bool} {r : Int} (H : qP p0 = U r)   :
    Calls Tryz.prog 37 #[B p0] w (fun en w' => en = .returned (I J r) ∧ Ext [] w w') := by
 unfold qP at H
 refine aN Tryz.func37 z Tryz.ntmps37 z (St.init w []) <| sR <| oP z <| nQ <| am <| sR <| oP z <| nQ <| cI H z (fun H => ?_) (fun H => ?_)
 ·exact sR <| oP z <| nT <| aq <| xr 2 z (by cases H; exact q1)
 ·exact av <| az <| sR <| oP z <| nT <| xr 2 z (by cases H; exact q1)
theorem ir (w : World) {c : List Nat} {p0 : bM} {p1 : List Int} {b_0 : Nat} {a_0_1 : Option Addr} {n_0_1 c_0_1 : Nat} {F_0_1 : List Nat} {a_1 : Option Addr} {n_1 c_1 : Nat} {r : bM} (H : dF p0 p1 = U r) (HS : St w c [b b_0 48 [S a_0_1 n_0_1 c_0_1, B p0.C_], W (ad e8 5) F_0_1 p0.H_ [S a_0_1 n_0_1 c_0_1]] w) (j : (ad eI 3).rd w c p1 [S a_1 n_1 c_1]) :
    Calls Tryz.prog 38 #[O (U ⟨b_0, 0, N⟩), S a_1 n_1 c_1] w (fun en w' => ∃ v, en = .returned v ∧ ∃ (k : Option Addr), ∃ (l : Nat), ∃ (c0 : Nat), ∃ (x : List Nat), v = .tuple #[] ∧ St w c [b b_0 48 [S k l c0, B r.C_], W (ad e8 5) x r.H_ [S k l c0]] w') := by
 obtain rfl := aA (i := 1) HS z
 obtain rfl := fp j
 unfold dF at H
 refine aN Tryz.func38 z Tryz.ntmps38 z (HS) <| sR <| aa [.p, .p, .lenS 45 3 aT] z <| bq (val := I J) (h1 := fun _ => z) [(p1.length : Int)] [(0, [I J (p1.length : Int)])] z z z z z aT ty3 z z z ⟨z, z, nl z, Y⟩ z z (fun _ => kp) fun C => bE H fun D m H => aj z wW z z z z (fun d a => dA d m (a.carve [0, 1] z z) (rdO 2 [0, 1] z a z z)) fun E d A a g => ?_
 obtain ⟨F, G, L, M, rfl, e⟩ := g
 obtain rfl := aA (i := 1) e z
 refine ⟨St w c [_, _, _, _, _], a.comp [0, 1] z z e, fun _ _ => Y, ?_⟩
 refine nQ <| CW.weak (C' := St w c [_, _, _]) ?_ (ss [2, 3, 4] z z)
 refine aP <| oPP z <| bE H fun o q H => aj z wW z z z z (fun d a => dA d q (a.carve [1, 2] z z) (rdB [1, 2] z z a j)) fun P d A a h => ?_
 obtain ⟨s, Q, t, u, rfl, f⟩ := h
 obtain rfl := aA (i := 1) f z
 refine ⟨St w c [_, _, _, _, _], a.comp [1, 2] z z f, fun _ _ => Y, ?_⟩
 exact ax <| wz (rs := []) (vs := []) z Y (fun w' hw' => by
  obtain rfl := af H
  exact ⟨_, z, s, o.H_.length, t, u, z, hw'.sel [3, 4] z z⟩)
theorem qY (w : World) {e : List Nat} {p0 : bM} {p1 : ai} {b_0 : Nat} {a_0_1 : Option Addr} {n_0_1 c_0_1 : Nat} {F_0_1 : List Nat} {c9 : List Value} {r : bM} (H : li p0 p1 = U r) (HS : St w e [b b_0 48 [S a_0_1 n_0_1 c_0_1, B p0.C_], W (ad e8 5) F_0_1 p0.H_ [S a_0_1 n_0_1 c_0_1]] w) (g1 : (cW).rd w e p1 c9) :
    Calls Tryz.prog 19 #[O (U ⟨b_0, 0, N⟩), .agg c9.toArray] w (fun en w' => ∃ v, en = .returned v ∧ ∃ (a0 : Option Addr), ∃ (n0 : Nat), ∃ (c0 : Nat), ∃ (F0 : List Nat), v = .tuple #[] ∧ St w e [b b_0 48 [S a0 n0 c0, B r.C_], W (ad e8 5) F0 r.H_ [S a0 n0 c0]] w') := by
 obtain rfl := aA (i := 1) HS z
 obtain ⟨o9, p2, rfl, d0, h0⟩ := cr g1
 obtain ⟨d1, d2, rfl⟩ := ao d0
 obtain rfl := h0
 unfold li at H
 refine aN Tryz.func19 z Tryz.ntmps19 z (HS) <| sR <| ob _ z fun p3 => nR <| aa [.p, .fa 26 1 1 lH] z <| o1 z (r1 1 2 z ty3 z) <| aa [.fa 26 0 0 bR] z <| o1 z (r1 0 2 z ec z) <| aa [.lenS 24 60 dW] z <| bq (val := I J) (h1 := fun _ => z) [p1.g_, (p1.a_.length : Int)] [(0, [I J p1.g_]), (1, [I J (p1.a_.length : Int)])] z z z z z aT ty3 z z z ⟨z, z, nl z, z, z, nl z, Y⟩ z z (fun _ => kp) fun p4 => bE H fun d3 h2 H => aj z wW z z z z (fun d c => dA d h2 (c.carve [0, 1] z z) (rdO 3 [0, 1] z c z z)) fun p5 d A c d4 => ?_
 obtain ⟨h3, p6, h4, h5, rfl, a7⟩ := d4
 obtain rfl := aA (i := 1) a7 z
 refine ⟨St w e [_, _, _, _, _, _], c.comp [0, 1] z z a7, fun _ _ => Y, ?_⟩
 refine nQ <| am <| CW.weak (C' := St w e [_, _, _, _]) ?_ (ss [2, 3, 4, 5] z z)
 refine aP <| aa [.fa 26 0 0 bR] z <| o1 z (r1 0 0 z ec z) <| aa [.lenS 24 60 dW, .p] z <| nQ <| ay <| CW.at (ry (fun (f : List Int) (g : Option Addr) (h : Nat) (l : List Nat) (m : Bool) (j : Int) => St w e [b b_0 48 [S g f.length h, B m], W (ad e8 5) l f [S g f.length h]]) (fun f g h l m j => [(0, O (U ⟨b_0, 0, N⟩)), (17, S d1 p1.a_.length d2), (18, I J (p1.a_.length : Int)), (19, I J j)]) (fun kk => fun f g h l m j => cT p1 kk f m j = U r) (fun _ _ _ _ _ _ H => ?_) (fun k1 d5 f g h l m j H => ?_) aY (d3.H_) (h3) (h4) (h5) (d3.C_) (0) (H)) (ss [2, 3] z z) (sb z)
 ·unfold cT at H
  exact absurd H (by simp)
 ·unfold cT at H
  refine sR <| oP z <| nQ <| am <| cI H z (fun H => ?_) (fun H => ?_)
  ·refine av <| az <| am <| ay <| sR <| bE H fun a d6 H => cf z z z z z dW bZ z d0 d6 fun h9 i0 b6 b7 => ?_
   obtain ⟨i1, i2, i3, i4, i5, i6, i7, i8, i9, j0, rfl, d7, d8, a8, d9, e0, e1, a9, e2, e3, e4⟩ := bo b6
   obtain rfl := d7
   obtain rfl := d8
   obtain ⟨C, D, rfl⟩ := ao a8
   obtain rfl := d9
   obtain ⟨j1, j2, rfl, b0, b1⟩ := aS e0
   obtain ⟨E, F, rfl⟩ := ao b0
   obtain ⟨q, s, rfl⟩ := ao b1
   obtain rfl := e1
   obtain ⟨G, L, rfl⟩ := ao a9
   obtain rfl := e2
   obtain rfl := e3
   obtain rfl := e4
   refine o1 z (dk (cs := [B a.s_, I J a.k_.j_, I J a.k_.c_, S C a.t_.length D, I J a.x_, S E a.m_.d_.length F, S q a.m_.b_.length s, I J a.v_, S G a.f_.length L, I J a.l_, I J a.p_, I J a.q_]) z z bZ (ce bor b7) z) <| aB z z z z bZ (fun _ => kp) fun P => sC 0 [B a.s_, I J a.k_.j_, I J a.k_.c_, S C a.t_.length D, I J a.x_, S E a.m_.d_.length F, S q a.m_.b_.length s, I J a.v_, S G a.f_.length L, I J a.l_, I J a.p_, I J a.q_] [_, _, _, _, _, _, _, _, _, _, _, _] 2 z bZ z <| nQ <| am <| cw 11 [(0, y), (1, y), (2, y), (4, y), (5, y), (6, y), (7, y), (8, y), (9, y), (3, n), (10, n)] (St w e [b b_0 48 [S g f.length h, B m], W (ad e8 5) l f [S g f.length h], b P 60 [B a.s_, I J a.k_.j_, I J a.k_.c_, S C a.t_.length D, I J a.x_, S E a.m_.d_.length F, S q a.m_.b_.length s, I J a.v_, S G a.f_.length L, I J a.l_, I J a.p_, I J a.q_]]) bU (by kernel_rfl) (aJ (bj (aJ (db (bj bb))))) (tk 3 z) <| aa [.p, .fa 60 0 0 mw] z <| bm z (aw z) (r1 0 2 z ty4 z) <| aa [.fa 60 1 1 kL, .fa 56 0 0 lj] z <| bm z (aw z) (r1 1 2 z ty3 z) <| aa [.fa 60 1 1 kL, .fa 56 1 1 oB] z <| bm z (aw z) (r1 2 2 z ty3 z) <| bE H fun b2 e5 H => oq z (qc z Gm (fun d c => wX d e5)) (tk 3 z) <| bq (val := I J) (h1 := fun _ => z) [b2, a.k_.j_, a.k_.c_] [(0, [I J b2]), (1, [I J a.k_.j_]), (2, [I J a.k_.c_])] z z z z z aT ty3 z z z ⟨z, z, nl z, z, z, nl z, z, z, nl z, Y⟩ z z (fun _ => (tk 3 z)) fun j3 => aQ <| jf <| bE H fun j4 e6 H => aj z wW z z z z (fun d c => dA d e6 (c.carve [0, 1] z z) (rdO 3 [0, 1] z c z z)) fun j5 d A c b8 => ?_
   obtain ⟨j6, j7, j8, j9, rfl, Q⟩ := b8
   obtain rfl := aA (i := 1) Q z
   refine ⟨St w e [_, _, _, _, _, _], c.comp [0, 1] z z Q, fun _ _ => Y, ?_⟩
   refine nQ <| am <| CW.weak (C' := St w e [_, _, _, _]) ?_ (ss [2, 3, 4, 5] z z)
   refine aP <| aa [.p, .fa 60 2 3 iX] z <| o1 z (r1 3 0 z bG z) <| bE H fun k0 e7 H => aj z BJ z z z z (fun d c => ir d e7 (c.carve [2, 3] z z) (rdB [2, 3] z z c a8)) fun k3 d A c b9 => ?_
   obtain ⟨k4, k5, k6, k7, rfl, R⟩ := b9
   obtain rfl := aA (i := 1) R z
   refine ⟨St w e [_, _, _, _, _, _], c.comp [2, 3] z z R, fun _ _ => Y, ?_⟩
   refine nQ <| am <| CW.weak (C' := St w e [_, _, _, _]) ?_ (ss [0, 1, 4, 5] z z)
   refine aP <| aa [.p, .fa 60 3 4 pb] z <| o1 z (r1 4 0 z ty3 z) <| bq (val := I J) (h1 := fun _ => z) [a.x_] [(0, [I J a.x_])] z z z z z aT ty3 z z z ⟨z, z, nl z, Y⟩ z z (fun _ => kp) fun k8 => bE H fun k9 e9 H => aj z wW z z z z (fun d c => dA d e9 (c.carve [2, 3] z z) (rdO 4 [2, 3] z c z z)) fun l0 d A c c1 => ?_
   obtain ⟨l1, l2, l3, l4, rfl, X⟩ := c1
   obtain rfl := aA (i := 1) X z
   refine ⟨St w e [_, _, _, _, _, _, _], c.comp [2, 3] z z X, fun _ _ => Y, ?_⟩
   refine nQ <| am <| CW.weak (C' := St w e [_, _, _, _, _]) ?_ (ss [0, 1, 4, 5, 6] z z)
   refine aP <| aa [.p, .fa 60 4 5 ep, .fa 58 0 0 jc] z <| o1 z (r1 5 0 z bG z) <| bE H fun l5 f0 H => aj z BJ z z z z (fun d c => ir d f0 (c.carve [3, 4] z z) (rdB [3, 4] z z c b0)) fun l6 d A c c2 => ?_
   obtain ⟨l7, l8, l9, m0, rfl, Z⟩ := c2
   obtain rfl := aA (i := 1) Z z
   refine ⟨St w e [_, _, _, _, _, _, _], c.comp [3, 4] z z Z, fun _ _ => Y, ?_⟩
   refine nQ <| am <| CW.weak (C' := St w e [_, _, _, _, _]) ?_ (ss [0, 1, 2, 5, 6] z z)
   refine aP <| aa [.p, .fa 60 4 5 ep, .fa 58 1 1 dt] z <| o1 z (r1 6 0 z cY z) <| aa [.lenS 28 45 cC] z <| bq (val := I J) (h1 := fun _ => z) [(a.m_.b_.length : Int)] [(0, [I J (a.m_.b_.length : Int)])] z z z z z aT ty3 z z z ⟨z, z, nl z, Y⟩ z z (fun _ => kp) fun m1 => bE H fun b3 f1 H => aj z wW z z z z (fun d c => dA d f1 (c.carve [3, 4] z z) (rdO 5 [3, 4] z c z z)) fun m2 d A c c3 => ?_
   obtain ⟨f2, m3, f3, f4, rfl, a1⟩ := c3
   obtain rfl := aA (i := 1) a1 z
   refine ⟨St w e [_, _, _, _, _, _, _, _], c.comp [3, 4] z z a1, fun _ _ => Y, ?_⟩
   refine nQ <| am <| am <| CW.weak (C' := St w e [_, _, _, _, _, _]) ?_ (ss [0, 1, 2, 5, 6, 7] z z)
   refine aP <| aa [.fa 60 4 5 ep, .fa 58 1 1 dt] z <| o1 z (r1 6 0 z cY z) <| aa [.lenS 28 45 cC, .p] z <| nQ <| ay <| CW.at (ry (fun (k : List Int) (t : Option Addr) (u : Nat) (M : List Nat) (x : Bool) (o : Int) => St w e [b b_0 48 [S t k.length u, B x], W (ad e8 5) M k [S t k.length u], b P 60 [B a.s_, I J a.k_.j_, I J a.k_.c_, S C a.t_.length D, I J a.x_, S E a.m_.d_.length F, S q a.m_.b_.length s, I J a.v_, S G a.f_.length L, I J a.l_, I J a.p_, I J a.q_]]) (fun k t u M x o => [(0, O (U ⟨b_0, 0, N⟩)), (5, O (U ⟨P, 0, N⟩)), (17, S d1 p1.a_.length d2), (18, I J (p1.a_.length : Int)), (19, I J j), (58, S q a.m_.b_.length s), (59, I J (a.m_.b_.length : Int)), (60, I J o)]) (fun kk => fun k t u M x o => gh a (cT p1 k1) j kk k x o = U r) (fun _ _ _ _ _ _ H => ?_) (fun k2 f5 k t u M x o H => ?_) aY (b3.H_) (f2) (f3) (f4) (b3.C_) (0) (H)) (ss [4, 5, 0] z z) (sb z)
   ·unfold gh at H
    exact absurd H (by simp)
   ·unfold gh at H
    refine sR <| oP z <| nQ <| am <| cI H z (fun H => ?_) (fun H => ?_)
    ·refine av <| az <| am <| ay <| sR <| bE H fun m4 f6 H => cf z z z z z cC bG z b1 f6 fun m5 m6 a2 c4 => ?_
     obtain ⟨m7, m8, rfl⟩ := ao a2
     refine o1 z (aM z z bG (ce bor c4)) <| oP z <| nQ <| aP <| oPP z <| bE H fun b4 f7 H => aj z BJ z z z z (fun d c => ir d f7 (c.carve [0, 1] z z) (rdB [0, 1] z z c a2)) fun m9 d A c c5 => ?_
     obtain ⟨f8, n1, f9, g0, rfl, a3⟩ := c5
     obtain rfl := aA (i := 1) a3 z
     refine ⟨St w e [_, _, _, _, _], c.comp [0, 1] z z a3, fun _ _ => Y, ?_⟩
     refine ax <| bW <| az <| CW.weak (C' := St w e [_, _, _]) ?_ (ss [2, 3, 4] z z)
     exact aP <| oPP z <| ax <| ct (RW.at (f5 (b4.H_) (f8) (f9) (g0) (b4.C_) (J.wrap (o + 1)) (H)) (ss [1, 2, 0] z z) (sb z))
    ·refine bx <| aK <| aR <| aL <| az <| sR <| aa [.p, .fa 60 5 7 lE] z <| o1 z (r1 7 2 z ty3 z) <| bq (val := I J) (h1 := fun _ => z) [a.v_] [(0, [I J a.v_])] z z z z z aT ty3 z z z ⟨z, z, nl z, Y⟩ z z (fun _ => kp) fun n2 => bE H fun n3 g2 H => aj z wW z z z z (fun d c => dA d g2 (c.carve [0, 1] z z) (rdO 3 [0, 1] z c z z)) fun n4 d A c c6 => ?_
     obtain ⟨n5, n6, n7, n8, rfl, a4⟩ := c6
     obtain rfl := aA (i := 1) a4 z
     refine ⟨St w e [_, _, _, _, _, _], c.comp [0, 1] z z a4, fun _ _ => Y, ?_⟩
     refine nQ <| am <| CW.weak (C' := St w e [_, _, _, _]) ?_ (ss [2, 3, 4, 5] z z)
     refine aP <| aa [.p, .fa 60 6 8 mM] z <| o1 z (r1 8 0 z bG z) <| bE H fun n9 g3 H => aj z BJ z z z z (fun d c => ir d g3 (c.carve [2, 3] z z) (rdB [2, 3] z z c a9)) fun o0 d A c c7 => ?_
     obtain ⟨o2, o3, o4, o5, rfl, a5⟩ := c7
     obtain rfl := aA (i := 1) a5 z
     refine ⟨St w e [_, _, _, _, _, _], c.comp [2, 3] z z a5, fun _ _ => Y, ?_⟩
     refine nQ <| CW.weak (C' := St w e [_, _, _, _]) ?_ (ss [0, 1, 4, 5] z z)
     refine aP <| aa [.p, .fa 60 7 9 ky] z <| o1 z (r1 9 0 z ty3 z) <| aa [.fa 60 8 10 nw] z <| o1 z (r1 10 0 z ty3 z) <| aa [.fa 60 9 11 nx] z <| o1 z (r1 11 0 z ty3 z) <| bq (val := I J) (h1 := fun _ => z) [a.l_, a.p_, a.q_] [(0, [I J a.l_]), (1, [I J a.p_]), (2, [I J a.q_])] z z z z z aT ty3 z z z ⟨z, z, nl z, z, z, nl z, z, z, nl z, Y⟩ z z (fun _ => kp) fun o6 => bE H fun b5 g4 H => aj z wW z z z z (fun d c => dA d g4 (c.carve [2, 3] z z) (rdO 4 [2, 3] z c z z)) fun o7 d A c c8 => ?_
     obtain ⟨g5, o8, g6, g7, rfl, a6⟩ := c8
     obtain rfl := aA (i := 1) a6 z
     refine ⟨St w e [_, _, _, _, _, _, _], c.comp [2, 3] z z a6, fun _ _ => Y, ?_⟩
     refine ax <| bW <| az <| CW.weak (C' := St w e [_, _, _, _, _]) ?_ (ss [0, 1, 4, 5, 6] z z)
     exact aP <| oPP z <| ax <| ct (RW.at (d5 (b5.H_) (g5) (g6) (g7) (b5.C_) (J.wrap (j + 1)) (H)) (ss [3, 4] z z) (sb z))
  ·exact bx <| aK <| aR <| aL <| wz (rs := []) (vs := []) z Y (fun w' hw' => by
    obtain rfl := af H
    exact ⟨_, z, g, f.length, h, l, z, hw'.sel [0, 1] z z⟩)
theorem nE (w : World) {a : List Nat} {p0 : bM} {b_0 : Nat} {a_0_1 : Option Addr} {n_0_1 c_0_1 : Nat} {F_0_1 : List Nat} {r : List Int} (H : iQ p0 = U r) (HS : St w a [b b_0 48 [S a_0_1 n_0_1 c_0_1, B p0.C_], W (ad e8 5) F_0_1 p0.H_ [S a_0_1 n_0_1 c_0_1]] w) :
    Calls Tryz.prog 20 #[O (U ⟨b_0, 0, N⟩)] w (fun en w' => ∃ v, en = .returned v ∧ ∃ (c : Option Addr), ∃ (d : Nat), ∃ (c0 : Nat), ∃ (f : List Nat), v = S c d c0 ∧ St w a [W (ad e8 5) f r [S c d c0]] w') := by
 obtain rfl := aA (i := 1) HS z
 unfold iQ at H
 refine aN Tryz.func20 z Tryz.ntmps20 z (HS) <| sR <| oP z <| nQ <| am <| sR <| aa [.p, .p, .fa 48 1 1 yr] z <| o1 z (r1 1 0 z ty4 z) <| nQ <| cI H z (fun H => ?_) (fun H => ?_)
 ·exact sR <| oP z <| nT <| aq <| eG (fun _ h => St.pushNil (e := e8) (T := 5) h) <| aO (rs := [.tmp 2]) (vs := [S N 0 0]) z ⟨z, Y⟩ (fun w' hw' => by
   obtain rfl := af H
   exact ⟨_, z, N, 0, 0, [], z, hw'.sel [2] z z⟩)
 ·exact av <| az <| sR <| aa [.p, .p, .fa 48 0 0 yS] z <| o1 z (r1 0 0 z sN z) <| oP z <| nT <| aO (rs := [.tmp 2]) (vs := [S a_0_1 p0.H_.length c_0_1]) z ⟨z, Y⟩ (fun w' hw' => by
   obtain rfl := af H
   exact ⟨_, z, a_0_1, p0.H_.length, c_0_1, F_0_1, z, hw'.sel [1] z z⟩)
theorem tP (w : World) {c : List Nat} {p0 : ai} {j : List Value} {r : List Int} (H : mA p0 = U r) (HS : St w c [] w) (D : (cW).rd w c p0 j) :
    Calls Tryz.prog 7 #[.agg j.toArray] w (fun en w' => ∃ v, en = .returned v ∧ ∃ (s : Option Addr), ∃ (t : Nat), ∃ (c0 : Nat), ∃ (E : List Nat), v = S s t c0 ∧ St w c [W (ad e8 5) E r [S s t c0]] w') := by
 obtain ⟨G, L, rfl, k, u⟩ := cr D
 obtain ⟨M, P, rfl⟩ := ao k
 obtain rfl := u
 unfold mA at H
 refine aN Tryz.func7 z Tryz.ntmps7 z (HS) <| sR <| ob _ z fun Q => oP z <| nR <| o1 z (bu [] [S N 0 0, B n] z z Fl FC z Y z) <| ob _ z fun R => oP z <| nR <| oP z <| o1 z (rx 0 0 _ z br z) <| dH z (fun _ h => St.pushNil (e := e8) (T := 5) h) <| bE H fun X x H => aj z GV z z z z (fun d a => qY d x (a.carve [1, 2] z z) (aW (rdB [1, 2] z z a k) z)) fun Z d F a p => ?_
 obtain ⟨a1, a2, a3, a4, rfl, f⟩ := p
 obtain rfl := aA (i := 1) f z
 refine ⟨St w c [_, _, _, _, _], a.comp [1, 2] z z f, fun _ _ => Y, ?_⟩
 refine nQ <| am <| CW.weak (C' := St w c [_, _, _]) ?_ (ss [0, 3, 4] z z)
 refine aP <| oP z <| bE H fun l A H => aj z FM z z z z (fun d a => nE d A (a.carve [1, 2] z z)) fun a5 d F a q => ?_
 obtain ⟨m, a6, o, C, rfl, g⟩ := q
 obtain rfl := aA (i := 0) g z
 refine ⟨St w c [_, _, _, _], a.comp [1, 2] z z g, fun _ _ => Y, ?_⟩
 exact oP z <| nT <| aO (rs := [.tmp 2]) (vs := [S m l.length o]) z ⟨z, Y⟩ (fun w' hw' => by
  obtain rfl := af H
  exact ⟨_, z, m, l.length, o, C, z, hw'.sel [3] z z⟩)
theorem pZ (w : World) {g : List Nat} {p0 : bM} {p1 : aE} {b_0 : Nat} {a_0_1 : Option Addr} {n_0_1 c_0_1 : Nat} {F_0_1 : List Nat} {q : List Value} {r : bM} (H : kd p0 p1 = U r) (HS : St w g [b b_0 48 [S a_0_1 n_0_1 c_0_1, B p0.C_], W (ad e8 5) F_0_1 p0.H_ [S a_0_1 n_0_1 c_0_1]] w) (g1 : (fR).rd w g p1 q) :
    Calls Tryz.prog 21 #[O (U ⟨b_0, 0, N⟩), .agg q.toArray] w (fun en w' => ∃ v, en = .returned v ∧ ∃ (E : Option Addr), ∃ (F : Nat), ∃ (c0 : Nat), ∃ (F0 : List Nat), v = .tuple #[] ∧ St w g [b b_0 48 [S E F c0, B r.C_], W (ad e8 5) F0 r.H_ [S E F c0]] w') := by
 obtain rfl := aA (i := 1) HS z
 obtain ⟨a7, rfl, s⟩ := fK g1
 obtain ⟨G, L, rfl⟩ := ao s
 unfold kd at H
 refine aN Tryz.func21 z Tryz.ntmps21 z (HS) <| sR <| ob _ z fun a8 => nR <| aa [.p, .fa 30 0 0 cJ] z <| o1 z (r1 0 2 z cY z) <| aa [.lenS 28 45 cC] z <| bq (val := I J) (h1 := fun _ => z) [(p1.o_.length : Int)] [(0, [I J (p1.o_.length : Int)])] z z z z z aT ty3 z z z ⟨z, z, nl z, Y⟩ z z (fun _ => kp) fun a9 => bE H fun t M H => aj z wW z z z z (fun k a => dA k M (a.carve [0, 1] z z) (rdO 3 [0, 1] z a z z)) fun b0 k w2 a x => ?_
 obtain ⟨P, b1, Q, R, rfl, l⟩ := x
 obtain rfl := aA (i := 1) l z
 refine ⟨St w g [_, _, _, _, _, _], a.comp [0, 1] z z l, fun _ _ => Y, ?_⟩
 refine nQ <| am <| CW.weak (C' := St w g [_, _, _, _]) ?_ (ss [2, 3, 4, 5] z z)
 refine aP <| aa [.fa 30 0 0 cJ] z <| o1 z (r1 0 0 z cY z) <| aa [.lenS 28 45 cC, .p] z <| nQ <| ay <| CW.at (ry (fun (c : List Int) (d : Option Addr) (e : Nat) (h : List Nat) (j : Bool) (f : Int) => St w g [b b_0 48 [S d c.length e, B j], W (ad e8 5) h c [S d c.length e]]) (fun c d e h j f => [(0, O (U ⟨b_0, 0, N⟩)), (13, S G p1.o_.length L), (14, I J (p1.o_.length : Int)), (15, I J f)]) (fun kk => fun c d e h j f => fm p1 kk c j f = U r) (fun _ _ _ _ _ _ H => ?_) (fun k1 A c d e h j f H => ?_) aY (t.H_) (P) (Q) (R) (t.C_) (0) (H)) (ss [2, 3] z z) (sb z)
 ·unfold fm at H
  exact absurd H (by simp)
 ·unfold fm at H
  refine sR <| oP z <| nQ <| am <| cI H z (fun H => ?_) (fun H => ?_)
  ·refine av <| az <| am <| ay <| sR <| bE H fun b2 X H => cf z z z z z cC bG z s X fun b3 b4 m C => ?_
   obtain ⟨b5, b6, rfl⟩ := ao m
   refine o1 z (aM z z bG (ce bor C)) <| oP z <| nQ <| aP <| oPP z <| bE H fun u Z H => aj z BJ z z z z (fun k a => ir k Z (a.carve [0, 1] z z) (rdB [0, 1] z z a m)) fun b7 k w2 a D => ?_
   obtain ⟨a1, b8, a2, a3, rfl, o⟩ := D
   obtain rfl := aA (i := 1) o z
   refine ⟨St w g [_, _, _, _], a.comp [0, 1] z z o, fun _ _ => Y, ?_⟩
   refine ax <| bW <| az <| CW.weak (C' := St w g [_, _]) ?_ (ss [2, 3] z z)
   exact aP <| oPP z <| ax <| ct (RW.at (A (u.H_) (a1) (a2) (a3) (u.C_) (J.wrap (f + 1)) (H)) (ss [0, 1] z z) (sb z))
  ·exact bx <| aK <| aR <| aL <| wz (rs := []) (vs := []) z Y (fun w' hw' => by
    obtain rfl := af H
    exact ⟨_, z, d, c.length, e, h, z, hw'.sel [0, 1] z z⟩)
theorem sd (w : World) {c : List Nat} {p0 : aE} {j : List Value} {r : List Int} (H : kz p0 = U r) (HS : St w c [] w) (C : (fR).rd w c p0 j) :
    Calls Tryz.prog 8 #[.agg j.toArray] w (fun en w' => ∃ v, en = .returned v ∧ ∃ (s : Option Addr), ∃ (t : Nat), ∃ (c0 : Nat), ∃ (D : List Nat), v = S s t c0 ∧ St w c [W (ad e8 5) D r [S s t c0]] w') := by
 obtain ⟨F, rfl, k⟩ := fK C
 obtain ⟨G, L, rfl⟩ := ao k
 unfold kz at H
 refine aN Tryz.func8 z Tryz.ntmps8 z (HS) <| sR <| ob _ z fun M => oP z <| nR <| o1 z (bu [] [S N 0 0, B n] z z Fl FC z Y z) <| ob _ z fun P => oP z <| nR <| oP z <| o1 z (rx 0 0 _ z dm z) <| dH z (fun _ h => St.pushNil (e := e8) (T := 5) h) <| bE H fun Q u H => aj z Gq z z z z (fun d a => pZ d u (a.carve [1, 2] z z) (fH (rdB [1, 2] z z a k))) fun R d E a p => ?_
 obtain ⟨X, Z, a1, a2, rfl, f⟩ := p
 obtain rfl := aA (i := 1) f z
 refine ⟨St w c [_, _, _, _, _], a.comp [1, 2] z z f, fun _ _ => Y, ?_⟩
 refine nQ <| am <| CW.weak (C' := St w c [_, _, _]) ?_ (ss [0, 3, 4] z z)
 refine aP <| oP z <| bE H fun l x H => aj z FM z z z z (fun d a => nE d x (a.carve [1, 2] z z)) fun a3 d E a q => ?_
 obtain ⟨m, a4, o, A, rfl, g⟩ := q
 obtain rfl := aA (i := 0) g z
 refine ⟨St w c [_, _, _, _], a.comp [1, 2] z z g, fun _ _ => Y, ?_⟩
 exact oP z <| nT <| aO (rs := [.tmp 2]) (vs := [S m l.length o]) z ⟨z, Y⟩ (fun w' hw' => by
  obtain rfl := af H
  exact ⟨_, z, m, l.length, o, A, z, hw'.sel [3] z z⟩)
theorem gr (w : World) {p0 : List Int} {a_0 : Option Addr} {n_0 c_0 : Nat} {r : Bool} (H : eY p0 = U r) (d : (ad eI 3).rd w [] p0 [S a_0 n_0 c_0]) :
    Calls Tryz.prog 22 #[S a_0 n_0 c_0] w (fun en w' => en = .returned (B r) ∧ Ext [] w w') := by
 obtain rfl := fp d
 unfold eY at H
 refine aN Tryz.func22 z Tryz.ntmps22 z (St.init w []) <| sR <| oP z <| nQ <| am <| sR <| oP z <| nQ <| ay <| CW.at (gF (fun (a : Int) => St w [] []) (fun a => [(0, S a_0 p0.length c_0), (3, I J a)]) (fun kk => fun a => jh p0 kk a = U r) (fun _ H => ?_) (fun m f a H => ?_) aY (0) (H)) (ss [] z z) (sb z)
 ·unfold jh at H
  exact absurd H (by simp)
 ·unfold jh at H
  refine am <| sR <| aa [.p, .p, .lenS 45 3 aT, .p] z <| nQ <| cI H z (fun H => ?_) (fun H => ?_)
  ·refine av <| az <| am <| ay <| sR <| oPP z <| bE H fun i c H => bF (e := eI) (xs := p0) (j := a) z z z z z aT ty3 z (ab d) c (by rw [Nat.mul_one]) <| o1 z (aM z z ty3 (bO (ab d) c)) <| bE H fun k g H => oq z (qc z gN (fun h l => be h g)) tt2 <| oP z <| nQ <| cI H z (fun H => ?_) (fun H => ?_)
   ·exact sR <| oP z <| nT <| ba <| aq <| cd <| ba <| aq <| xr 2 z (by cases H; exact q1)
   ·exact av <| bW <| az <| aP <| aa [.p, .p, .p] z <| ax <| ct (RW.at (f (J.wrap (a + 1)) (H)) (ss [] z z) (sb z))
  ·exact bx <| aK <| aR <| aL <| az <| sR <| oP z <| nT <| xr 2 z (by cases H; exact q1)
theorem qt (w : World) {s : List Nat} {p0 : Int} {r : List Int} (H : lV p0 = U r) (HS : St w s [] w) :
    Calls Tryz.prog 40 #[I J p0] w (fun en w' => ∃ v, en = .returned v ∧ ∃ (A : Option Addr), ∃ (C : Nat), ∃ (c0 : Nat), ∃ (P : List Nat), v = S A C c0 ∧ St w s [W (ad e8 5) P r [S A C c0]] w') := by
 unfold lV at H
 refine aN Tryz.func40 z Tryz.ntmps40 z (HS) <| sR <| oP z <| nR <| bI (e := e8) z z z z fQ ty5 (fun _ => kp) fun f => oP z <| nQ <| am <| sR <| oP z <| bE H fun X D H => oq z (qc z gN (fun t h => be t D)) tt2 <| oP z <| nQ <| cI H z (fun H => ?_) (fun H => ?_)
 ·exact sR <| oPP z <| nT <| aq <| aO (rs := [.tmp 2]) (vs := [S (U ⟨f, 0, N⟩) 0 0]) z ⟨z, Y⟩ (fun w' hw' => by
   obtain rfl := af H
   exact ⟨_, z, (U ⟨f, 0, N⟩), 0, 0, [f], z, hw'.sel [0] z z⟩)
 ·refine av <| az <| am <| ay <| CW.at (iw (fun (a : Int) (c : List Int) (d : Option Addr) (g : Nat) (j : List Nat) => St w s [W (ad e8 5) j c [S d c.length g]]) (fun a c d g j => [(0, I J a), (3, S d c.length g)]) (fun kk => fun a c d g j => d.isNone = n ∧ gW kk a c = U r) (fun _ _ _ _ _ H => ?_) (fun k1 u a c d g j ⟨Q, H⟩ => ?_) aY (p0) (([] : List Int)) ((U ⟨f, 0, N⟩)) (0) ([f]) (⟨z, H⟩)) (ss [0] z z) (sb z)
  ·unfold gW at H
   exact absurd H (by simp)
  ·unfold gW at H
   refine am <| sR <| oPP z <| nQ <| cI H z (fun H => ?_) (fun H => ?_)
   ·exact av <| az <| ay <| sR <| aa [.p, .p, .p, .p, .cv 3 5 K us3 in5] z <| bq (val := I K) (h1 := fun _ => z) [K.wrap (J.wrap ((Int.tmod a 128) + 128))] [(0, [I K (K.wrap (J.wrap ((Int.tmod a 128) + 128)))])] z z z z z fQ ty5 z z z ⟨z, z, nl z, Y⟩ z z (fun _ => kp) fun Z => bE H fun E k H => bC (r := 0) (ys := ([K.wrap (J.wrap ((Int.tmod a 128) + 128))] : List Int)) z z z z z z fQ ty5 z z z (ap (e := ad e8 5) (r := 1) z) k (fun _ _ _ => kp) fun F G L => cc z (fun t h => fh (i := 0) h z (fe k)) fun x => oP z <| nQ <| aP <| aa [.p, .p, .p] z <| ax <| bW <| ct (RW.at (u (J.wrap (Int.tdiv a 128)) (E) (F) (G) (L) (⟨x, H⟩)) (ss [0] z z) (sb z))
   ·exact bx <| aK <| aR <| aL <| az <| sR <| aa [.p, .p, .cv 3 5 K us3 in5] z <| bq (val := I K) (h1 := fun _ => z) [K.wrap a] [(0, [I K (K.wrap a)])] z z z z z fQ ty5 z z z ⟨z, z, nl z, Y⟩ z z (fun _ => kp) fun a1 => bE H fun l m H => bC (r := 0) (ys := ([K.wrap a] : List Int)) z z z z z z fQ ty5 z z z (ap (e := ad e8 5) (r := 1) z) m (fun _ _ _ => kp) fun o q M => cc z (fun t h => fh (i := 0) h z (fe m)) fun R => oP z <| nT <| aO (rs := [.tmp 2]) (vs := [S o l.length q]) z ⟨z, Y⟩ (fun w' hw' => by
     obtain rfl := af H
     exact ⟨_, z, o, l.length, q, M, z, hw'.sel [0] z z⟩)
theorem dK (w : World) {h : List Nat} {p0 : Int} {r : List Int} (H : dU p0 = U r) (HS : St w h [] w) :
    Calls Tryz.prog 23 #[I J p0] w (fun en w' => ∃ v, en = .returned v ∧ ∃ (u : Option Addr), ∃ (x : Nat), ∃ (c0 : Nat), ∃ (G : List Nat), v = S u x c0 ∧ St w h [W (ad e8 5) G r [S u x c0]] w') := by
 unfold dU at H
 refine aN Tryz.func23 z Tryz.ntmps23 z (HS) <| sR <| oP z <| nQ <| am <| sR <| oP z <| bE H fun M A H => oq z (qc z gN (fun c a => be c A)) tt2 <| oP z <| nQ <| cI H z (fun H => ?_) (fun H => ?_)
 ·exact sR <| bI (e := e8) z z z z fQ ty5 (fun _ => kp) fun d => oP z <| nT <| aq <| aO (rs := [.tmp 2]) (vs := [S (U ⟨d, 0, N⟩) 0 0]) z ⟨z, Y⟩ (fun w' hw' => by
   obtain rfl := af H
   exact ⟨_, z, (U ⟨d, 0, N⟩), 0, 0, [d], z, hw'.sel [0] z z⟩)
 ·refine av <| az <| am <| sR <| oPP z <| nQ <| cI H z (fun H => ?_) (fun H => ?_)
  ·refine sR <| aa [.p, .p, .p, .p] z <| bE H fun j C H => aj z FH z z z z (fun c a => qt c C (a.carve [] z z)) fun P c L a s => ?_
   obtain ⟨k, Q, l, D, rfl, f⟩ := s
   obtain rfl := aA (i := 0) f z
   refine ⟨St w h [_], a.comp [] z z f, fun _ _ => Y, ?_⟩
   exact oP z <| nT <| aq <| aO (rs := [.tmp 2]) (vs := [S k j.length l]) z ⟨z, Y⟩ (fun w' hw' => by
    obtain rfl := af H
    exact ⟨_, z, k, j.length, l, D, z, hw'.sel [0] z z⟩)
  ·refine av <| az <| sR <| oPP z <| bE H fun m E H => aj z FH z z z z (fun c a => qt c E (a.carve [] z z)) fun R c L a t => ?_
   obtain ⟨o, X, q, F, rfl, g⟩ := t
   obtain rfl := aA (i := 0) g z
   refine ⟨St w h [_], a.comp [] z z g, fun _ _ => Y, ?_⟩
   exact oP z <| nT <| aO (rs := [.tmp 2]) (vs := [S o m.length q]) z ⟨z, Y⟩ (fun w' hw' => by
    obtain rfl := af H
    exact ⟨_, z, o, m.length, q, F, z, hw'.sel [0] z z⟩)
end Go.Vk
