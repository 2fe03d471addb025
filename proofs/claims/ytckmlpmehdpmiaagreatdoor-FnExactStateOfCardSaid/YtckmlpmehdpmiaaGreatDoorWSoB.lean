/- The code does what the functions of data say. Printed by program. -/
import Derived.Test.YtckmlpmehdpmiaaGreatDoorWSoA
namespace Go.Vk
open Go.Vk renaming oP → A, aa → C, sR → D, o1 → G, nQ → P, St → Q, ae → V, ab → Z, ah → E, am → R, sb → c, bE → d, af → g
open Value renaming int → I, slice → S, pointer → O, bool → B
open IntKind renaming i64 → J, u8 → K
open Bool renaming true → y, false → n
open Option renaming some → U, none → N
open Res renaming box → b, own → W
open Go.Proofs Go.RowKit
set_option maxHeartbeats 4000000
set_option maxRecDepth 100000
theorem uE (w) {x p0 p1 m a M r} (H : nu p0 p1 = U r) (HS : Q w x [] w) (g0 : (V e8 5).rd w x p0 [S m a M]) :
    Calls Tryz.prog 84 #[S m a M, I J p1] w (fun en w' => ∃ v, en = .returned v ∧ ∃ a f c0 k, v = .tuple #[.agg #[S a f c0, I J r.1.y_], I J r.2.1, B r.2.2] ∧ Q w x [W (V (aQ) 145) k r.1.e_ [S a f c0]] w') := by
 obtain rfl := dc g0
 unfold nu at H
 refine ar Tryz.func84 z Tryz.ntmps84 z (HS) <| D <| bn z z z z jb (fun _ => kp) fun X => oPP z <| nR <| oPP z <| d H fun k a H => aq z LR z z z z (fun F f => lS F a (f.carve [] z z) (g g0 F f)) fun a F w2 f l => ?_
 obtain ⟨a1, a, a2, a5, rfl, a⟩ := l
 obtain rfl := aL (i := 0) a z
 refine ⟨Q w x [_, _], f.comp [] z z a, fun _ _ => Y, ?_⟩
 refine C [.p, .p, .p, .p, .p, .p, .p] z <| P <| E <| D <| C [.p, .p, .p] z <| d H fun a a8 H => cu2 [(0, S m p0.length M), (4, O (U ⟨X, 0, N⟩)), (7, S a1 k.1.length a2), (8, I J k.2.1)] [(24, B (!k.2.2))] 5 (29, B a) z ?_ fun key => ?_
 ·refine P <| cI H z ?_ ?_ <;> intro H
  ·exact D <| G z (bv [] [S N 0 0, I J 0] z z jb LI z Y z) <| sC 0 [S N 0 0, I J 0] [_, _] 0 z jb z <| oPP z <| nT <| aS <| aP (fun _ h => St.pushNil (e := aQ) (T := 145) h) <| Z H ▸ xc 0 jb z fun w' hw' => ⟨_, z, N, 0, 0, [], z, hw'.sel [2] z z⟩
  ·refine ai <| R <| D <| A z <| d H fun t a H => ix1 bB ty3 (av (e := V eI 3) (r := 1) z) a z z <| G z (bv [(1, [I J t])] [S N 0 0, I J t] z z jb LI z ⟨z, z, nl z, Y⟩ z) <| bn z z z z jb (fun _ => kp) fun a3 => sC 0 [S N 0 0, I J t] [_, _] 2 z jb z <| P <| E <| D <| A z <| P <| an <| CW.weak ?_ (fun _ h => St.pushNil (e := aQ) (T := 145) h)
   refine CW.at (oD (fun (l : List az) (o : Option Addr) (s : Nat) (L : List Nat) (u : Int) (a : Int) => Q w x [b a3 69 [S o l.length s, I J t], W (V (aQ) 145) L l [S o l.length s], b X 69 [S N 0 0, I J 0], W (V eI 3) a5 k.1 [S a1 k.1.length a2]]) (fun l o s L u a => [(0, S m p0.length M), (4, O (U ⟨X, 0, N⟩)), (7, S a1 k.1.length a2), (8, I J a), (10, O (U ⟨a3, 0, N⟩)), (11, I J u)]) (fun kk => fun l o s L u a => lL k p0 t kk l u a = U r) nofun (fun m a9 l o s L u a H => ?_) aI (([] : List az)) (N) (0) ([]) (0) (k.2.1) (H)) (ss [2, 3, 0, 1] z z) (c z)
   unfold lL at H
   refine E <| D <| oPP z <| d H fun a a H => ix1 bB ty3 (av (e := V eI 3) (r := 3) z) a z z <| A z <| P <| cI H z ?_ ?_ <;> intro H
   ·refine ai <| R <| E <| an <| D <| oPP z <| d H fun a m H => aq z PW z z z z (fun F f => wH F m (f.carve [] z z) (g g0 F f)) fun m F w2 f a7 => ?_
    obtain ⟨M, m, X, m, a1, m, a2, m, a3, m, a4, m, a5, m, a6, m, rfl, m⟩ := a7
    obtain rfl := aL (i := 0) m z
    obtain rfl := aL (i := 1) m z
    obtain rfl := aL (i := 2) m z
    obtain rfl := aL (i := 3) m z
    refine ⟨Q w x [_, _, _, _, _, _, _, _], f.comp [] z z m, fun _ _ => Y, ?_⟩
    refine C [.p, .p, .p, .p] z <| bn z z z z bp (fun _ => kp) fun m => sC 0 [B a.1.B_, I J a.1.i_.t_, I J a.1.i_.u_, S M a.1.v_.length X, I J a.1.I_, S a1 a.1.k_.q_.length a2, S a3 a.1.k_.l_.length a4, I J a.1.J_, S a5 a.1.d_.length a6, I J a.1.h_, I J a.1.A_, I J a.1.G_] [_, _, _, _, _, _, _, _, _, _, _, _] 8 z bp z <| oPP z <| P <| E <| D <| oPP z <| P <| cI H z ?_ ?_ <;> intro H
    ·exact D <| G z (bv [] [S N 0 0, I J 0] z z jb LI z Y z) <| sC 0 [S N 0 0, I J 0] [_, _] 2 z jb z <| oPP z <| nT <| aS <| cR <| aS <| lU <| cR <| aS <| aP (fun _ h => St.pushNil (e := aQ) (T := 145) h) <| Z H ▸ xc 2 jb z fun w' hw' => ⟨_, z, N, 0, 0, [], z, hw'.sel [9] z z⟩
    ·refine ai <| R <| D <| C [.fa 69 0 0 dD] z <| G z (r1 0 0 z ks z) <| G z (rx 0 8 _ z bp z) <| Eo z (fun F f => sd (x0 := a.1.B_) (x1 := a.1.i_.t_) (x2 := a.1.i_.u_) (x4 := a.1.I_) (x7 := a.1.J_) (x9 := a.1.h_) (x10 := a.1.A_) (x11 := a.1.G_) [4, 5, 6, 7] f z z) fun f => jM (C' := Q w x [_, _, _, _, _, _, _, _, _, _]) z (fun _ h => h) <| gZ [(0, [B a.1.B_, I J a.1.i_.t_, I J a.1.i_.u_, S M a.1.v_.length X, I J a.1.I_, S a1 a.1.k_.q_.length a2, S a3 a.1.k_.l_.length a4, I J a.1.J_, S a5 a.1.d_.length a6, I J a.1.h_, I J a.1.A_, I J a.1.G_])] z z z z z eN bp z z ⟨z, z, nl z, Y⟩ [B a.1.B_, I J a.1.i_.t_, I J a.1.i_.u_, S M a.1.v_.length X, I J a.1.I_, S a1 a.1.k_.q_.length a2, S a3 a.1.k_.l_.length a4, I J a.1.J_, S a5 a.1.d_.length a6, I J a.1.h_, I J a.1.A_, I J a.1.G_] z (fun _ => kp) fun f => jM z (fun _ h => CL (p := 10) (q := 9) h z z z) <| d H fun f m H => pF (r := 1) (j := 11) z z z z z z eN bp z z z z z z z m (fun _ _ _ => kp) fun m F M => C [.fa 69 0 0 dD] z <| sC 0 [S m f.length F] [_, _] 0 z ks z <| P <| CW.weak (C' := Q w x [_, _, _, _, _]) ?_ (ss [0, 2, 3, 8, 12] z z)
     exact aH <| oPP z <| ay <| bR <| R <| aH <| C [.p, .p, .p] z <| ay <| bU (RW.at (a9 (f) (m) (F) (M) (J.wrap (u + 1)) (a.2.1) (H)) (ss [0, 4, 1, 2] z z) (c z))
   ·exact aU <| aB <| aE <| aA <| R <| D <| G z (rx 0 0 _ z jb z) <| A z <| sC 0 [S o l.length s, I J t] [_, _] 2 z jb z <| oPP z <| nT <| Z H ▸ xc 2 jb z fun w' hw' => ⟨_, z, o, l.length, s, L, z, hw'.sel [1] z z⟩
 ·have H := a8
  generalize (!k.2.2) = a at H key ⊢
  cases a
  ·have H := aN z H
   refine A z <| d H fun a a H => ix1 bB ty3 (av (e := V eI 3) (r := 1) z) a z z <| A z <| A z <| ?_
   obtain rfl := Z H
   exact OW.sub key (c z)
  ·have H := aO z H
   refine C [.p, .p, .p, .p, .p] z ?_
   obtain rfl := Z H
   exact OW.sub key (c z)
theorem sH (w) {m p0 p1 a f j r} (H : kV p0 p1 = U r) (HS : Q w m [] w) (k : (V e8 5).rd w m p0 [S a f j]) :
    Calls Tryz.prog 85 #[S a f j, I J p1] w (fun en w' => ∃ v, en = .returned v ∧ ∃ a f c0 j, v = .tuple #[.agg #[S a f c0], I J r.2.1, B r.2.2] ∧ Q w m [W (V (V eI 3) 63) j r.1.p_ [S a f c0]] w') := by
 obtain rfl := dc k
 unfold kV at H
 refine ar Tryz.func85 z Tryz.ntmps85 z (HS) <| D <| bn z z z z nz (fun _ => kp) fun a => oPP z <| nR <| oPP z <| d H fun a l H => aq z Ow z z z z (fun j f => rh j l (f.carve [] z z) (g k j f)) fun k j j f o => ?_
 obtain ⟨j, k, k, q, rfl, l⟩ := o
 obtain rfl := aL (i := 0) l z
 refine ⟨Q w m [_, _], f.comp [] z z l, fun _ _ => Y, ?_⟩
 refine C [.p, .p, .p, .p, .p, .p, .p] z <| P <| E <| D <| oPP z <| P <| cI H z ?_ ?_ <;> intro H
 ·exact D <| G z (bv [] [S N 0 0] z z nz Pn z Y z) <| sC 0 [S N 0 0] [_] 0 z nz z <| oPP z <| nT <| aS <| aP (fun _ h => St.pushNil (e := V eI 3) (T := 63) h) <| Z H ▸ xc 0 nz z fun w' hw' => ⟨_, z, N, 0, 0, [], z, hw'.sel [2] z z⟩
 ·exact ai <| R <| D <| A z <| G z (bv [(0, [S j a.1.length k])] [S j a.1.length k] z z nz Pn z ⟨z, z, nl z, Y⟩ z) <| A z <| sC 0 [S j a.1.length k] [_] 0 z nz z <| oPP z <| nT <| Z H ▸ xc 0 nz z fun w' hw' => ⟨_, z, j, a.1.length, k, q, z, hw'.sel [1] z z⟩
theorem yj (w) {L p0 p1 a f j r} (H : mJ p0 p1 = U r) (HS : Q w L [] w) (s : (V e8 5).rd w L p0 [S a f j]) :
    Calls Tryz.prog 34 #[S a f j, I J p1] w (fun en w' => ∃ v, en = .returned v ∧ ∃ a f c0 t j k c1 u l m c2 x o q c3 F, v = .tuple #[.agg #[S a f c0, I J r.1.H_.y_, B r.1.T_, S j k c1, I J r.1.w_.y_, S l m c2, S o q c3], I J r.2.1, B r.2.2] ∧ Q w L [W (V (aQ) 145) t r.1.H_.e_ [S a f c0], W (V (aQ) 145) u r.1.w_.e_ [S j k c1], W (V (V eI 3) 63) x r.1.K_.r_.p_ [S l m c2], W (V (V eI 3) 63) F r.1.K_.s_.p_ [S o q c3]] w') := by
 obtain rfl := dc s
 unfold mJ at H
 refine ar Tryz.func34 z Tryz.ntmps34 z (HS) <| D <| bn z z z z fO (fun _ => kp) fun a => oPP z <| nR <| G z (bv [] [S N 0 0, I J 0, B n, S N 0 0, I J 0, S N 0 0, S N 0 0] z z fO OQ z Y z) <| bn z z z z fO (fun _ => kp) fun a => sC 0 [S N 0 0, I J 0, B n, S N 0 0, I J 0, S N 0 0, S N 0 0] [_, _, _, _, _, _, _] 1 z fO z <| nR <| oPP z <| d H fun j k H => aq z PR z z z z (fun f a => uE f k (a.carve [] z z) (g s f a)) fun k f X a l => ?_
 obtain ⟨t, k, u, a5, rfl, k⟩ := l
 obtain rfl := aL (i := 0) k z
 refine ⟨Q w L [_, _, _], a.comp [] z z k, fun _ _ => Y, ?_⟩
 refine C [.p, .p, .p, .p] z <| bn z z z z jb (fun _ => kp) fun k => sC 0 [S t j.1.e_.length u, I J j.1.y_] [_, _] 3 z jb z <| oPP z <| P <| E <| D <| oPP z <| P <| cI H z ?_ ?_ <;> intro H
 ·exact D <| G z (rx 0 1 _ z fO z) <| sC 0 [S N 0 0, I J 0, B n, S N 0 0, I J 0, S N 0 0, S N 0 0] [_, _, _, _, _, _, _] 0 z fO z <| oPP z <| nT <| aS <| aP (fun _ h => St.pushNil (e := aQ) (T := 145) h) <| aP (fun _ h => St.pushNil (e := aQ) (T := 145) h) <| aP (fun _ h => St.pushNil (e := V eI 3) (T := 63) h) <| aP (fun _ h => St.pushNil (e := V eI 3) (T := 63) h) <| Z H ▸ xc 0 fO z fun w' hw' => ⟨_, z, N, 0, 0, [], N, 0, 0, [], N, 0, 0, [], N, 0, 0, [], z, hw'.sel [4, 5, 6, 7] z z⟩
 ·refine ai <| R <| D <| oPP z <| bq H FZ (fun _ k f a => iC f k (g s f a)) z tt2 fun M H => C [.p, .p, .p, .p, .p, .p, .p] z <| P <| E <| D <| oPP z <| P <| cI H z ?_ ?_ <;> intro H
  ·exact D <| G z (rx 0 1 _ z fO z) <| sC 0 [S N 0 0, I J 0, B n, S N 0 0, I J 0, S N 0 0, S N 0 0] [_, _, _, _, _, _, _] 0 z fO z <| oPP z <| nT <| aS <| aP (fun _ h => St.pushNil (e := aQ) (T := 145) h) <| aP (fun _ h => St.pushNil (e := aQ) (T := 145) h) <| aP (fun _ h => St.pushNil (e := V eI 3) (T := 63) h) <| aP (fun _ h => St.pushNil (e := V eI 3) (T := 63) h) <| Z H ▸ xc 0 fO z fun w' hw' => ⟨_, z, N, 0, 0, [], N, 0, 0, [], N, 0, 0, [], N, 0, 0, [], z, hw'.sel [4, 5, 6, 7] z z⟩
  ·refine ai <| R <| D <| oPP z <| d H fun k l H => aq z PR z z z z (fun f a => uE f l (a.carve [] z z) (g s f a)) fun l f X a m => ?_
   obtain ⟨x, l, F, a6, rfl, l⟩ := m
   obtain rfl := aL (i := 0) l z
   refine ⟨Q w L [_, _, _, _, _], a.comp [] z z l, fun _ _ => Y, ?_⟩
   refine C [.p, .p, .p, .p] z <| bn z z z z jb (fun _ => kp) fun l => sC 0 [S x k.1.e_.length F, I J k.1.y_] [_, _] 5 z jb z <| oPP z <| P <| E <| D <| oPP z <| P <| cI H z ?_ ?_ <;> intro H
   ·exact D <| G z (rx 0 1 _ z fO z) <| sC 0 [S N 0 0, I J 0, B n, S N 0 0, I J 0, S N 0 0, S N 0 0] [_, _, _, _, _, _, _] 0 z fO z <| oPP z <| nT <| aS <| aP (fun _ h => St.pushNil (e := aQ) (T := 145) h) <| aP (fun _ h => St.pushNil (e := aQ) (T := 145) h) <| aP (fun _ h => St.pushNil (e := V eI 3) (T := 63) h) <| aP (fun _ h => St.pushNil (e := V eI 3) (T := 63) h) <| Z H ▸ xc 0 fO z fun w' hw' => ⟨_, z, N, 0, 0, [], N, 0, 0, [], N, 0, 0, [], N, 0, 0, [], z, hw'.sel [6, 7, 8, 9] z z⟩
   ·refine ai <| R <| D <| oPP z <| d H fun l m H => aq z RD z z z z (fun f a => sH f m (a.carve [] z z) (g s f a)) fun m f X a a4 => ?_
    obtain ⟨m, o, o, a7, rfl, q⟩ := a4
    obtain rfl := aL (i := 0) q z
    refine ⟨Q w L [_, _, _, _, _, _, _], a.comp [] z z q, fun _ _ => Y, ?_⟩
    refine C [.p, .p, .p, .p] z <| bn z z z z nz (fun _ => kp) fun q => sC 0 [S m l.1.p_.length o] [_] 7 z nz z <| oPP z <| P <| E <| D <| oPP z <| P <| cI H z ?_ ?_ <;> intro H
    ·exact D <| G z (rx 0 1 _ z fO z) <| sC 0 [S N 0 0, I J 0, B n, S N 0 0, I J 0, S N 0 0, S N 0 0] [_, _, _, _, _, _, _] 0 z fO z <| oPP z <| nT <| aS <| aP (fun _ h => St.pushNil (e := aQ) (T := 145) h) <| aP (fun _ h => St.pushNil (e := aQ) (T := 145) h) <| aP (fun _ h => St.pushNil (e := V eI 3) (T := 63) h) <| aP (fun _ h => St.pushNil (e := V eI 3) (T := 63) h) <| Z H ▸ xc 0 fO z fun w' hw' => ⟨_, z, N, 0, 0, [], N, 0, 0, [], N, 0, 0, [], N, 0, 0, [], z, hw'.sel [8, 9, 10, 11] z z⟩
    ·refine ai <| R <| D <| oPP z <| d H fun q a4 H => aq z RD z z z z (fun f a => sH f a4 (a.carve [] z z) (g s f a)) fun s f X a a4 => ?_
     obtain ⟨f, s, s, a8, rfl, X⟩ := a4
     obtain rfl := aL (i := 0) X z
     refine ⟨Q w L [_, _, _, _, _, _, _, _, _], a.comp [] z z X, fun _ _ => Y, ?_⟩
     refine C [.p, .p, .p, .p] z <| bn z z z z nz (fun _ => kp) fun a => sC 0 [S f q.1.p_.length s] [_] 9 z nz z <| oPP z <| P <| E <| D <| oPP z <| P <| cI H z ?_ ?_ <;> intro H
     ·exact D <| G z (rx 0 1 _ z fO z) <| sC 0 [S N 0 0, I J 0, B n, S N 0 0, I J 0, S N 0 0, S N 0 0] [_, _, _, _, _, _, _] 0 z fO z <| oPP z <| nT <| aS <| aP (fun _ h => St.pushNil (e := aQ) (T := 145) h) <| aP (fun _ h => St.pushNil (e := aQ) (T := 145) h) <| aP (fun _ h => St.pushNil (e := V eI 3) (T := 63) h) <| aP (fun _ h => St.pushNil (e := V eI 3) (T := 63) h) <| Z H ▸ xc 0 fO z fun w' hw' => ⟨_, z, N, 0, 0, [], N, 0, 0, [], N, 0, 0, [], N, 0, 0, [], z, hw'.sel [10, 11, 12, 13] z z⟩
     ·exact ai <| R <| D <| G z (rx 0 3 _ z jb z) <| oPP z <| G z (rx 0 5 _ z jb z) <| G z (rx 0 7 _ z nz z) <| G z (rx 0 9 _ z nz z) <| G z (bv [(0, [S m l.1.p_.length o]), (1, [S f q.1.p_.length s])] [S m l.1.p_.length o, S f q.1.p_.length s] z z Mr SY z ⟨z, z, nl z, z, z, nl z, Y⟩ z) <| G z (bv [(0, [S t j.1.e_.length u, I J j.1.y_]), (2, [B (M.1 == 1)]), (3, [S x k.1.e_.length F, I J k.1.y_]), (5, [S m l.1.p_.length o, S f q.1.p_.length s])] [S t j.1.e_.length u, I J j.1.y_, B (M.1 == 1), S x k.1.e_.length F, I J k.1.y_, S m l.1.p_.length o, S f q.1.p_.length s] z z fO OQ z ⟨z, z, nl z, z, z, nl z, z, z, nl z, z, z, nl z, Y⟩ z) <| A z <| sC 0 [S t j.1.e_.length u, I J j.1.y_, B (M.1 == 1), S x k.1.e_.length F, I J k.1.y_, S m l.1.p_.length o, S f q.1.p_.length s] [_, _, _, _, _, _, _] 0 z fO z <| oPP z <| nT <| Z H ▸ xc 0 fO z fun w' hw' => ⟨_, z, t, j.1.e_.length, u, a5, x, k.1.e_.length, F, a6, m, l.1.p_.length, o, a7, f, q.1.p_.length, s, a8, z, hw'.sel [2, 4, 6, 8] z z⟩
theorem An (w) {M0 p0 d2 a d3 r} (H : gE p0 = U r) (HS : Q w M0 [] w) (g0 : (V e8 5).rd w M0 p0 [S d2 a d3]) :
    Calls Tryz.prog 13 #[S d2 a d3] w (fun en w' => ∃ v, en = .returned v ∧ ∃ a f c0 L k l c1 M m o c2 X s t c3 F3 u F c4 F4, v = .tuple #[.agg #[S a f c0, S k l c1, I J r.1.a_.b_.L_, I J r.1.a_.b_.N_, I J r.1.a_.b_.M_, I J r.1.a_.b_.h_, I J r.1.a_.b_.e_, I J r.1.a_.b_.E_, B r.1.a_.b_.Q_, I J r.1.a_.j_, I J r.1.a_.O_, I J r.1.a_.P_, I J r.1.a_.r_, I J r.1.a_.s_, S m o c2, S s t c3, S u F c4], B r.2] ∧ Q w M0 [W (V (aD) 123) L r.1.a_.g_.d_ [S a f c0], W (V (bC) 9) M r.1.a_.g_.f_ [S k l c1], W (V (aF) 75) X r.1.z_.j_ [S m o c2], W (V (V eI 3) 63) F3 r.1.m_.o_ [S s t c3], W (V (aK) 83) F4 r.1.m_.n_ [S u F c4]] w') := by
 obtain rfl := dc g0
 unfold gE at H
 refine ar Tryz.func13 z Tryz.ntmps13 z (HS) <| D <| bn z z z z cA (fun _ => kp) fun d0 => A z <| nR <| G z (bv [] [S N 0 0, S N 0 0, I J 0, I J 0, I J 0, I J 0, I J 0, I J 0, B n, I J 0, I J 0, I J 0, I J 0, I J 0, S N 0 0, S N 0 0, S N 0 0] z z cA Ap z Y z) <| bn z z z z cA (fun _ => kp) fun b9 => sC 0 [S N 0 0, S N 0 0, I J 0, I J 0, I J 0, I J 0, I J 0, I J 0, B n, I J 0, I J 0, I J 0, I J 0, I J 0, S N 0 0, S N 0 0, S N 0 0] [_, _, _, _, _, _, _, _, _, _, _, _, _, _, _, _, _] 1 z cA z <| nR <| A z <| bq H To (fun _ a u f => Ax u a (g g0 u f)) z tt2 fun a H => C [.p, .p, .p, .p, .p, .p, .p] z <| P <| E <| D <| oPP z <| P <| cI H z ?_ ?_ <;> intro H
 ·exact D <| G z (rx 0 1 _ z cA z) <| sC 0 [S N 0 0, S N 0 0, I J 0, I J 0, I J 0, I J 0, I J 0, I J 0, B n, I J 0, I J 0, I J 0, I J 0, I J 0, S N 0 0, S N 0 0, S N 0 0] [_, _, _, _, _, _, _, _, _, _, _, _, _, _, _, _, _] 0 z cA z <| A z <| nT <| aS <| aP (fun _ h => St.pushNil (e := aD) (T := 123) h) <| aP (fun _ h => St.pushNil (e := bC) (T := 9) h) <| aP (fun _ h => St.pushNil (e := aF) (T := 75) h) <| aP (fun _ h => St.pushNil (e := V eI 3) (T := 63) h) <| aP (fun _ h => St.pushNil (e := aK) (T := 83) h) <| Z H ▸ xc 0 cA z fun w' hw' => ⟨_, z, N, 0, 0, [], N, 0, 0, [], N, 0, 0, [], N, 0, 0, [], N, 0, 0, [], z, hw'.sel [2, 3, 4, 5, 6] z z⟩
 ·refine ai <| R <| D <| A z <| d H fun a k H => aq z SK z z z z (fun u f => yM u k (f.carve [] z z)) fun k u w2 f l => ?_
  obtain ⟨m, k, o, d8, s, k, t, d9, rfl, k⟩ := l
  obtain rfl := aL (i := 0) k z
  obtain rfl := aL (i := 1) k z
  refine ⟨Q w M0 [_, _, _, _], f.comp [] z z k, fun _ _ => Y, ?_⟩
  refine C [.p, .p, .p] z <| bn z z z z el (fun _ => kp) fun d4 => sC 0 [S m a.1.d_.length o, S s a.1.f_.length t] [_, _] 4 z el z <| A z <| nR <| oPP z <| d H fun k l H => aq z LR z z z z (fun u f => lS u l (f.carve [] z z) (g g0 u f)) fun l u w2 f M => ?_
  obtain ⟨F, l, L, X, rfl, l⟩ := M
  obtain rfl := aL (i := 0) l z
  refine ⟨Q w M0 [_, _, _, _, _, _], f.comp [] z z l, fun _ _ => Y, ?_⟩
  refine C [.p, .p, .p, .p, .p, .p, .p] z <| P <| E <| D <| C [.p, .p, .p] z <| cu2 [(0, S d2 p0.length d3), (2, O (U ⟨d0, 0, N⟩)), (4, O (U ⟨b9, 0, N⟩)), (6, I J k.2.1), (8, O (U ⟨d4, 0, N⟩)), (10, S F k.1.length L)] [(7, B k.2.2), (48, B (!a.2))] 3 (51, B ((!a.2) || (!k.2.2))) z ?_ fun key => ?_
  ·refine P <| cI H z ?_ ?_ <;> intro H
   ·exact D <| G z (rx 0 1 _ z cA z) <| sC 0 [S N 0 0, S N 0 0, I J 0, I J 0, I J 0, I J 0, I J 0, I J 0, B n, I J 0, I J 0, I J 0, I J 0, I J 0, S N 0 0, S N 0 0, S N 0 0] [_, _, _, _, _, _, _, _, _, _, _, _, _, _, _, _, _] 0 z cA z <| A z <| nT <| aS <| aP (fun _ h => St.pushNil (e := aD) (T := 123) h) <| aP (fun _ h => St.pushNil (e := bC) (T := 9) h) <| aP (fun _ h => St.pushNil (e := aF) (T := 75) h) <| aP (fun _ h => St.pushNil (e := V eI 3) (T := 63) h) <| aP (fun _ h => St.pushNil (e := aK) (T := 83) h) <| Z H ▸ xc 0 cA z fun w' hw' => ⟨_, z, N, 0, 0, [], N, 0, 0, [], N, 0, 0, [], N, 0, 0, [], N, 0, 0, [], z, hw'.sel [6, 7, 8, 9, 10] z z⟩
   ·refine ai <| R <| E <| lu 42 [(0, y), (1, y), (2, y), (3, y), (4, y), (5, y), (6, y), (7, y), (8, y), (9, y), (10, y), (11, y), (12, y), (13, y), (14, y), (15, y), (16, y), (17, y), (18, y), (19, y), (20, y), (21, y), (22, y), (23, y), (24, y), (25, y), (26, y), (27, y), (28, y), (29, y), (30, y), (31, y), (32, y), (33, y), (34, y), (35, y), (36, y), (37, y), (38, y), (39, y), (40, y), (41, n)] (Q w M0 [b d0 39 [S N 0 0, S N 0 0, I J 0, I J 0, I J 0, I J 0, I J 0, I J 0, B n, I J 0, I J 0, I J 0, I J 0, I J 0, S N 0 0, S N 0 0, S N 0 0], b b9 39 [S N 0 0, S N 0 0, I J 0, I J 0, I J 0, I J 0, I J 0, I J 0, B n, I J 0, I J 0, I J 0, I J 0, I J 0, S N 0 0, S N 0 0, S N 0 0], W (V (aD) 123) d8 a.1.d_ [S m a.1.d_.length o], W (V (bC) 9) d9 a.1.f_ [S s a.1.f_.length t], b d4 26 [S m a.1.d_.length o, S s a.1.f_.length t], W (V eI 3) X k.1 [S F k.1.length L]]) dC (by kernel_rfl) (cr dx) (tk 6 z) <| ek z (aV z) (rx 0 4 _ z el z) <| A z <| d H fun X l H => fb (e := eI) (xs := k.1) (j := 0) z z z z z bB ty3 z (av (e := V eI 3) (r := 5) z) l (by rw [Nat.mul_one]) <| ek z (aV z) (aT z z ty3 (mu (av (e := V eI 3) (r := 5) z) l)) <| A z <| d H fun a5 l H => fb (e := eI) (xs := k.1) (j := 1) z z z z z bB ty3 z (av (e := V eI 3) (r := 5) z) l (by rw [Nat.mul_one]) <| ek z (aV z) (aT z z ty3 (mu (av (e := V eI 3) (r := 5) z) l)) <| A z <| d H fun a6 l H => fb (e := eI) (xs := k.1) (j := 2) z z z z z bB ty3 z (av (e := V eI 3) (r := 5) z) l (by rw [Nat.mul_one]) <| ek z (aV z) (aT z z ty3 (mu (av (e := V eI 3) (r := 5) z) l)) <| A z <| d H fun a7 l H => fb (e := eI) (xs := k.1) (j := 3) z z z z z bB ty3 z (av (e := V eI 3) (r := 5) z) l (by rw [Nat.mul_one]) <| ek z (aV z) (aT z z ty3 (mu (av (e := V eI 3) (r := 5) z) l)) <| A z <| d H fun a8 l H => fb (e := eI) (xs := k.1) (j := 4) z z z z z bB ty3 z (av (e := V eI 3) (r := 5) z) l (by rw [Nat.mul_one]) <| ek z (aV z) (aT z z ty3 (mu (av (e := V eI 3) (r := 5) z) l)) <| A z <| d H fun a9 l H => fb (e := eI) (xs := k.1) (j := 5) z z z z z bB ty3 z (av (e := V eI 3) (r := 5) z) l (by rw [Nat.mul_one]) <| ek z (aV z) (aT z z ty3 (mu (av (e := V eI 3) (r := 5) z) l)) <| A z <| d H fun b0 l H => fb (e := eI) (xs := k.1) (j := 6) z z z z z bB ty3 z (av (e := V eI 3) (r := 5) z) l (by rw [Nat.mul_one]) <| ek z (aV z) (aT z z ty3 (mu (av (e := V eI 3) (r := 5) z) l)) <| A z <| ek z (aV z) (bv [(0, [I J X]), (1, [I J a5]), (2, [I J a6]), (3, [I J a7]), (4, [I J a8]), (5, [I J a9]), (6, [B (b0 == 1)])] [I J X, I J a5, I J a6, I J a7, I J a8, I J a9, B (b0 == 1)] z z uX SZ z ⟨z, z, nl z, z, z, nl z, z, z, nl z, z, z, nl z, z, z, nl z, z, z, nl z, z, z, nl z, Y⟩ z) <| A z <| d H fun b3 l H => fb (e := eI) (xs := k.1) (j := 7) z z z z z bB ty3 z (av (e := V eI 3) (r := 5) z) l (by rw [Nat.mul_one]) <| ek z (aV z) (aT z z ty3 (mu (av (e := V eI 3) (r := 5) z) l)) <| A z <| ?_
    refine d H fun b4 l H => fb (e := eI) (xs := k.1) (j := 8) z z z z z bB ty3 z (av (e := V eI 3) (r := 5) z) l (by rw [Nat.mul_one]) <| ek z (aV z) (aT z z ty3 (mu (av (e := V eI 3) (r := 5) z) l)) <| A z <| d H fun b5 l H => fb (e := eI) (xs := k.1) (j := 9) z z z z z bB ty3 z (av (e := V eI 3) (r := 5) z) l (by rw [Nat.mul_one]) <| ek z (aV z) (aT z z ty3 (mu (av (e := V eI 3) (r := 5) z) l)) <| A z <| d H fun b6 l H => fb (e := eI) (xs := k.1) (j := 10) z z z z z bB ty3 z (av (e := V eI 3) (r := 5) z) l (by rw [Nat.mul_one]) <| ek z (aV z) (aT z z ty3 (mu (av (e := V eI 3) (r := 5) z) l)) <| A z <| d H fun b7 l H => fb (e := eI) (xs := k.1) (j := 11) z z z z z bB ty3 z (av (e := V eI 3) (r := 5) z) l (by rw [Nat.mul_one]) <| ek z (aV z) (aT z z ty3 (mu (av (e := V eI 3) (r := 5) z) l)) <| ek z (aV z) (bv [(0, [S m a.1.d_.length o, S s a.1.f_.length t]), (2, [I J X, I J a5, I J a6, I J a7, I J a8, I J a9, B (b0 == 1)]), (9, [I J b3]), (10, [I J b4]), (11, [I J b5]), (12, [I J b6]), (13, [I J b7])] [S m a.1.d_.length o, S s a.1.f_.length t, I J X, I J a5, I J a6, I J a7, I J a8, I J a9, B (b0 == 1), I J b3, I J b4, I J b5, I J b6, I J b7] z z uM SA z ⟨z, z, nl z, z, z, nl z, z, z, nl z, z, z, nl z, z, z, nl z, z, z, nl z, z, z, nl z, Y⟩ z) <| ek z (aV z) (bv [(0, [S m a.1.d_.length o, S s a.1.f_.length t, I J X, I J a5, I J a6, I J a7, I J a8, I J a9, B (b0 == 1), I J b3, I J b4, I J b5, I J b6, I J b7])] [S m a.1.d_.length o, S s a.1.f_.length t, I J X, I J a5, I J a6, I J a7, I J a8, I J a9, B (b0 == 1), I J b3, I J b4, I J b5, I J b6, I J b7, S N 0 0, S N 0 0, S N 0 0] z z cA Ap z ⟨z, z, nl z, Y⟩ z) <| bn z z z z cA (fun _ => (tk 6 z)) fun d6 => jI <| we <| sC 0 [S m a.1.d_.length o, S s a.1.f_.length t, I J X, I J a5, I J a6, I J a7, I J a8, I J a9, B (b0 == 1), I J b3, I J b4, I J b5, I J b6, I J b7, S N 0 0, S N 0 0, S N 0 0] [_, _, _, _, _, _, _, _, _, _, _, _, _, _, _, _, _] 6 z cA z <| P <| E <| D <| C [.fa 39 0 0 gW] z <| G z (rx 0 6 _ z uM z) <| bq H Pb (fun _ l u f => sj u l (bx (x := (aR.mk a.1 (bw.mk X a5 a6 a7 a8 a9 (b0 == 1)) b3 b4 b5 b6 b7)) (c0 := [S m a.1.d_.length o, S s a.1.f_.length t]) (c1 := [I J X, I J a5, I J a6, I J a7, I J a8, I J a9, B (b0 == 1)]) (c2 := [I J b3]) (c3 := [I J b4]) (c4 := [I J b5]) (c5 := [I J b6]) (c6 := [I J b7]) (aw (x := a.1) (c0 := [S m a.1.d_.length o]) (c1 := [S s a.1.f_.length t]) (av (e := V (aD) 123) (r := 2) z u f) (av (e := V (bC) 9) (r := 3) z u f)) z z z z z z)) z tt2 fun l H => A z <| P <| cI H z ?_ ?_ <;> intro H
    ·exact D <| G z (rx 0 1 _ z cA z) <| sC 0 [S N 0 0, S N 0 0, I J 0, I J 0, I J 0, I J 0, I J 0, I J 0, B n, I J 0, I J 0, I J 0, I J 0, I J 0, S N 0 0, S N 0 0, S N 0 0] [_, _, _, _, _, _, _, _, _, _, _, _, _, _, _, _, _] 0 z cA z <| A z <| nT <| aS <| aP (fun _ h => St.pushNil (e := aD) (T := 123) h) <| aP (fun _ h => St.pushNil (e := bC) (T := 9) h) <| aP (fun _ h => St.pushNil (e := aF) (T := 75) h) <| aP (fun _ h => St.pushNil (e := V eI 3) (T := 63) h) <| aP (fun _ h => St.pushNil (e := aK) (T := 83) h) <| Z H ▸ xc 0 cA z fun w' hw' => ⟨_, z, N, 0, 0, [], N, 0, 0, [], N, 0, 0, [], N, 0, 0, [], N, 0, 0, [], z, hw'.sel [7, 8, 9, 10, 11] z z⟩
    ·refine ai <| R <| E <| D <| A z <| P <| an <| CW.weak ?_ (fun _ h => St.pushNil (e := aF) (T := 75) h)
     refine CW.at (oD (fun (l : List au) (F : Option Addr) (L : Nat) (c8 : List Nat) (b1 : Int) (b8 : Int) => Q w M0 [b d6 39 [S m a.1.d_.length o, S s a.1.f_.length t, I J X, I J a5, I J a6, I J a7, I J a8, I J a9, B (b0 == 1), I J b3, I J b4, I J b5, I J b6, I J b7, S F l.length L, S N 0 0, S N 0 0], W (V (aD) 123) d8 a.1.d_ [S m a.1.d_.length o], W (V (bC) 9) d9 a.1.f_ [S s a.1.f_.length t], W (V (aF) 75) c8 l [S F l.length L], b d0 39 [S N 0 0, S N 0 0, I J 0, I J 0, I J 0, I J 0, I J 0, I J 0, B n, I J 0, I J 0, I J 0, I J 0, I J 0, S N 0 0, S N 0 0, S N 0 0], b b9 39 [S N 0 0, S N 0 0, I J 0, I J 0, I J 0, I J 0, I J 0, I J 0, B n, I J 0, I J 0, I J 0, I J 0, I J 0, S N 0 0, S N 0 0, S N 0 0], b d4 26 [S m a.1.d_.length o, S s a.1.f_.length t]]) (fun l F L c8 b1 b8 => [(0, S d2 p0.length d3), (2, O (U ⟨d0, 0, N⟩)), (4, O (U ⟨b9, 0, N⟩)), (6, I J b8), (8, O (U ⟨d4, 0, N⟩)), (11, O (U ⟨d6, 0, N⟩)), (12, I J b1)]) (fun kk => fun l F L c8 b1 b8 => fR b3 p0 a X a5 a6 a7 a8 a9 b0 b4 b5 b6 b7 kk l b1 b8 = U r) nofun (fun M e6 l F L c8 b1 b8 H => ?_) aI (([] : List au)) (N) (0) ([]) (0) (k.2.1) (H)) (ss [6, 2, 3, 7, 0, 1, 4] z z) (c z)
     unfold fR at H
     refine E <| D <| C [.p, .fa 39 0 0 gW, .fa 30 2 9 rV] z <| G z (r1 9 0 z ty3 z) <| A z <| P <| cI H z ?_ ?_ <;> intro H
     ·refine ai <| R <| E <| an <| D <| oPP z <| d H fun k M H => aq z SB z z z z (fun u f => yj u M (f.carve [] z z) (g g0 u f)) fun M u w2 f e5 => ?_
      obtain ⟨b2, M, c7, M, d1, M, d7, M, e0, M, e1, M, e2, M, e3, M, rfl, M⟩ := e5
      obtain rfl := aL (i := 0) M z
      obtain rfl := aL (i := 1) M z
      obtain rfl := aL (i := 2) M z
      obtain rfl := aL (i := 3) M z
      refine ⟨Q w M0 [_, _, _, _, _, _, _, _, _, _, _], f.comp [] z z M, fun _ _ => Y, ?_⟩
      refine C [.p, .p, .p, .p] z <| bn z z z z fO (fun _ => kp) fun M => sC 0 [S b2 k.1.H_.e_.length c7, I J k.1.H_.y_, B k.1.T_, S d1 k.1.w_.e_.length d7, I J k.1.w_.y_, S e0 k.1.K_.r_.p_.length e1, S e2 k.1.K_.s_.p_.length e3] [_, _, _, _, _, _, _] 11 z fO z <| oPP z <| P <| E <| D <| oPP z <| P <| cI H z ?_ ?_ <;> intro H
      ·exact D <| G z (rx 0 5 _ z cA z) <| sC 0 [S N 0 0, S N 0 0, I J 0, I J 0, I J 0, I J 0, I J 0, I J 0, B n, I J 0, I J 0, I J 0, I J 0, I J 0, S N 0 0, S N 0 0, S N 0 0] [_, _, _, _, _, _, _, _, _, _, _, _, _, _, _, _, _] 4 z cA z <| A z <| nT <| aS <| cR <| aS <| lU <| cR <| aS <| aP (fun _ h => St.pushNil (e := aD) (T := 123) h) <| aP (fun _ h => St.pushNil (e := bC) (T := 9) h) <| aP (fun _ h => St.pushNil (e := aF) (T := 75) h) <| aP (fun _ h => St.pushNil (e := V eI 3) (T := 63) h) <| aP (fun _ h => St.pushNil (e := aK) (T := 83) h) <| Z H ▸ xc 4 cA z fun w' hw' => ⟨_, z, N, 0, 0, [], N, 0, 0, [], N, 0, 0, [], N, 0, 0, [], N, 0, 0, [], z, hw'.sel [12, 13, 14, 15, 16] z z⟩
      ·refine ai <| R <| D <| C [.fa 39 1 14 qi, .fa 33 0 0 nK] z <| G z (r1 14 0 z wi z) <| G z (rx 0 11 _ z fO z) <| Eo z (fun u f => qj (x1 := k.1.H_.y_) (x2 := k.1.T_) (x4 := k.1.w_.y_) [7, 8, 9, 10] f z z) fun M => jM (C' := Q w M0 [_, _, _, _, _, _, _, _, _, _, _, _, _]) z (fun _ h => h) <| gZ [(0, [S b2 k.1.H_.e_.length c7, I J k.1.H_.y_, B k.1.T_, S d1 k.1.w_.e_.length d7, I J k.1.w_.y_, S e0 k.1.K_.r_.p_.length e1, S e2 k.1.K_.s_.p_.length e3])] z z z z z mU fO z z ⟨z, z, nl z, Y⟩ [S b2 k.1.H_.e_.length c7, I J k.1.H_.y_, B k.1.T_, S d1 k.1.w_.e_.length d7, I J k.1.w_.y_, S e0 k.1.K_.r_.p_.length e1, S e2 k.1.K_.s_.p_.length e3] z (fun _ => kp) fun M => jM z (fun _ h => CL (p := 13) (q := 12) h z z z) <| d H fun M b2 H => pF (r := 3) (j := 14) z z z z z z mU fO z z z z z z z b2 (fun _ _ _ => kp) fun b2 c7 d1 => C [.fa 39 1 14 qi, .fa 33 0 0 nK] z <| sC 14 [S b2 M.length c7] [_, _, _, _, _, _, _, _, _, _, _, _, _, _, _, _, _] 0 z wi z <| P <| CW.weak (C' := Q w M0 [_, _, _, _, _, _, _, _]) ?_ (ss [0, 1, 2, 4, 5, 6, 11, 15] z z)
       exact aH <| oPP z <| ay <| bR <| R <| aH <| C [.p, .p, .p] z <| ay <| bU (RW.at (e6 (M) (b2) (c7) (d1) (J.wrap (b1 + 1)) (k.2.1) (H)) (ss [0, 1, 2, 7, 3, 4, 5] z z) (c z))
     ·refine aU <| aB <| aE <| aA <| R <| E <| D <| A z <| P <| an <| CW.weak ?_ (fun _ h => St.pushNil (e := V eI 3) (T := 63) h)
      refine CW.at (oD (fun (k : List (List Int)) (b1 : Option Addr) (b2 : Nat) (d1 : List Nat) (M : Int) (c7 : Int) => Q w M0 [b d6 39 [S m a.1.d_.length o, S s a.1.f_.length t, I J X, I J a5, I J a6, I J a7, I J a8, I J a9, B (b0 == 1), I J b3, I J b4, I J b5, I J b6, I J b7, S F l.length L, S b1 k.length b2, S N 0 0], W (V (aD) 123) d8 a.1.d_ [S m a.1.d_.length o], W (V (bC) 9) d9 a.1.f_ [S s a.1.f_.length t], W (V (aF) 75) c8 l [S F l.length L], W (V (V eI 3) 63) d1 k [S b1 k.length b2], b d0 39 [S N 0 0, S N 0 0, I J 0, I J 0, I J 0, I J 0, I J 0, I J 0, B n, I J 0, I J 0, I J 0, I J 0, I J 0, S N 0 0, S N 0 0, S N 0 0], b b9 39 [S N 0 0, S N 0 0, I J 0, I J 0, I J 0, I J 0, I J 0, I J 0, B n, I J 0, I J 0, I J 0, I J 0, I J 0, S N 0 0, S N 0 0, S N 0 0], b d4 26 [S m a.1.d_.length o, S s a.1.f_.length t]]) (fun k b1 b2 d1 M c7 => [(0, S d2 p0.length d3), (2, O (U ⟨d0, 0, N⟩)), (4, O (U ⟨b9, 0, N⟩)), (6, I J c7), (8, O (U ⟨d4, 0, N⟩)), (11, O (U ⟨d6, 0, N⟩)), (16, I J M)]) (fun kk => fun k b1 b2 d1 M c7 => fQ a p0 X a5 a6 a7 a8 a9 b0 b3 b4 b5 b6 b7 l kk k M c7 = U r) nofun (fun k2 e1 k b1 b2 d1 M c7 H => ?_) aI (([] : List (List Int))) (N) (0) ([]) (0) (b8) (H)) (ss [0, 1, 2, 3, 7, 4, 5, 6] z z) (c z)
      unfold fQ at H
      refine E <| D <| C [.p, .fa 26 1 1 lz] z <| G z (r1 1 7 z mZ z) <| C [.lenS 24 9 eo, .p] z <| P <| cI H z ?_ ?_ <;> intro H
      ·refine ai <| R <| E <| an <| D <| oPP z <| d H fun b8 c7 H => aq z Me z z z z (fun u f => lQ u c7 (f.carve [] z z) (g g0 u f)) fun c7 u w2 f e0 => ?_
       obtain ⟨d4, c7, d7, c7, rfl, c7⟩ := e0
       obtain rfl := aL (i := 0) c7 z
       refine ⟨Q w M0 [_, _, _, _, _, _, _, _, _], f.comp [] z z c7, fun _ _ => Y, ?_⟩
       refine C [.p, .p, .p, .p, .p, .p, .p] z <| P <| E <| D <| oPP z <| P <| cI H z ?_ ?_ <;> intro H
       ·exact D <| G z (rx 0 6 _ z cA z) <| sC 0 [S N 0 0, S N 0 0, I J 0, I J 0, I J 0, I J 0, I J 0, I J 0, B n, I J 0, I J 0, I J 0, I J 0, I J 0, S N 0 0, S N 0 0, S N 0 0] [_, _, _, _, _, _, _, _, _, _, _, _, _, _, _, _, _] 5 z cA z <| A z <| nT <| aS <| cR <| aS <| lU <| cR <| aS <| aP (fun _ h => St.pushNil (e := aD) (T := 123) h) <| aP (fun _ h => St.pushNil (e := bC) (T := 9) h) <| aP (fun _ h => St.pushNil (e := aF) (T := 75) h) <| aP (fun _ h => St.pushNil (e := V eI 3) (T := 63) h) <| aP (fun _ h => St.pushNil (e := aK) (T := 83) h) <| Z H ▸ xc 5 cA z fun w' hw' => ⟨_, z, N, 0, 0, [], N, 0, 0, [], N, 0, 0, [], N, 0, 0, [], N, 0, 0, [], z, hw'.sel [9, 10, 11, 12, 13] z z⟩
       ·refine ai <| R <| D <| C [.fa 39 2 15 jD, .fa 37 0 0 kQ] z <| G z (r1 15 0 z fw z) <| A z <| gZ [(0, [S d4 b8.1.length d7])] z z z z z eg bP z z ⟨z, z, nl z, Y⟩ [S d4 b8.1.length d7] z (fun _ => kp) fun c7 => jM z (fun _ h => CL (p := 9) (q := 8) h z z z) <| d H fun c7 d4 H => pF (r := 4) (j := 10) z z z z z z eg bP z z z z z z z d4 (fun _ _ _ => kp) fun d4 d7 e0 => C [.fa 39 2 15 jD, .fa 37 0 0 kQ] z <| sC 15 [S d4 c7.length d7] [_, _, _, _, _, _, _, _, _, _, _, _, _, _, _, _, _] 0 z fw z <| P <| CW.weak (C' := Q w M0 [_, _, _, _, _, _, _, _]) ?_ (ss [0, 1, 2, 3, 5, 6, 7, 11] z z)
        exact aH <| oPP z <| ay <| bR <| R <| aH <| C [.p, .p, .p] z <| ay <| bU (RW.at (e1 (c7) (d4) (d7) (e0) (J.wrap (M + 1)) (b8.2.1) (H)) (ss [0, 1, 2, 3, 7, 4, 5, 6] z z) (c z))
      ·refine aU <| aB <| aE <| aA <| R <| D <| oPP z <| bq H FZ (fun _ M u f => iC u M (g g0 u f)) z tt2 fun d7 H => C [.p, .p, .p, .p, .p, .p, .p] z <| P <| E <| D <| C [.p, .p, .p] z <| d H fun M e5 H => cu2 [(0, S d2 p0.length d3), (2, O (U ⟨d0, 0, N⟩)), (4, O (U ⟨b9, 0, N⟩)), (6, I J d7.2.1), (11, O (U ⟨d6, 0, N⟩)), (20, I J d7.1)] [(160, B (!d7.2.2))] 4 (164, B M) z ?_ fun key => ?_
       ·refine P <| cI H z ?_ ?_ <;> intro H
        ·exact D <| G z (rx 0 6 _ z cA z) <| sC 0 [S N 0 0, S N 0 0, I J 0, I J 0, I J 0, I J 0, I J 0, I J 0, B n, I J 0, I J 0, I J 0, I J 0, I J 0, S N 0 0, S N 0 0, S N 0 0] [_, _, _, _, _, _, _, _, _, _, _, _, _, _, _, _, _] 5 z cA z <| A z <| nT <| aS <| aP (fun _ h => St.pushNil (e := aD) (T := 123) h) <| aP (fun _ h => St.pushNil (e := bC) (T := 9) h) <| aP (fun _ h => St.pushNil (e := aF) (T := 75) h) <| aP (fun _ h => St.pushNil (e := V eI 3) (T := 63) h) <| aP (fun _ h => St.pushNil (e := aK) (T := 83) h) <| Z H ▸ xc 5 cA z fun w' hw' => ⟨_, z, N, 0, 0, [], N, 0, 0, [], N, 0, 0, [], N, 0, 0, [], N, 0, 0, [], z, hw'.sel [8, 9, 10, 11, 12] z z⟩
        ·refine ai <| R <| D <| C [.p, .p, .p, .p] z <| d H fun c7 M H => aq z LR z z z z (fun u f => lS u M (f.carve [] z z) (g g0 u f)) fun M u w2 f b8 => ?_
         obtain ⟨e0, M, e1, e2, rfl, M⟩ := b8
         obtain rfl := aL (i := 0) M z
         refine ⟨Q w M0 [_, _, _, _, _, _, _, _, _], f.comp [] z z M, fun _ _ => Y, ?_⟩
         refine C [.p, .p, .p, .p, .p, .p, .p] z <| P <| E <| D <| oPP z <| P <| cI H z ?_ ?_ <;> intro H
         ·exact D <| G z (rx 0 6 _ z cA z) <| sC 0 [S N 0 0, S N 0 0, I J 0, I J 0, I J 0, I J 0, I J 0, I J 0, B n, I J 0, I J 0, I J 0, I J 0, I J 0, S N 0 0, S N 0 0, S N 0 0] [_, _, _, _, _, _, _, _, _, _, _, _, _, _, _, _, _] 5 z cA z <| A z <| nT <| aS <| aP (fun _ h => St.pushNil (e := aD) (T := 123) h) <| aP (fun _ h => St.pushNil (e := bC) (T := 9) h) <| aP (fun _ h => St.pushNil (e := aF) (T := 75) h) <| aP (fun _ h => St.pushNil (e := V eI 3) (T := 63) h) <| aP (fun _ h => St.pushNil (e := aK) (T := 83) h) <| Z H ▸ xc 5 cA z fun w' hw' => ⟨_, z, N, 0, 0, [], N, 0, 0, [], N, 0, 0, [], N, 0, 0, [], N, 0, 0, [], z, hw'.sel [9, 10, 11, 12, 13] z z⟩
         ·refine ai <| R <| E <| D <| A z <| P <| an <| CW.weak ?_ (fun _ h => St.pushNil (e := aK) (T := 83) h)
          refine CW.at (lq (fun (M : List aC) (b8 : Option Addr) (b9 : Nat) (d3 : List Nat) (d2 : Int) => Q w M0 [b d6 39 [S m a.1.d_.length o, S s a.1.f_.length t, I J X, I J a5, I J a6, I J a7, I J a8, I J a9, B (b0 == 1), I J b3, I J b4, I J b5, I J b6, I J b7, S F l.length L, S b1 k.length b2, S b8 M.length b9], W (V (aD) 123) d8 a.1.d_ [S m a.1.d_.length o], W (V (bC) 9) d9 a.1.f_ [S s a.1.f_.length t], W (V (aF) 75) c8 l [S F l.length L], W (V (V eI 3) 63) d1 k [S b1 k.length b2], W (V (aK) 83) d3 M [S b8 M.length b9], b d0 39 [S N 0 0, S N 0 0, I J 0, I J 0, I J 0, I J 0, I J 0, I J 0, B n, I J 0, I J 0, I J 0, I J 0, I J 0, S N 0 0, S N 0 0, S N 0 0], W (V eI 3) e2 c7.1 [S e0 c7.1.length e1]]) (fun M b8 b9 d3 d2 => [(2, O (U ⟨d0, 0, N⟩)), (11, O (U ⟨d6, 0, N⟩)), (20, I J d7.1), (21, S e0 c7.1.length e1), (23, I J d2)]) (fun kk => fun M b8 b9 d3 d2 => dK d7 c7 a X a5 a6 a7 a8 a9 b0 b3 b4 b5 b6 b7 l k kk M d2 = U r) nofun (fun k3 e4 M b8 b9 d3 d2 H => ?_) aI (([] : List aC)) (N) (0) ([]) (0) (H)) (ss [0, 1, 2, 3, 4, 9, 5, 8] z z) (c z)
          unfold dK at H
          refine E <| D <| C [.p, .p, .p] z <| P <| cI H z ?_ ?_ <;> intro H
          ·refine ai <| R <| E <| an <| lu 16 [(0, y), (1, y), (2, y), (3, y), (4, y), (5, y), (6, y), (7, y), (8, y), (9, y), (10, y), (11, y), (12, y), (13, y), (14, y), (15, n)] (Q w M0 [b d6 39 [S m a.1.d_.length o, S s a.1.f_.length t, I J X, I J a5, I J a6, I J a7, I J a8, I J a9, B (b0 == 1), I J b3, I J b4, I J b5, I J b6, I J b7, S F l.length L, S b1 k.length b2, S b8 M.length b9], W (V (aD) 123) d8 a.1.d_ [S m a.1.d_.length o], W (V (bC) 9) d9 a.1.f_ [S s a.1.f_.length t], W (V (aF) 75) c8 l [S F l.length L], W (V (V eI 3) 63) d1 k [S b1 k.length b2], W (V (aK) 83) d3 M [S b8 M.length b9], b d0 39 [S N 0 0, S N 0 0, I J 0, I J 0, I J 0, I J 0, I J 0, I J 0, B n, I J 0, I J 0, I J 0, I J 0, I J 0, S N 0 0, S N 0 0, S N 0 0], W (V eI 3) e2 c7.1 [S e0 c7.1.length e1]]) dC (by kernel_rfl) (fT (cr (oG (fT (cr dx))))) (tk 8 z) <| C [.fa 39 2 15 jD, .fa 37 1 1 kq] z <| ek z (aV z) (r1 16 0 z tt z) <| C [.p, .p, .p] z <| d H fun d4 d5 H => fb (e := eI) (xs := c7.1) (j := J.wrap (2 * d2)) z z z z z bB ty3 z (av (e := V eI 3) (r := 7) z) d5 (by rw [Nat.mul_one]) <| ek z (aV z) (aT z z ty3 (mu (av (e := V eI 3) (r := 7) z) d5)) <| C [.p, .p, .p, .p] z <| d H fun d5 e3 H => fb (e := eI) (xs := c7.1) (j := J.wrap ((J.wrap (2 * d2)) + 1)) z z z z z bB ty3 z (av (e := V eI 3) (r := 7) z) e3 (by rw [Nat.mul_one]) <| ek z (aV z) (aT z z ty3 (mu (av (e := V eI 3) (r := 7) z) e3)) <| ek z (aV z) (bv [(0, [I J d4]), (1, [I J d5])] [I J d4, I J d5] z z nG Rf z ⟨z, z, nl z, z, z, nl z, Y⟩ z) <| Hh ([(aC.mk d4 d5)] : List aC) [(0, [I J d4, I J d5])] z z z z z nO nG z z z z ⟨z, z, nl z, Y⟩ z (fun _ => (tk 8 z)) (fun e3 => (?_ : OW _ _ _ (Q w M0 [b d6 39 [S m a.1.d_.length o, S s a.1.f_.length t, I J X, I J a5, I J a6, I J a7, I J a8, I J a9, B (b0 == 1), I J b3, I J b4, I J b5, I J b6, I J b7, S F l.length L, S b1 k.length b2, S b8 M.length b9], W (V (aD) 123) d8 a.1.d_ [S m a.1.d_.length o], W (V (bC) 9) d9 a.1.f_ [S s a.1.f_.length t], W (V (aF) 75) c8 l [S F l.length L], W (V (V eI 3) 63) d1 k [S b1 k.length b2], W (V (aK) 83) d3 M [S b8 M.length b9], b d0 39 [S N 0 0, S N 0 0, I J 0, I J 0, I J 0, I J 0, I J 0, I J 0, B n, I J 0, I J 0, I J 0, I J 0, I J 0, S N 0 0, S N 0 0, S N 0 0], W (V eI 3) e2 c7.1 [S e0 c7.1.length e1], W (V (aK) 83) [e3] [(aC.mk d4 d5)] [S (U ⟨e3, 0, N⟩) ([(aC.mk d4 d5)] : List aC).length 1]]) _ _ _))
           exact jI <| we <| d H fun c7 c9 H => IQ (r := 5) (ys := ([(aC.mk d4 d5)] : List aC)) z z z z z z nO nG z z z z z (fun u f => av (e := V (aK) 83) (r := 8) z u f) c9 (fun _ _ _ => kp) fun d0 d4 d5 => eF z (fun u f => kK (i := 5) f z (kC c9)) fun c9 => C [.fa 39 2 15 jD, .fa 37 1 1 kq] z <| sC 16 [S d0 c7.length d4] [_, _, _, _, _, _, _, _, _, _, _, _, _, _, _, _, _] 0 z tt z <| ay <| bR <| R <| aH <| C [.p, .p, .p] z <| ay <| bU (RW.at (e4 (c7) (d0) (d4) (d5) (J.wrap (d2 + 1)) (H)) (ss [0, 1, 2, 3, 4, 5, 6, 7] z z) (c z))
          ·exact aU <| aB <| aE <| aA <| R <| D <| G z (rx 0 0 _ z cA z) <| sC 0 [S m a.1.d_.length o, S s a.1.f_.length t, I J X, I J a5, I J a6, I J a7, I J a8, I J a9, B (b0 == 1), I J b3, I J b4, I J b5, I J b6, I J b7, S F l.length L, S b1 k.length b2, S b8 M.length b9] [_, _, _, _, _, _, _, _, _, _, _, _, _, _, _, _, _] 6 z cA z <| A z <| nT <| Z H ▸ xc 6 cA z fun w' hw' => ⟨_, z, m, a.1.d_.length, o, d8, s, a.1.f_.length, t, d9, F, l.length, L, c8, b1, k.length, b2, d1, b8, M.length, b9, d3, z, hw'.sel [1, 2, 3, 4, 5] z z⟩
       ·have H := e5
        generalize (!d7.2.2) = k at H key ⊢
        cases k
        ·have H := aN z H
         refine A z <| bq H kO (fun _ k u f => bm u k) z tt2 fun f H => A z <| A z <| ?_
         obtain rfl := Z H
         exact OW.sub key (c z)
        ·have H := aO z H
         refine C [.p, .p, .p, .p] z ?_
         obtain rfl := Z H
         exact OW.sub key (c z)
  ·generalize (!a.2) = a at key ⊢
   cases a
   ·exact oPP z <| A z <| OW.sub key (c z)
   ·exact C [.p, .p, .p] z <| OW.sub key (c z)
theorem rp (w) {p0 a r} (H : nr p0 = U r) (e : (aD).rd w [] p0 a) :
    Calls Tryz.prog 214 #[.agg a.toArray] w (fun en w' => en = .returned (I J r) ∧ Ext [] w w') := by
 obtain ⟨a, a, a, a, rfl, f, h⟩ := bJ e
 unfold nr at H
 refine ar Tryz.func214 z Tryz.ntmps214 z (St.init w []) <| D <| ob _ z fun a => A z <| P <| E <| D <| G z (rx 0 0 _ z cf z) <| bq H IK (fun _ i e a => pS e i (co z (g f e a) (g h e a))) z tt2 fun a H => A z <| P <| cI H z ?_ ?_ <;> intro H
 ·exact D <| A z <| nT <| Z H ▸ xw z
 ·refine ai <| R <| E <| D <| C [.fa 123 1 1 fJ] z <| G z (r1 1 0 z bP z) <| C [.lenS 63 3 bB, .p] z <| P <| cI H z ?_ ?_ <;> intro H
  ·exact D <| C [.fa 123 1 1 fJ] z <| G z (r1 1 0 z bP z) <| C [.lenS 63 3 bB, .p, .p] z <| nT <| Z H ▸ xw z
  ·exact ai <| R <| D <| C [.fa 123 2 2 kz] z <| G z (r1 2 0 z mZ z) <| C [.lenS 24 9 eo, .p] z <| nT <| Z H ▸ xw z
theorem qV (w) {p0 p1 a e r} (H : lv p0 p1 = U r) (f : (bH).rd w [] p0 a) (h : (cZ).rd w [] p1 e) :
    Calls Tryz.prog 196 #[.agg a.toArray, .agg e.toArray] w (fun en w' => en = .returned (B r) ∧ Ext [] w w') := by
 obtain ⟨o, q, s, t, rfl, i, a⟩ := bA f
 obtain ⟨u, v, x, F, rfl, L, T⟩ := gR h
 unfold lv at H
 refine ar Tryz.func196 z Tryz.ntmps196 z (St.init w []) <| D <| ob _ z fun f => ob _ z fun h => A z <| P <| E <| D <| G z (rx 0 0 _ z el z) <| bq H Iy (fun _ e k l => gY k e (aw (g i k l) (g a k l))) z tt2 fun M H => oPP z <| cu2 [(2, O (U ⟨f, 0, N⟩)), (3, O (U ⟨h, 0, N⟩))] [(16, B (!M))] 8 (24, B ((!M) || ((p1.q_.length : Int) != (p0.f_.length : Int)))) z ?_ fun key => ?_
 ·refine P <| cI H z ?_ ?_ <;> intro H
  ·exact D <| A z <| nT <| Z H ▸ xw z
  ·refine ai <| R <| D <| A z <| P <| E <| D <| A z <| P <| an <| CW.at (fc (fun (a : Int) (e : Int) => Q w [] [b f 26 [S o p0.d_.length q, S s p0.f_.length t], b h 143 [S u p1.q_.length v, S x p1.l_.length F]]) (fun a e => [(2, O (U ⟨f, 0, N⟩)), (3, O (U ⟨h, 0, N⟩)), (5, I J a), (6, I J e)]) (fun kk => fun a e => ez p1 p0 kk a e = U r) nofun (fun j j a e H => ?_) aI (0) (0) (H)) (ss [0, 1] z z) (c z)
   unfold ez at H
   refine E <| D <| C [.p, .fa 143 0 0 iu] z <| G z (r1 0 1 z bP z) <| C [.lenS 63 3 bB, .p] z <| P <| cI H z ?_ ?_ <;> intro H
   ·refine ai <| R <| E <| an <| E <| D <| C [.fa 143 0 0 iu] z <| G z (r1 0 1 z bP z) <| A z <| d H fun m m H => ix1 bB ty3 (g L) m z z <| bq H kO (fun _ m k l => bm k m) z tt2 fun m H => A z <| P <| cI H z ?_ ?_ <;> intro H
    ·exact D <| A z <| nT <| Z H ▸ xw z
    ·exact ai <| R <| aH <| C [.p, .fa 143 0 0 iu] z <| G z (r1 0 1 z bP z) <| A z <| d H fun m X H => ix1 bB ty3 (g L) X z z <| oPP z <| ay <| bR <| R <| aH <| C [.p, .p, .p] z <| ay <| bU (RW.at (j (J.wrap (a + m)) (J.wrap (e + 1)) (H)) (ss [0, 1] z z) (c z))
   ·refine aU <| aB <| aE <| aA <| R <| E <| D <| oPP z <| P <| cI H z ?_ ?_ <;> intro H
    ·exact D <| A z <| nT <| Z H ▸ xw z
    ·refine ai <| R <| E <| D <| C [.fa 143 1 1 eW] z <| G z (r1 1 1 z fw z) <| C [.lenS 34 63 eg, .p] z <| P <| cI H z ?_ ?_ <;> intro H
     ·exact D <| A z <| nT <| Z H ▸ xw z
     ·refine ai <| R <| E <| D <| C [.fa 143 1 1 eW] z <| G z (r1 1 1 z fw z) <| C [.lenS 34 63 eg, .fa 26 0 0 fu] z <| G z (r1 0 0 z nv z) <| C [.lenS 23 123 jN, .p] z <| P <| cI H z ?_ ?_ <;> intro H
      ·exact D <| A z <| nT <| Z H ▸ xw z
      ·refine ai <| R <| E <| D <| A z <| P <| an <| CW.at (dq (fun (a : Int) => Q w [] [b f 26 [S o p0.d_.length q, S s p0.f_.length t], b h 143 [S u p1.q_.length v, S x p1.l_.length F]]) (fun a => [(2, O (U ⟨f, 0, N⟩)), (3, O (U ⟨h, 0, N⟩)), (7, I J a)]) (fun kk => fun a => cW p1 p0 kk a = U r) nofun (fun k2 X a H => ?_) aI (0) (H)) (ss [0, 1] z z) (c z)
       unfold cW at H
       refine E <| D <| C [.p, .fa 143 1 1 eW] z <| G z (r1 1 1 z fw z) <| C [.lenS 34 63 eg, .p] z <| P <| cI H z ?_ ?_ <;> intro H
       ·refine ai <| R <| E <| an <| D <| C [.fa 26 0 0 fu] z <| G z (r1 0 0 z nv z) <| A z <| d H fun e j H => bu z z z z z jN cf z i j fun i i i j => ?_
        obtain ⟨m, a0, a1, a2, rfl, a3, a4⟩ := bJ i
        refine G z (cT (cs := [vS e.D_, S m e.x_.length a0, S a1 e.F_.length a2]) z z cf (bh bor j) z) <| bq H IY (fun _ e k l => rp k e (co z (g a3 k l) (g a4 k l))) z tt2 fun m H => A z <| P <| E <| E <| dP dC (by kernel_rfl) <| C [.fa 143 1 1 eW] z <| G z (r1 1 1 z fw z) <| A z <| d H fun e e H => bu z z z z z eg bP z T e fun e e e i => ?_
        obtain ⟨j, j, rfl⟩ := dz e
        refine G z (aT z z bP (bh bor i)) <| C [.lenS 63 3 bB, .p, .fa 26 1 1 lz] z <| G z (r1 1 0 z mZ z) <| C [.lenS 24 9 eo, .p, .p] z <| cQ <| R <| cI H z ?_ ?_ <;> intro H
        ·exact D <| A z <| nT <| Z H ▸ xw z
        ·refine ai <| R <| D <| A z <| P <| an <| CW.at (dq (fun (e : Int) => Q w [] [b f 26 [S o p0.d_.length q, S s p0.f_.length t], b h 143 [S u p1.q_.length v, S x p1.l_.length F]]) (fun e => [(2, O (U ⟨f, 0, N⟩)), (3, O (U ⟨h, 0, N⟩)), (7, I J a), (8, I J m), (9, I J e)]) (fun kk => fun e => bT p0 m p1 a (cW p1 p0 k2) kk e = U r) nofun (fun k3 a0 e H => ?_) aI (0) (H)) (ss [0, 1] z z) (c z)
         unfold bT at H
         refine E <| D <| C [.p, .fa 26 1 1 lz] z <| G z (r1 1 0 z mZ z) <| C [.lenS 24 9 eo, .p] z <| P <| cI H z ?_ ?_ <;> intro H
         ·refine ai <| R <| E <| an <| D <| A z <| P <| E <| D <| A z <| P <| an <| CW.at (fc (fun (i : Int) (j : Int) => Q w [] [b f 26 [S o p0.d_.length q, S s p0.f_.length t], b h 143 [S u p1.q_.length v, S x p1.l_.length F]]) (fun i j => [(2, O (U ⟨f, 0, N⟩)), (3, O (U ⟨h, 0, N⟩)), (7, I J a), (8, I J m), (9, I J e), (10, I J i), (11, I J j)]) (fun kk => fun i j => du m p1 a p0 e (bT p0 m p1 a (cW p1 p0 k2) k3) kk i j = U r) nofun (fun f m i j H => ?_) aI (0) (0) (H)) (ss [0, 1] z z) (c z)
          unfold du at H
          refine E <| D <| C [.p, .p, .p] z <| P <| cI H z ?_ ?_ <;> intro H
          ·refine ai <| R <| E <| an <| E <| dP dC (by kernel_rfl) <| C [.fa 143 1 1 eW] z <| G z (r1 1 1 z fw z) <| A z <| d H fun f f H => bu z z z z z eg bP z T f fun f f f h => ?_
           obtain ⟨o, o, rfl⟩ := dz f
           refine G z (aT z z bP (bh bor h)) <| C [.p, .fa 26 1 1 lz] z <| G z (r1 1 0 z mZ z) <| C [.lenS 24 9 eo, .p, .p, .p] z <| d H fun h o H => ix1 bB ty3 (g f) o z z <| A z <| cQ <| R <| E <| D <| A z <| bq H kO (fun _ f k l => bm k f) z tt2 fun f H => A z <| P <| cI H z ?_ ?_ <;> intro H
           ·exact D <| A z <| nT <| Z H ▸ xw z
           ·exact ai <| R <| aH <| C [.p, .p, .p, .p] z <| ay <| bR <| R <| aH <| C [.p, .p, .p] z <| ay <| bU (RW.at (m (J.wrap (i + h)) (J.wrap (j + 1)) (H)) (ss [0, 1] z z) (c z))
          ·refine aU <| aB <| aE <| aA <| R <| D <| C [.p, .fa 143 0 0 iu] z <| G z (r1 0 1 z bP z) <| A z <| d H fun f f H => ix1 bB ty3 (g L) f z z <| A z <| P <| cI H z ?_ ?_ <;> intro H
           ·exact D <| A z <| nT <| Z H ▸ xw z
           ·exact ai <| bR <| R <| aH <| C [.p, .p, .p] z <| ay <| bU (RW.at (a0 (J.wrap (e + 1)) (H)) (ss [0, 1] z z) (c z))
         ·exact aU <| aB <| aE <| aA <| bR <| R <| aH <| C [.p, .p, .p] z <| ay <| bU (RW.at (X (J.wrap (a + 1)) (H)) (ss [0, 1] z z) (c z))
       ·exact aU <| aB <| aE <| aA <| R <| D <| A z <| nT <| Z H ▸ xw z
 ·generalize (!M) = a at key ⊢
  cases a
  ·exact C [.fa 143 0 0 iu] z <| G z (r1 0 1 z bP z) <| C [.lenS 63 3 bB, .fa 26 1 1 lz] z <| G z (r1 1 0 z mZ z) <| C [.lenS 24 9 eo, .p] z <| A z <| OW.sub key (c z)
  ·exact C [.p, .p, .p, .p, .p, .p, .p, .p] z <| OW.sub key (c z)
theorem uD (w) {p0 p1 a e h f r} (H : nD p0 p1 = U r) (i : (bH).rd w [] p0 a) (l : (V eI 3).rd w [] p1 [S e h f]) :
    Calls Tryz.prog 197 #[.agg a.toArray, S e h f] w (fun en w' => en = .returned (B r) ∧ Ext [] w w') := by
 obtain ⟨m, o, q, s, rfl, a, k⟩ := bA i
 obtain rfl := dc l
 unfold nD at H
 refine ar Tryz.func197 z Tryz.ntmps197 z (St.init w []) <| D <| ob _ z fun h => A z <| P <| E <| D <| G z (rx 0 0 _ z el z) <| bq H Iy (fun _ t i j => gY i t (aw (g a i j) (g k i j))) z tt2 fun k H => oPP z <| cu2 [(1, S e p1.length f), (2, O (U ⟨h, 0, N⟩))] [(9, B (!k))] 4 (13, B ((!k) || ((p1.length : Int) == 0))) z ?_ fun key => ?_
 ·refine P <| cI H z ?_ ?_ <;> intro H
  ·exact D <| A z <| nT <| Z H ▸ xw z
  ·refine ai <| R <| E <| D <| A z <| P <| an <| CW.at (dq (fun (a : Int) => Q w [] [b h 26 [S m p0.d_.length o, S q p0.f_.length s]]) (fun a => [(1, S e p1.length f), (2, O (U ⟨h, 0, N⟩)), (5, I J a)]) (fun kk => fun a => jU p1 p0 kk a = U r) nofun (fun m m a H => ?_) aI (0) (H)) (ss [0] z z) (c z)
   unfold jU at H
   refine E <| D <| C [.p, .p, .lenS 63 3 bB, .p] z <| P <| cI H z ?_ ?_ <;> intro H
   ·refine ai <| R <| E <| an <| E <| dP dC (by kernel_rfl) <| oPP z <| d H fun o o H => ix1 bB ty3 (g l) o z z <| C [.fa 26 0 0 fu] z <| G z (r1 0 0 z nv z) <| C [.lenS 23 123 jN, .p] z <| bq H kO (fun _ o i j => bm i o) z tt2 fun i H => oPP z <| d H fun o j H => cu2 [(1, S e p1.length f), (2, O (U ⟨h, 0, N⟩)), (5, I J a)] [(30, B (!i))] 15 (45, B o) z ?_ fun key => ?_
    ·refine cQ <| R <| cI H z ?_ ?_ <;> intro H
     ·exact D <| A z <| nT <| Z H ▸ xw z
     ·exact ai <| bR <| R <| aH <| C [.p, .p, .p] z <| ay <| bU (RW.at (m (J.wrap (a + 1)) (H)) (ss [0] z z) (c z))
    ·have H := j
     generalize (!i) = i at H key ⊢
     cases i
     ·have H := aN z H
      refine C [.p, .p, .p] z <| d H fun j i H => cu2 [(1, S e p1.length f), (2, O (U ⟨h, 0, N⟩)), (5, I J a), (30, B n)] [(33, B (decide (a > 0)))] 11 (44, B j) z ?_ fun key => ?_
      ·refine C [.p] z ?_
       obtain rfl := Z H
       exact OW.sub key (c z)
      ·have H := i
       generalize (decide (a > 0)) = a at H key ⊢
       cases a
       ·have H := aN z H
        refine C [.p, .p, .p, .p, .p, .p, .p, .p, .p, .p, .p] z ?_
        obtain rfl := Z H
        exact OW.sub key (c z)
       ·have H := aO z H
        refine oPP z <| d H fun a a H => ix1 bB ty3 (g l) a z z <| C [.p, .p, .p] z <| d H fun a a H => ix1 bB ty3 (g l) a z z <| A z <| A z <| ?_
        obtain rfl := Z H
        exact OW.sub key (c z)
     ·have H := aO z H
      refine C [.p, .p, .p, .p, .p, .p, .p, .p, .p, .p, .p, .p, .p, .p, .p] z ?_
      obtain rfl := Z H
      exact OW.sub key (c z)
   ·exact aU <| aB <| aE <| aA <| R <| D <| A z <| nT <| Z H ▸ xw z
 ·generalize (!k) = a at key ⊢
  cases a
  ·exact C [.p, .lenS 63 3 bB, .p] z <| A z <| OW.sub key (c z)
  ·exact C [.p, .p, .p, .p] z <| OW.sub key (c z)
theorem xd (w) {p0 p1 a e r} (H : lN p0 p1 = U r) (f : (bH).rd w [] p0 a) (h : (cZ).rd w [] p1 e) :
    Calls Tryz.prog 198 #[.agg a.toArray, .agg e.toArray] w (fun en w' => en = .returned (I J r) ∧ Ext [] w w') := by
 obtain ⟨a, a, a, a, rfl, i, j⟩ := bA f
 obtain ⟨k, l, m, o, rfl, f, q⟩ := gR h
 unfold lN at H
 refine ar Tryz.func198 z Tryz.ntmps198 z (St.init w []) <| D <| ob _ z fun a => ob _ z fun h => A z <| P <| E <| D <| G z (rx 0 0 _ z el z) <| G z (rx 0 1 _ z vi z) <| bq H KT (fun _ s e a => qV e s (aw (g i e a) (g j e a)) (cu (g f e a) (g q e a))) z tt2 fun a H => A z <| P <| cI H z ?_ ?_ <;> intro H
 ·exact D <| A z <| nT <| Z H ▸ xw z
 ·refine ai <| R <| D <| A z <| P <| E <| D <| A z <| P <| an <| CW.at (fc (fun (a : Int) (e : Int) => Q w [] [b h 143 [S k p1.q_.length l, S m p1.l_.length o]]) (fun a e => [(3, O (U ⟨h, 0, N⟩)), (5, I J a), (6, I J e)]) (fun kk => fun a e => ib p1 kk a e = U r) nofun (fun h h a e H => ?_) aI (0) (0) (H)) (ss [1] z z) (c z)
  unfold ib at H
  refine E <| D <| C [.p, .fa 143 0 0 iu] z <| G z (r1 0 0 z bP z) <| C [.lenS 63 3 bB, .p] z <| P <| cI H z ?_ ?_ <;> intro H
  ·exact ai <| R <| E <| an <| aH <| C [.p, .fa 143 0 0 iu] z <| G z (r1 0 0 z bP z) <| A z <| d H fun i j H => ix1 bB ty3 (g f) j z z <| oPP z <| ay <| bR <| R <| aH <| C [.p, .p, .p] z <| ay <| bU (RW.at (h (J.wrap (a + i)) (J.wrap (e + 1)) (H)) (ss [0] z z) (c z))
  ·exact aU <| aB <| aE <| aA <| R <| D <| oPP z <| nT <| Z H ▸ xw z
theorem AR (w) {p0 p1 a e r} (H : lC p0 p1 = U r) (i : (bH).rd w [] p0 a) (l : (aQ).rd w [] p1 e) :
    Calls Tryz.prog 172 #[.agg a.toArray, .agg e.toArray] w (fun en w' => en = .returned (B r) ∧ Ext [] w w') := by
 obtain ⟨a, a, a, a, rfl, f, h⟩ := bA i
 obtain ⟨a, a, a, a, a, a, a, a, rfl, a, j, k, o⟩ := aY l
 unfold lC at H
 refine ar Tryz.func172 z Tryz.ntmps172 z (St.init w []) <| D <| ob _ z fun a => ob _ z fun e => A z <| P <| E <| D <| C [.fa 145 1 1 ip] z <| G z (rx 1 1 _ z sO z) <| G z (bv [] [I J 0, I J 0] z z sO LD z Y z) <| G z (Nc (xs := [I J p1.i_.t_, I J p1.i_.u_]) (ys := [I J 0, I J 0]) z z z (MH p1.i_.t_ 0 p1.i_.u_ 0)) <| A z <| cu2 [(2, O (U ⟨a, 0, N⟩)), (3, O (U ⟨e, 0, N⟩))] [(9, B (!(p1.i_.t_ == 0 && (p1.i_.u_ == 0 && y))))] 5 (14, B ((!(p1.i_.t_ == 0 && (p1.i_.u_ == 0 && y))) || (decide ((p1.v_.length : Int) > 0)))) z ?_ fun key => ?_
 ·refine A z <| cu2 [(2, O (U ⟨a, 0, N⟩)), (3, O (U ⟨e, 0, N⟩))] [(15, B ((!(p1.i_.t_ == 0 && (p1.i_.u_ == 0 && y))) || (decide ((p1.v_.length : Int) > 0))))] 4 (19, B (((!(p1.i_.t_ == 0 && (p1.i_.u_ == 0 && y))) || (decide ((p1.v_.length : Int) > 0))) || (p1.I_ != 0))) z ?_ fun key => ?_
  ·refine A z <| d H fun i l H => cu2 [(2, O (U ⟨a, 0, N⟩)), (3, O (U ⟨e, 0, N⟩))] [(20, B (((!(p1.i_.t_ == 0 && (p1.i_.u_ == 0 && y))) || (decide ((p1.v_.length : Int) > 0))) || (p1.I_ != 0)))] 6 (26, B i) z ?_ fun key => ?_
   ·refine A z <| d H fun q m H => cu2 [(2, O (U ⟨a, 0, N⟩)), (3, O (U ⟨e, 0, N⟩))] [(27, B i)] 6 (33, B q) z ?_ fun key => ?_
    ·refine P <| cI H z ?_ ?_ <;> intro H
     ·exact D <| A z <| nT <| Z H ▸ xw z
     ·refine ai <| R <| E <| D <| C [.fa 145 4 5 ea, .fa 143 1 1 eW] z <| G z (r1 6 1 z fw z) <| C [.lenS 34 63 eg, .p] z <| P <| cI H z ?_ ?_ <;> intro H
      ·exact D <| C [.fa 145 5 7 kw] z <| G z (r1 7 1 z ty3 z) <| oPP z <| nT <| Z H ▸ xw z
      ·exact ai <| R <| E <| dP dC (by kernel_rfl) <| C [.fa 145 5 7 kw] z <| G z (r1 7 1 z ty3 z) <| G z (rx 0 0 _ z el z) <| C [.fa 145 4 5 ea] z <| G z (rx 5 1 _ z vi z) <| bq H Rq (fun _ q e a => xd e q (aw (g f e a) (g h e a)) (cu (g j e a) (g k e a))) z tt2 fun q H => bq H kO (fun _ q e a => bm e q) z tt2 fun q H => A z <| cQ <| R <| sG <| Z H ▸ xw z
    ·have H := m
     generalize i = i at H key ⊢
     cases i
     ·have H := aN z H
      refine G z (rx 0 0 _ z el z) <| C [.fa 145 6 8 mv] z <| G z (r1 8 1 z bP z) <| bq H Ol (fun _ i e a => uD e i (aw (g f e a) (g h e a)) (g o e a)) z tt2 fun i H => A z <| A z <| ?_
      obtain rfl := Z H
      exact OW.sub key (c z)
     ·have H := aO z H
      refine C [.p, .p, .p, .p, .p, .p] z ?_
      obtain rfl := Z H
      exact OW.sub key (c z)
   ·have H := l
    generalize (((!(p1.i_.t_ == 0 && (p1.i_.u_ == 0 && y))) || (decide ((p1.v_.length : Int) > 0))) || (p1.I_ != 0)) = i at H key ⊢
    cases i
    ·have H := aN z H
     refine G z (rx 0 0 _ z el z) <| C [.fa 145 4 5 ea] z <| G z (rx 5 1 _ z vi z) <| bq H KT (fun _ i e a => qV e i (aw (g f e a) (g h e a)) (cu (g j e a) (g k e a))) z tt2 fun a H => A z <| A z <| ?_
     obtain rfl := Z H
     exact OW.sub key (c z)
    ·have H := aO z H
     refine C [.p, .p, .p, .p, .p, .p] z ?_
     obtain rfl := Z H
     exact OW.sub key (c z)
  ·generalize ((!(p1.i_.t_ == 0 && (p1.i_.u_ == 0 && y))) || (decide ((p1.v_.length : Int) > 0))) = a at key ⊢
   cases a
   ·exact C [.fa 145 3 4 lx] z <| G z (r1 4 1 z ty3 z) <| A z <| A z <| OW.sub key (c z)
   ·exact C [.p, .p, .p, .p] z <| OW.sub key (c z)
 ·generalize (!(p1.i_.t_ == 0 && (p1.i_.u_ == 0 && y))) = a at key ⊢
  cases a
  ·exact C [.fa 145 2 3 fP] z <| G z (r1 3 1 z bP z) <| C [.lenS 63 3 bB, .p] z <| A z <| OW.sub key (c z)
  ·exact C [.p, .p, .p, .p, .p] z <| OW.sub key (c z)
theorem vj (w) {p0 p1 a r} (H : oK p0 p1 = U r) (e : (bH).rd w [] p0 a) :
    Calls Tryz.prog 199 #[.agg a.toArray, .agg #[I J p1.t_, I J p1.u_]] w (fun en w' => en = .returned (B r) ∧ Ext [] w w') := by
 obtain ⟨a, a, a, a, rfl, f, h⟩ := bA e
 unfold oK at H
 refine ar Tryz.func199 z Tryz.ntmps199 z (St.init w []) <| D <| ob _ z fun k => ob _ z fun l => A z <| P <| E <| D <| G z (rx 0 0 _ z el z) <| bq H Iy (fun _ i a e => gY a i (aw (g f a e) (g h a e))) z tt2 fun i H => oPP z <| d H fun h j H => cu2 [(2, O (U ⟨k, 0, N⟩)), (3, O (U ⟨l, 0, N⟩))] [(8, B (!i))] 9 (17, B h) z ?_ fun key => ?_
 ·refine P <| cI H z ?_ ?_ <;> intro H
  ·exact D <| A z <| nT <| Z H ▸ xw z
  ·refine ai <| R <| E <| D <| C [.fa 26 0 0 fu] z <| G z (r1 0 0 z nv z) <| C [.fa 141 0 0 kx] z <| G z (r1 0 1 z ty3 z) <| d H fun h h H => bu z z z z z jN cf z f h fun h h h k => ?_
   obtain ⟨l, l, l, l, rfl, l, l⟩ := bJ h
   refine C [.fa 123 1 1 fJ] z <| G z (aT z z bP (bh bor (jO k 1 1))) <| C [.lenS 63 3 bB, .p] z <| P <| cI H z ?_ ?_ <;> intro H
   ·refine E <| dP dC (by kernel_rfl) <| C [.fa 141 1 1 mw] z <| G z (r1 1 1 z ty3 z) <| C [.fa 26 0 0 fu] z <| G z (r1 0 0 z nv z) <| C [.fa 141 0 0 kx] z <| G z (r1 0 1 z ty3 z) <| d H fun h k H => bu z z z z z jN cf z f k fun k k k l => ?_
    obtain ⟨m, o, q, s, rfl, t, u⟩ := bJ k
    exact G z (cT (cs := [vS h.D_, S m h.x_.length o, S q h.F_.length s]) z z cf (bh bor l) z) <| bq H IY (fun _ h a e => rp a h (co z (g t a e) (g u a e))) z tt2 fun h H => A z <| bq H kO (fun _ h a e => bm a h) z tt2 fun h H => A z <| cQ <| R <| sG <| Z H ▸ xw z
   ·refine ai <| R <| E <| dP dC (by kernel_rfl) <| C [.fa 141 1 1 mw] z <| G z (r1 1 1 z ty3 z) <| C [.fa 26 0 0 fu] z <| G z (r1 0 0 z nv z) <| C [.fa 141 0 0 kx] z <| G z (r1 0 1 z ty3 z) <| d H fun h k H => bu z z z z z jN cf z f k fun f f f k => ?_
    obtain ⟨l, m, o, q, rfl, s, t⟩ := bJ f
    exact G z (cT (cs := [vS h.D_, S l h.x_.length m, S o h.F_.length q]) z z cf (bh bor k) z) <| bq H IY (fun _ f a e => rp a f (co z (g s a e) (g t a e))) z tt2 fun f H => A z <| bq H kO (fun _ f a e => bm a f) z tt2 fun f H => A z <| cQ <| R <| sG <| Z H ▸ xw z
 ·have H := j
  generalize (!i) = f at H key ⊢
  cases f
  ·have H := aN z H
   refine C [.fa 141 0 0 kx] z <| G z (r1 0 1 z ty3 z) <| C [.fa 26 0 0 fu] z <| G z (r1 0 0 z nv z) <| C [.lenS 23 123 jN, .p] z <| bq H kO (fun _ f a e => bm a f) z tt2 fun a H => A z <| A z <| ?_
   obtain rfl := Z H
   exact OW.sub key (c z)
  ·have H := aO z H
   refine C [.p, .p, .p, .p, .p, .p, .p, .p, .p] z ?_
   obtain rfl := Z H
   exact OW.sub key (c z)
theorem zE (w) {p0 p1 a r} (H : oe p0 p1 = U r) (e : (bH).rd w [] p0 a) :
    Calls Tryz.prog 200 #[.agg a.toArray, .agg #[I J p1.t_, I J p1.u_]] w (fun en w' => en = .returned (I J r) ∧ Ext [] w w') := by
 obtain ⟨a, a, a, a, rfl, h, f⟩ := bA e
 unfold oe at H
 refine ar Tryz.func200 z Tryz.ntmps200 z (St.init w []) <| D <| ob _ z fun a => ob _ z fun a => A z <| P <| E <| D <| G z (rx 0 0 _ z el z) <| G z (rx 0 1 _ z sO z) <| bq H OF (fun _ i e a => vj e (p1 := p1) i (aw (g h e a) (g f e a))) z tt2 fun f H => A z <| P <| cI H z ?_ ?_ <;> intro H
 ·exact D <| A z <| nT <| Z H ▸ xw z
 ·refine ai <| R <| E <| D <| C [.fa 141 1 1 mw] z <| G z (r1 1 1 z ty3 z) <| A z <| P <| cI H z ?_ ?_ <;> intro H
  ·refine D <| C [.fa 26 0 0 fu] z <| G z (r1 0 0 z nv z) <| C [.fa 141 0 0 kx] z <| G z (r1 0 1 z ty3 z) <| d H fun f i H => bu z z z z z jN cf z h i fun h h h i => ?_
   obtain ⟨j, k, l, m, rfl, o, p⟩ := bJ h
   exact G z (cT (cs := [vS f.D_, S j f.x_.length k, S l f.F_.length m]) z z cf (bh bor i) z) <| bq H IY (fun _ f e a => rp e f (co z (g o e a) (g p e a))) z tt2 fun a H => A z <| nT <| Z H ▸ xw z
  ·exact ai <| R <| D <| A z <| nT <| Z H ▸ xw z
theorem zx (w) {p0 p1 l a e r} (H : kr p0 p1 l = U r) (f : (bH).rd w [] p0 a) (h : (bz).rd w [] p1 e) :
    Calls Tryz.prog 173 #[.agg a.toArray, .agg e.toArray, I J l] w (fun en w' => en = .returned (B r) ∧ Ext [] w w') := by
 obtain ⟨a, a, a, a, rfl, o, q⟩ := bA f
 obtain ⟨a6, a7, rfl, a0⟩ := cj h
 unfold kr at H
 refine ar Tryz.func173 z Tryz.ntmps173 z (St.init w []) <| D <| ob _ z fun f => ob _ z fun i => A z <| nR <| C [.fa 69 0 0 dD] z <| G z (r1 0 1 z ks z) <| A z <| d H fun a e H => bu z z z z z eN bp z a0 e fun e e e h => ?_
 obtain ⟨m, t, u, v, x, F, L, M, rfl, s, a8, a9, b0⟩ := aY e
 refine G z (cT (cs := [B a.B_, I J a.i_.t_, I J a.i_.u_, S m a.v_.length t, I J a.I_, S u a.k_.q_.length v, S x a.k_.l_.length F, I J a.J_, S L a.d_.length M, I J a.h_, I J a.A_, I J a.G_]) z z bp (bh bor h) z) <| bn z z z z bp (fun _ => kp) fun j => sC 0 [B a.B_, I J a.i_.t_, I J a.i_.u_, S m a.v_.length t, I J a.I_, S u a.k_.q_.length v, S x a.k_.l_.length F, I J a.J_, S L a.d_.length M, I J a.h_, I J a.A_, I J a.G_] [_, _, _, _, _, _, _, _, _, _, _, _] 2 z bp z <| P <| E <| E <| dP dC (by kernel_rfl) <| G z (rx 0 0 _ z el z) <| C [.fa 145 1 1 ip] z <| G z (rx 1 2 _ z sO z) <| bq H OF (fun _ k h e => vj h (p1 := a.i_) k (aw (g o h e) (g q h e))) z tt2 fun a1 H => oPP z <| d H fun T a2 H => cu2 [(2, I J l), (3, O (U ⟨f, 0, N⟩)), (4, O (U ⟨i, 0, N⟩)), (7, O (U ⟨j, 0, N⟩))] [(19, B (!a1))] 9 (28, B T) z ?_ fun key => ?_
 ·refine A z <| d H fun X a3 H => cu2 [(2, I J l), (3, O (U ⟨f, 0, N⟩)), (4, O (U ⟨i, 0, N⟩)), (7, O (U ⟨j, 0, N⟩))] [(29, B T)] 9 (38, B X) z ?_ fun key => ?_
  ·refine A z <| d H fun k a4 H => cu2 [(2, I J l), (3, O (U ⟨f, 0, N⟩)), (4, O (U ⟨i, 0, N⟩)), (7, O (U ⟨j, 0, N⟩))] [(39, B X)] 6 (45, B k) z ?_ fun key => ?_
   ·refine A z <| cu2 [(2, I J l), (3, O (U ⟨f, 0, N⟩)), (4, O (U ⟨i, 0, N⟩)), (7, O (U ⟨j, 0, N⟩))] [(46, B k)] 6 (52, B (k || (decide ((a.k_.l_.length : Int) > 0)))) z ?_ fun key => ?_
    ·refine A z <| cu2 [(2, I J l), (3, O (U ⟨f, 0, N⟩)), (4, O (U ⟨i, 0, N⟩)), (7, O (U ⟨j, 0, N⟩))] [(53, B (k || (decide ((a.k_.l_.length : Int) > 0))))] 4 (57, B ((k || (decide ((a.k_.l_.length : Int) > 0))) || (a.J_ != 0))) z ?_ fun key => ?_
     ·refine A z <| d H fun b1 a5 H => cu2 [(2, I J l), (4, O (U ⟨i, 0, N⟩)), (7, O (U ⟨j, 0, N⟩))] [(3, O (U ⟨f, 0, N⟩)), (58, B ((k || (decide ((a.k_.l_.length : Int) > 0))) || (a.J_ != 0)))] 6 (64, B b1) z ?_ fun key => ?_
      ·refine cQ <| R <| cI H z ?_ ?_ <;> intro H
       ·exact D <| A z <| nT <| Z H ▸ xw z
       ·refine ai <| R <| E <| D <| A z <| P <| an <| CW.at (dq (fun (f : Int) => Q w [] [b i 69 [S a6 p1.e_.length a7, I J p1.y_], b j 145 [B a.B_, I J a.i_.t_, I J a.i_.u_, S m a.v_.length t, I J a.I_, S u a.k_.q_.length v, S x a.k_.l_.length F, I J a.J_, S L a.d_.length M, I J a.h_, I J a.A_, I J a.G_]]) (fun f => [(2, I J l), (4, O (U ⟨i, 0, N⟩)), (7, O (U ⟨j, 0, N⟩)), (8, I J f)]) (fun kk => fun f => jq a l p1 kk f = U r) nofun (fun m x f H => ?_) aI (0) (H)) (ss [1, 2] z z) (c z)
        unfold jq at H
        refine E <| D <| C [.p, .fa 145 2 3 fP] z <| G z (r1 3 1 z bP z) <| C [.lenS 63 3 bB, .p] z <| P <| cI H z ?_ ?_ <;> intro H
        ·refine ai <| R <| E <| an <| E <| dP dC (by kernel_rfl) <| C [.fa 145 2 3 fP] z <| G z (r1 3 1 z bP z) <| A z <| d H fun m m H => ix1 bB ty3 (g s) m z z <| C [.p, .p, .fa 69 0 0 dD] z <| G z (r1 0 0 z ks z) <| C [.lenS 67 145 eN, .p] z <| bq H kO (fun _ m h e => bm h m) z tt2 fun t H => oPP z <| d H fun m u H => cu2 [(2, I J l), (4, O (U ⟨i, 0, N⟩)), (7, O (U ⟨j, 0, N⟩)), (8, I J f)] [(85, B (!t))] 13 (98, B m) z ?_ fun key => ?_
         ·refine A z <| d H fun F v H => cu2 [(2, I J l), (4, O (U ⟨i, 0, N⟩)), (7, O (U ⟨j, 0, N⟩)), (8, I J f)] [(99, B m)] 17 (116, B F) z ?_ fun key => ?_
          ·refine cQ <| R <| cI H z ?_ ?_ <;> intro H
           ·exact D <| A z <| nT <| Z H ▸ xw z
           ·exact ai <| bR <| R <| aH <| C [.p, .p, .p] z <| ay <| bU (RW.at (x (J.wrap (f + 1)) (H)) (ss [0, 1] z z) (c z))
          ·have H := v
           generalize m = m at H key ⊢
           cases m
           ·have H := aN z H
            refine C [.p, .p, .p] z <| d H fun v m H => cu2 [(2, I J l), (4, O (U ⟨i, 0, N⟩)), (7, O (U ⟨j, 0, N⟩)), (8, I J f), (99, B n)] [(102, B (decide (f > 0)))] 13 (115, B v) z ?_ fun key => ?_
            ·refine C [.p] z ?_
             obtain rfl := Z H
             exact OW.sub key (c z)
            ·have H := m
             generalize (decide (f > 0)) = f at H key ⊢
             cases f
             ·have H := aN z H
              refine C [.p, .p, .p, .p, .p, .p, .p, .p, .p, .p, .p, .p, .p] z ?_
              obtain rfl := Z H
              exact OW.sub key (c z)
             ·have H := aO z H
              refine C [.fa 145 2 3 fP] z <| G z (r1 3 1 z bP z) <| A z <| d H fun f f H => ix1 bB ty3 (g s) f z z <| C [.fa 145 2 3 fP] z <| G z (r1 3 1 z bP z) <| oPP z <| d H fun f f H => ix1 bB ty3 (g s) f z z <| A z <| A z <| ?_
              obtain rfl := Z H
              exact OW.sub key (c z)
           ·have H := aO z H
            refine C [.p, .p, .p, .p, .p, .p, .p, .p, .p, .p, .p, .p, .p, .p, .p, .p, .p] z ?_
            obtain rfl := Z H
            exact OW.sub key (c z)
         ·have H := u
          generalize (!t) = f at H key ⊢
          cases f
          ·have H := aN z H
           refine C [.fa 69 0 0 dD] z <| G z (r1 0 0 z ks z) <| C [.fa 145 2 3 fP] z <| G z (r1 3 1 z bP z) <| A z <| d H fun f f H => ix1 bB ty3 (g s) f z z <| d H fun f f H => bu z z z z z eN bp z a0 f fun f f f i => ?_
           obtain ⟨j, j, j, j, j, j, j, j, rfl, j, j, j, j⟩ := aY f
           refine C [.fa 145 8 10 iW] z <| G z (aT z z ty3 (bh bor (jO i 10 1))) <| oPP z <| A z <| ?_
           obtain rfl := Z H
           exact OW.sub key (c z)
          ·have H := aO z H
           refine C [.p, .p, .p, .p, .p, .p, .p, .p, .p, .p, .p, .p, .p] z ?_
           obtain rfl := Z H
           exact OW.sub key (c z)
        ·exact aU <| aB <| aE <| aA <| R <| D <| A z <| nT <| Z H ▸ xw z
      ·have H := a5
       generalize ((k || (decide ((a.k_.l_.length : Int) > 0))) || (a.J_ != 0)) = f at H key ⊢
       cases f
       ·have H := aN z H
        refine G z (rx 0 0 _ z el z) <| C [.fa 145 6 8 mv] z <| G z (r1 8 2 z bP z) <| bq H Ol (fun _ f h e => uD h f (aw (g o h e) (g q h e)) (g b0 h e)) z tt2 fun f H => A z <| A z <| ?_
        obtain rfl := Z H
        exact OW.sub key (c z)
       ·have H := aO z H
        refine C [.p, .p, .p, .p, .p, .p] z ?_
        obtain rfl := Z H
        exact OW.sub key (c z)
     ·generalize (k || (decide ((a.k_.l_.length : Int) > 0))) = f at key ⊢
      cases f
      ·exact C [.fa 145 5 7 kw] z <| G z (r1 7 2 z ty3 z) <| A z <| A z <| OW.sub key (c z)
      ·exact C [.p, .p, .p, .p] z <| OW.sub key (c z)
    ·generalize k = f at key ⊢
     cases f
     ·exact C [.fa 145 4 5 ea, .fa 143 1 1 eW] z <| G z (r1 6 2 z fw z) <| C [.lenS 34 63 eg, .p] z <| A z <| OW.sub key (c z)
     ·exact C [.p, .p, .p, .p, .p, .p] z <| OW.sub key (c z)
   ·have H := a4
    generalize X = f at H key ⊢
    cases f
    ·have H := aN z H
     refine G z (rx 0 0 _ z el z) <| C [.fa 145 4 5 ea] z <| G z (rx 5 2 _ z vi z) <| bq H KT (fun _ f h e => qV h f (aw (g o h e) (g q h e)) (cu (g a8 h e) (g a9 h e))) z tt2 fun f H => A z <| A z <| ?_
     obtain rfl := Z H
     exact OW.sub key (c z)
    ·have H := aO z H
     refine C [.p, .p, .p, .p, .p, .p] z ?_
     obtain rfl := Z H
     exact OW.sub key (c z)
  ·have H := a3
   generalize T = f at H key ⊢
   cases f
   ·have H := aN z H
    refine C [.fa 145 3 4 lx] z <| G z (r1 4 2 z ty3 z) <| C [.fa 145 2 3 fP] z <| G z (r1 3 2 z bP z) <| C [.lenS 63 3 bB, .p] z <| bq H kO (fun _ f h e => bm h f) z tt2 fun f H => A z <| A z <| ?_
    obtain rfl := Z H
    exact OW.sub key (c z)
   ·have H := aO z H
    refine C [.p, .p, .p, .p, .p, .p, .p, .p, .p] z ?_
    obtain rfl := Z H
    exact OW.sub key (c z)
 ·have H := a2
  generalize (!a1) = f at H key ⊢
  cases f
  ·have H := aN z H
   refine C [.fa 145 2 3 fP] z <| G z (r1 3 2 z bP z) <| C [.lenS 63 3 bB] z <| G z (rx 0 0 _ z el z) <| C [.fa 145 1 1 ip] z <| G z (rx 1 2 _ z sO z) <| bq H Sg (fun _ f h e => zE h (p1 := a.i_) f (aw (g o h e) (g q h e))) z tt2 fun a H => A z <| A z <| ?_
   obtain rfl := Z H
   exact OW.sub key (c z)
  ·have H := aO z H
   refine C [.p, .p, .p, .p, .p, .p, .p, .p, .p] z ?_
   obtain rfl := Z H
   exact OW.sub key (c z)
theorem zt (w) {p0 p1 e a f r} (H : oh p0 p1 = U r) (h : (V eI 3).rd w [] p0 [S e a f]) :
    Calls Tryz.prog 174 #[S e a f, I J p1] w (fun en w' => en = .returned (B r) ∧ Ext [] w w') := by
 obtain rfl := dc h
 unfold oh at H
 refine ar Tryz.func174 z Tryz.ntmps174 z (St.init w []) <| D <| A z <| P <| E <| D <| A z <| P <| an <| CW.at (dq (fun (a : Int) => Q w [] []) (fun a => [(0, S e p0.length f), (1, I J p1), (5, I J a)]) (fun kk => fun a => dj p0 p1 kk a = U r) nofun (fun e e a H => ?_) aI (0) (H)) (ss [] z z) (c z)
 unfold dj at H
 refine E <| D <| C [.p, .p, .lenS 63 3 bB, .p] z <| P <| cI H z ?_ ?_ <;> intro H
 ·refine ai <| R <| E <| an <| D <| oPP z <| d H fun f f H => ix1 bB ty3 (g h) f z z <| oPP z <| P <| cI H z ?_ ?_ <;> intro H
  ·exact D <| A z <| nT <| Z H ▸ xw z
  ·exact ai <| bR <| R <| aH <| C [.p, .p, .p] z <| ay <| bU (RW.at (e (J.wrap (a + 1)) (H)) (ss [] z z) (c z))
 ·exact aU <| aB <| aE <| aA <| R <| D <| A z <| nT <| Z H ▸ xw z
theorem BI (w) {p0 p1 a e r} (H : qD p0 p1 = U r) (f : (bH).rd w [] p0 a) (h : (bz).rd w [] p1 e) :
    Calls Tryz.prog 152 #[.agg a.toArray, .agg e.toArray] w (fun en w' => en = .returned (B r) ∧ Ext [] w w') := by
 obtain ⟨a, e, l, m, rfl, s, t⟩ := bA f
 obtain ⟨o, q, rfl, u⟩ := cj h
 unfold qD at H
 refine ar Tryz.func152 z Tryz.ntmps152 z (St.init w []) <| D <| ob _ z fun j => ob _ z fun k => A z <| P <| E <| D <| G z (rx 0 0 _ z el z) <| bq H Iy (fun _ f i h => gY i f (aw (g s i h) (g t i h))) z tt2 fun a8 H => oPP z <| d H fun v a9 H => cu2 [(2, O (U ⟨j, 0, N⟩)), (3, O (U ⟨k, 0, N⟩))] [(11, B (!a8))] 6 (17, B v) z ?_ fun key => ?_
 ·refine A z <| d H fun f b0 H => cu2 [(2, O (U ⟨j, 0, N⟩)), (3, O (U ⟨k, 0, N⟩))] [(18, B v)] 5 (23, B f) z ?_ fun key => ?_
  ·refine P <| cI H z ?_ ?_ <;> intro H
   ·exact D <| A z <| nT <| Z H ▸ xw z
   ·refine ai <| R <| E <| D <| A z <| P <| an <| CW.at (dq (fun (f : Int) => Q w [] [b j 26 [S a p0.d_.length e, S l p0.f_.length m], b k 69 [S o p1.e_.length q, I J p1.y_]]) (fun f => [(2, O (U ⟨j, 0, N⟩)), (3, O (U ⟨k, 0, N⟩)), (5, I J f)]) (fun kk => fun f => ew p1 p0 kk f = U r) nofun (fun a F f H => ?_) aI (0) (H)) (ss [0, 1] z z) (c z)
    unfold ew at H
    refine E <| D <| C [.p, .fa 69 0 0 dD] z <| G z (r1 0 1 z ks z) <| C [.lenS 67 145 eN, .p] z <| P <| cI H z ?_ ?_ <;> intro H
    ·refine ai <| R <| E <| an <| D <| C [.fa 69 0 0 dD] z <| G z (r1 0 1 z ks z) <| A z <| d H fun a e H => bu z z z z z eN bp z u e fun e e l a0 => ?_
     obtain ⟨e, m, o, q, L, M, T, X, rfl, b1, b2, b3, b4⟩ := aY l
     refine G z (cT (cs := [B a.B_, I J a.i_.t_, I J a.i_.u_, S e a.v_.length m, I J a.I_, S o a.k_.q_.length q, S L a.k_.l_.length M, I J a.J_, S T a.d_.length X, I J a.h_, I J a.A_, I J a.G_]) z z bp (bh bor a0) z) <| bn z z z z bp (fun _ => kp) fun l => sC 0 [B a.B_, I J a.i_.t_, I J a.i_.u_, S e a.v_.length m, I J a.I_, S o a.k_.q_.length q, S L a.k_.l_.length M, I J a.J_, S T a.d_.length X, I J a.h_, I J a.A_, I J a.G_] [_, _, _, _, _, _, _, _, _, _, _, _] 2 z bp z <| P <| E <| D <| C [.fa 145 7 9 gC] z <| G z (r1 9 2 z ty3 z) <| bq H kO (fun _ e i h => bm i e) z tt2 fun L H => oPP z <| d H fun e a4 H => cu2 [(2, O (U ⟨j, 0, N⟩)), (3, O (U ⟨k, 0, N⟩)), (5, I J f), (6, O (U ⟨l, 0, N⟩))] [(40, B (!L))] 7 (47, B e) z ?_ fun key => ?_
     ·refine P <| cI H z ?_ ?_ <;> intro H
      ·exact D <| A z <| nT <| Z H ▸ xw z
      ·refine ai <| R <| E <| D <| C [.fa 145 0 0 ln] z <| G z (r1 0 2 z ty4 z) <| A z <| d H fun o a5 H => cu2 [(2, O (U ⟨j, 0, N⟩)), (3, O (U ⟨k, 0, N⟩)), (5, I J f), (6, O (U ⟨l, 0, N⟩))] [(50, B a.B_)] 5 (55, B o) z ?_ fun key => ?_
       ·refine A z <| d H fun e a6 H => cu2 [(2, O (U ⟨j, 0, N⟩)), (3, O (U ⟨k, 0, N⟩)), (5, I J f), (6, O (U ⟨l, 0, N⟩))] [(56, B o)] 11 (67, B e) z ?_ fun key => ?_
        ·refine P <| cI H z ?_ ?_ <;> intro H
         ·exact D <| A z <| nT <| Z H ▸ xw z
         ·refine ai <| R <| E <| D <| oPP z <| P <| cI H z ?_ ?_ <;> intro H
          ·refine E <| D <| C [.fa 145 8 10 iW] z <| G z (r1 10 2 z ty3 z) <| oPP z <| cu2 [(2, O (U ⟨j, 0, N⟩)), (3, O (U ⟨k, 0, N⟩)), (5, I J f), (6, O (U ⟨l, 0, N⟩))] [(73, B (a.A_ != (-1)))] 4 (77, B ((a.A_ != (-1)) || (a.h_ != 0))) z ?_ fun key => ?_
           ·refine A z <| cu2 [(2, O (U ⟨j, 0, N⟩)), (3, O (U ⟨k, 0, N⟩)), (5, I J f)] [(6, O (U ⟨l, 0, N⟩)), (78, B ((a.A_ != (-1)) || (a.h_ != 0)))] 4 (82, B (((a.A_ != (-1)) || (a.h_ != 0)) || (a.G_ != 0))) z ?_ fun key => ?_
            ·refine P <| cI H z ?_ ?_ <;> intro H
             ·exact D <| A z <| nT <| Z H ▸ xw z
             ·exact ai <| R <| aU <| aB <| aA <| R <| aH <| C [.p, .p, .p] z <| ay <| bU (RW.at (F (J.wrap (f + 1)) (H)) (ss [0, 1] z z) (c z))
            ·generalize ((a.A_ != (-1)) || (a.h_ != 0)) = e at key ⊢
             cases e
             ·exact C [.fa 145 9 11 iY] z <| G z (r1 11 2 z ty3 z) <| A z <| A z <| OW.sub key (c z)
             ·exact C [.p, .p, .p, .p] z <| OW.sub key (c z)
           ·generalize (a.A_ != (-1)) = e at key ⊢
            cases e
            ·exact C [.fa 145 7 9 gC] z <| G z (r1 9 2 z ty3 z) <| A z <| A z <| OW.sub key (c z)
            ·exact C [.p, .p, .p, .p] z <| OW.sub key (c z)
          ·refine ai <| R <| E <| D <| C [.fa 145 8 10 iW] z <| G z (r1 10 2 z ty3 z) <| oPP z <| bq H kO (fun _ e i h => bm i e) z tt2 fun e H => A z <| P <| cI H z ?_ ?_ <;> intro H
           ·exact D <| A z <| nT <| Z H ▸ xw z
           ·refine ai <| R <| D <| C [.fa 69 0 0 dD] z <| G z (r1 0 1 z ks z) <| C [.fa 145 8 10 iW] z <| G z (r1 10 2 z ty3 z) <| d H fun e m H => bu z z z z z eN bp z u m fun m m q a7 => ?_
            obtain ⟨m, M, T, X, a0, a1, a2, a3, rfl, b5, b6, b6, b6⟩ := aY q
            refine G z (cT (cs := [B e.B_, I J e.i_.t_, I J e.i_.u_, S m e.v_.length M, I J e.I_, S T e.k_.q_.length X, S a0 e.k_.l_.length a1, I J e.J_, S a2 e.d_.length a3, I J e.h_, I J e.A_, I J e.G_]) z z bp (bh bor a7) z) <| bn z z z z bp (fun _ => kp) fun q => sC 0 [B e.B_, I J e.i_.t_, I J e.i_.u_, S m e.v_.length M, I J e.I_, S T e.k_.q_.length X, S a0 e.k_.l_.length a1, I J e.J_, S a2 e.d_.length a3, I J e.h_, I J e.A_, I J e.G_] [_, _, _, _, _, _, _, _, _, _, _, _] 3 z bp z <| nR <| C [.fa 145 0 0 ln] z <| G z (r1 0 3 z ty4 z) <| A z <| d H fun m M H => cu2 [(2, O (U ⟨j, 0, N⟩)), (3, O (U ⟨k, 0, N⟩)), (5, I J f), (6, O (U ⟨l, 0, N⟩)), (7, O (U ⟨q, 0, N⟩))] [(97, B e.B_)] 6 (103, B m) z ?_ fun key => ?_
            ·refine A z <| cu2 [(2, O (U ⟨j, 0, N⟩)), (3, O (U ⟨k, 0, N⟩)), (5, I J f), (6, O (U ⟨l, 0, N⟩)), (7, O (U ⟨q, 0, N⟩))] [(104, B m)] 7 (111, B (m || ((J.wrap (e.h_ + 1)) != a.h_))) z ?_ fun key => ?_
             ·refine A z <| cu2 [(2, O (U ⟨j, 0, N⟩)), (3, O (U ⟨k, 0, N⟩)), (5, I J f)] [(6, O (U ⟨l, 0, N⟩)), (7, O (U ⟨q, 0, N⟩)), (112, B (m || ((J.wrap (e.h_ + 1)) != a.h_)))] 6 (118, B ((m || ((J.wrap (e.h_ + 1)) != a.h_)) || (decide (e.G_ > a.G_)))) z ?_ fun key => ?_
              ·refine P <| cI H z ?_ ?_ <;> intro H
               ·exact D <| A z <| nT <| Z H ▸ xw z
               ·exact ai <| bR <| R <| aH <| C [.p, .p, .p] z <| ay <| bU (RW.at (F (J.wrap (f + 1)) (H)) (ss [0, 1] z z) (c z))
              ·generalize (m || ((J.wrap (e.h_ + 1)) != a.h_)) = q at key ⊢
               cases q
               ·exact C [.fa 145 9 11 iY] z <| G z (r1 11 3 z ty3 z) <| C [.fa 145 9 11 iY] z <| G z (r1 11 2 z ty3 z) <| A z <| A z <| OW.sub key (c z)
               ·exact C [.p, .p, .p, .p, .p, .p] z <| OW.sub key (c z)
             ·generalize m = m at key ⊢
              cases m
              ·exact C [.fa 145 7 9 gC] z <| G z (r1 9 3 z ty3 z) <| C [.p, .fa 145 7 9 gC] z <| G z (r1 9 2 z ty3 z) <| A z <| A z <| OW.sub key (c z)
              ·exact C [.p, .p, .p, .p, .p, .p, .p] z <| OW.sub key (c z)
            ·have H := M
             generalize e.B_ = e at H key ⊢
             cases e
             ·have H := aN z H
              refine C [.fa 145 2 3 fP] z <| G z (r1 3 3 z bP z) <| A z <| bq H Qk (fun _ e i h => zt i e (g b5 i h)) z tt2 fun e H => A z <| A z <| ?_
              obtain rfl := Z H
              exact OW.sub key (c z)
             ·have H := aO z H
              refine C [.p, .p, .p, .p, .p, .p] z ?_
              obtain rfl := Z H
              exact OW.sub key (c z)
        ·have H := a6
         generalize o = e at H key ⊢
         cases e
         ·have H := aN z H
          refine C [.fa 145 0 0 ln] z <| G z (r1 0 2 z ty4 z) <| oPP z <| d H fun m e H => cu2 [(2, O (U ⟨j, 0, N⟩)), (3, O (U ⟨k, 0, N⟩)), (5, I J f), (6, O (U ⟨l, 0, N⟩)), (56, B n)] [(60, B (!a.B_))] 6 (66, B m) z ?_ fun key => ?_
          ·refine C [.p] z ?_
           obtain rfl := Z H
           exact OW.sub key (c z)
          ·have H := e
           generalize (!a.B_) = e at H key ⊢
           cases e
           ·have H := aN z H
            refine C [.p, .p, .p, .p, .p, .p] z ?_
            obtain rfl := Z H
            exact OW.sub key (c z)
           ·have H := aO z H
            refine G z (rx 0 0 _ z el z) <| G z (rx 0 1 _ z jb z) <| A z <| bq H RY (fun _ e i h => zx i e (aw (g s i h) (g t i h)) (bg (g u i h) z)) z tt2 fun e H => A z <| A z <| ?_
            obtain rfl := Z H
            exact OW.sub key (c z)
         ·have H := aO z H
          refine C [.p, .p, .p, .p, .p, .p, .p, .p, .p, .p, .p] z ?_
          obtain rfl := Z H
          exact OW.sub key (c z)
       ·have H := a5
        generalize a.B_ = e at H key ⊢
        cases e
        ·have H := aN z H
         refine C [.p, .p, .p, .p, .p] z ?_
         obtain rfl := Z H
         exact OW.sub key (c z)
        ·have H := aO z H
         refine G z (rx 0 0 _ z el z) <| G z (rx 0 2 _ z bp z) <| bq H Qj (fun _ e i h => AR i e (aw (g s i h) (g t i h)) (gx (x := ({ a with B_ := y })) z z (g b1 i h) z (cu (g b2 i h) (g b3 i h)) z (g b4 i h) z z z)) z tt2 fun a H => A z <| A z <| ?_
         obtain rfl := Z H
         exact OW.sub key (c z)
     ·have H := a4
      generalize (!L) = a at H key ⊢
      cases a
      ·have H := aN z H
       refine C [.fa 145 9 11 iY] z <| G z (r1 11 2 z ty3 z) <| C [.fa 69 1 1 nH] z <| G z (r1 1 1 z ty3 z) <| bq H kO (fun _ a i h => bm i a) z tt2 fun a H => A z <| A z <| ?_
       obtain rfl := Z H
       exact OW.sub key (c z)
      ·have H := aO z H
       refine C [.p, .p, .p, .p, .p, .p, .p] z ?_
       obtain rfl := Z H
       exact OW.sub key (c z)
    ·exact aU <| aB <| aE <| aA <| R <| D <| A z <| nT <| Z H ▸ xw z
  ·have H := b0
   generalize v = a at H key ⊢
   cases a
   ·have H := aN z H
    refine C [.fa 69 1 1 nH] z <| G z (r1 1 1 z ty3 z) <| bq H kO (fun _ a i h => bm i a) z tt2 fun a H => A z <| A z <| ?_
    obtain rfl := Z H
    exact OW.sub key (c z)
   ·have H := aO z H
    refine C [.p, .p, .p, .p, .p] z ?_
    obtain rfl := Z H
    exact OW.sub key (c z)
 ·have H := a9
  generalize (!a8) = a at H key ⊢
  cases a
  ·have H := aN z H
   refine C [.fa 69 0 0 dD] z <| G z (r1 0 1 z ks z) <| C [.lenS 67 145 eN] z <| bq H kO (fun _ a i h => bm i a) z tt2 fun a H => A z <| A z <| ?_
   obtain rfl := Z H
   exact OW.sub key (c z)
  ·have H := aO z H
   refine C [.p, .p, .p, .p, .p, .p] z ?_
   obtain rfl := Z H
   exact OW.sub key (c z)
theorem AN (w) {p0 a r} (H : pD p0 = U r) (e : (bz).rd w [] p0 a) :
    Calls Tryz.prog 153 #[.agg a.toArray] w (fun en w' => en = .returned (I J r) ∧ Ext [] w w') := by
 obtain ⟨h, i, rfl, k⟩ := cj e
 unfold pD at H
 refine ar Tryz.func153 z Tryz.ntmps153 z (St.init w []) <| D <| ob _ z fun f => A z <| nR <| A z <| P <| E <| D <| A z <| P <| an <| CW.at (fc (fun (e : Int) (a : Int) => Q w [] [b f 69 [S h p0.e_.length i, I J p0.y_]]) (fun e a => [(1, O (U ⟨f, 0, N⟩)), (3, I J e), (4, I J a)]) (fun kk => fun e a => ex p0 kk e a = U r) nofun (fun h h e a H => ?_) aI (0) (0) (H)) (ss [0] z z) (c z)
 unfold ex at H
 refine E <| D <| C [.p, .fa 69 0 0 dD] z <| G z (r1 0 0 z ks z) <| C [.lenS 67 145 eN, .p] z <| P <| cI H z ?_ ?_ <;> intro H
 ·refine ai <| R <| E <| an <| D <| C [.p, .p, .p] z <| d H fun j i H => cu2 [(1, O (U ⟨f, 0, N⟩)), (3, I J e), (4, I J a)] [(14, B (a == 0))] 9 (23, B j) z ?_ fun key => ?_
  ·refine P <| cI H z ?_ ?_ <;> intro H
   ·refine aH <| C [.fa 69 0 0 dD] z <| G z (r1 0 0 z ks z) <| A z <| d H fun l f H => bu z z z z z eN bp z k f fun f f f j => ?_
    obtain ⟨m, m, m, m, m, m, m, m, rfl, m, m, m, m⟩ := aY f
    exact C [.fa 145 7 9 gC] z <| G z (aT z z ty3 (bh bor (jO j 9 1))) <| A z <| ay <| bR <| R <| aH <| C [.p, .p, .p] z <| ay <| bU (RW.at (h (l.h_) (J.wrap (a + 1)) (H)) (ss [0] z z) (c z))
   ·exact ai <| bR <| R <| aH <| C [.p, .p, .p] z <| ay <| bU (RW.at (h (e) (J.wrap (a + 1)) (H)) (ss [0] z z) (c z))
  ·have H := i
   generalize (a == 0) = a at H key ⊢
   cases a
   ·have H := aN z H
    refine C [.fa 69 0 0 dD] z <| G z (r1 0 0 z ks z) <| A z <| d H fun a a H => bu z z z z z eN bp z k a fun a a a e => ?_
    obtain ⟨f, f, f, f, f, f, f, f, rfl, f, f, f, f⟩ := aY a
    refine C [.fa 145 7 9 gC] z <| G z (aT z z ty3 (bh bor (jO e 9 1))) <| oPP z <| A z <| ?_
    obtain rfl := Z H
    exact OW.sub key (c z)
   ·have H := aO z H
    refine C [.p, .p, .p, .p, .p, .p, .p, .p, .p] z ?_
    obtain rfl := Z H
    exact OW.sub key (c z)
 ·exact aU <| aB <| aE <| aA <| R <| D <| oPP z <| nT <| Z H ▸ xw z
theorem AH (w) {p0 a r} (H : pn p0 = U r) (e : (aQ).rd w [] p0 a) :
    Calls Tryz.prog 175 #[.agg a.toArray] w (fun en w' => en = .returned (I J r) ∧ Ext [] w w') := by
 obtain ⟨h, i, j, k, l, m, o, q, rfl, a, a, s, a⟩ := aY e
 unfold pn at H
 refine ar Tryz.func175 z Tryz.ntmps175 z (St.init w []) <| D <| ob _ z fun f => A z <| P <| E <| D <| C [.fa 145 0 0 ln] z <| G z (r1 0 0 z ty4 z) <| A z <| P <| cI H z ?_ ?_ <;> intro H
 ·exact D <| A z <| nT <| Z H ▸ xw z
 ·refine ai <| R <| D <| A z <| P <| E <| D <| A z <| P <| an <| CW.at (fc (fun (a : Int) (e : Int) => Q w [] [b f 145 [B p0.B_, I J p0.i_.t_, I J p0.i_.u_, S h p0.v_.length i, I J p0.I_, S j p0.k_.q_.length k, S l p0.k_.l_.length m, I J p0.J_, S o p0.d_.length q, I J p0.h_, I J p0.A_, I J p0.G_]]) (fun a e => [(1, O (U ⟨f, 0, N⟩)), (3, I J a), (4, I J e)]) (fun kk => fun a e => jS p0 kk a e = U r) nofun (fun f f a e H => ?_) aI (2) (0) (H)) (ss [0] z z) (c z)
  unfold jS at H
  refine E <| D <| C [.p, .fa 145 4 5 ea, .fa 143 1 1 eW] z <| G z (r1 6 0 z fw z) <| C [.lenS 34 63 eg, .p] z <| P <| cI H z ?_ ?_ <;> intro H
  ·refine ai <| R <| E <| an <| aH <| C [.p, .fa 145 4 5 ea, .fa 143 1 1 eW] z <| G z (r1 6 0 z fw z) <| A z <| d H fun j h H => bu z z z z z eg bP z s h fun h h h i => ?_
   obtain ⟨k, k, rfl⟩ := dz h
   exact G z (aT z z bP (bh bor i)) <| C [.lenS 63 3 bB, .p, .p] z <| ay <| bR <| R <| aH <| C [.p, .p, .p] z <| ay <| bU (RW.at (f (J.wrap (a + (j.length : Int))) (J.wrap (e + 1)) (H)) (ss [0] z z) (c z))
  ·exact aU <| aB <| aE <| aA <| R <| D <| oPP z <| nT <| Z H ▸ xw z
theorem xQ (w) {p0 a r} (H : nh p0 = U r) (e : (bz).rd w [] p0 a) :
    Calls Tryz.prog 154 #[.agg a.toArray] w (fun en w' => en = .returned (I J r) ∧ Ext [] w w') := by
 obtain ⟨h, i, rfl, j⟩ := cj e
 unfold nh at H
 refine ar Tryz.func154 z Tryz.ntmps154 z (St.init w []) <| D <| ob _ z fun a => A z <| nR <| A z <| P <| E <| D <| A z <| P <| an <| CW.at (fc (fun (e : Int) (f : Int) => Q w [] [b a 69 [S h p0.e_.length i, I J p0.y_]]) (fun e f => [(1, O (U ⟨a, 0, N⟩)), (3, I J e), (4, I J f)]) (fun kk => fun e f => iG p0 kk e f = U r) nofun (fun a i e f H => ?_) aI (0) (0) (H)) (ss [0] z z) (c z)
 unfold iG at H
 refine E <| D <| C [.p, .fa 69 0 0 dD] z <| G z (r1 0 0 z ks z) <| C [.lenS 67 145 eN, .p] z <| P <| cI H z ?_ ?_ <;> intro H
 ·refine ai <| R <| E <| an <| aH <| C [.p, .fa 69 0 0 dD] z <| G z (r1 0 0 z ks z) <| A z <| d H fun a h H => bu z z z z z eN bp z j h fun h h h j => ?_
  obtain ⟨k, l, m, o, q, s, t, u, rfl, v, x, F, L⟩ := aY h
  exact G z (cT (cs := [B a.B_, I J a.i_.t_, I J a.i_.u_, S k a.v_.length l, I J a.I_, S m a.k_.q_.length o, S q a.k_.l_.length s, I J a.J_, S t a.d_.length u, I J a.h_, I J a.A_, I J a.G_]) z z bp (bh bor j) z) <| bq H RZ (fun _ j h a => AH h j (gx z z (g v h a) z (cu (g x h a) (g F h a)) z (g L h a) z z z)) z tt2 fun a H => oPP z <| ay <| bR <| R <| aH <| C [.p, .p, .p] z <| ay <| bU (RW.at (i (J.wrap (e + a)) (J.wrap (f + 1)) (H)) (ss [0] z z) (c z))
 ·exact aU <| aB <| aE <| aA <| R <| D <| oPP z <| nT <| Z H ▸ xw z
theorem yz (w) {p0 p1 j a e r} (H : rH p0 p1 j = U r) (h : (bH).rd w [] p0 a) (i : (bz).rd w [] j e) :
    Calls Tryz.prog 129 #[.agg a.toArray, .agg #[I J p1.L_, I J p1.N_, I J p1.M_, I J p1.h_, I J p1.e_, I J p1.E_, B p1.Q_], .agg e.toArray] w (fun en w' => en = .returned (B r) ∧ Ext [] w w') := by
 obtain ⟨a, a, a, a, rfl, f, l⟩ := bA h
 obtain ⟨a, a, rfl, k⟩ := cj i
 unfold rH at H
 refine ar Tryz.func129 z Tryz.ntmps129 z (St.init w []) <| D <| ob _ z fun a => ob _ z fun h => ob _ z fun i => A z <| P <| E <| dP dC (by kernel_rfl) <| G z (rx 0 0 _ z el z) <| G z (rx 0 2 _ z jb z) <| bq H RM (fun _ m e a => BI e m (aw (g f e a) (g l e a)) (bg (g k e a) z)) z tt2 fun m H => A z <| d H fun f o H => cu2 [(4, O (U ⟨h, 0, N⟩)), (5, O (U ⟨i, 0, N⟩)), (6, B n)] [(10, B m)] 3 (13, B f) z ?_ fun key => ?_
 ·refine A z <| cu2 [(4, O (U ⟨h, 0, N⟩)), (5, O (U ⟨i, 0, N⟩)), (6, B n)] [(14, B f)] 7 (21, B (f && (decide ((j.e_.length : Int) ≤ p1.e_)))) z ?_ fun key => ?_
  ·refine A z <| d H fun l q H => cu2 [(4, O (U ⟨h, 0, N⟩)), (5, O (U ⟨i, 0, N⟩)), (6, B n)] [(22, B (f && (decide ((j.e_.length : Int) ≤ p1.e_))))] 6 (28, B l) z ?_ fun key => ?_
   ·refine A z <| d H fun t s H => cu2 [(6, B n)] [(4, O (U ⟨h, 0, N⟩)), (5, O (U ⟨i, 0, N⟩)), (29, B l)] 6 (35, B t) z ?_ fun key => ?_
    ·exact A z <| cQ <| R <| sG <| Z H ▸ xw z
    ·have H := s
     generalize l = h at H key ⊢
     cases h
     ·have H := aN z H
      refine C [.p, .p, .p, .p, .p, .p] z ?_
      obtain rfl := Z H
      exact OW.sub key (c z)
     ·have H := aO z H
      refine G z (rx 0 2 _ z jb z) <| bq H Qx (fun _ h e a => xQ e h (bg (g k e a) z)) z tt2 fun h H => C [.fa 28 5 5 ul] z <| G z (r1 5 1 z ty3 z) <| A z <| A z <| ?_
      obtain rfl := Z H
      exact OW.sub key (c z)
   ·have H := q
    generalize (f && (decide ((j.e_.length : Int) ≤ p1.e_))) = h at H key ⊢
    cases h
    ·have H := aN z H
     refine C [.p, .p, .p, .p, .p, .p] z ?_
     obtain rfl := Z H
     exact OW.sub key (c z)
    ·have H := aO z H
     refine G z (rx 0 2 _ z jb z) <| bq H QV (fun _ h e a => AN e h (bg (g k e a) z)) z tt2 fun h H => C [.fa 28 3 3 un] z <| G z (r1 3 1 z ty3 z) <| A z <| A z <| ?_
     obtain rfl := Z H
     exact OW.sub key (c z)
  ·generalize f = f at key ⊢
   cases f
   ·exact C [.p, .p, .p, .p, .p, .p, .p] z <| OW.sub key (c z)
   ·exact C [.fa 69 0 0 dD] z <| G z (r1 0 2 z ks z) <| C [.lenS 67 145 eN, .fa 28 4 4 ut] z <| G z (r1 4 1 z ty3 z) <| A z <| A z <| OW.sub key (c z)
 ·have H := o
  generalize m = f at H key ⊢
  cases f
  ·have H := aN z H
   refine C [.p, .p, .p] z ?_
   obtain rfl := Z H
   exact OW.sub key (c z)
  ·have H := aO z H
   refine G z (rx 0 1 _ z uX z) <| bq H RH (fun _ f e a => vA e (p0 := p1) f) z tt2 fun a H => A z <| ?_
   obtain rfl := Z H
   exact OW.sub key (c z)
theorem yL (w) {p0 r} (H : nY p0 = U r) :
    Calls Tryz.prog 176 #[I J p0] w (fun en w' => en = .returned (I J r) ∧ Ext [] w w') := by
 unfold nY at H
 refine ar Tryz.func176 z Tryz.ntmps176 z (St.init w []) <| D <| A z <| nR <| A z <| P <| E <| D <| A z <| P <| an <| CW.at (fc (fun (a : Int) (e : Int) => Q w [] []) (fun a e => [(0, I J p0), (3, I J a), (4, I J e)]) (fun kk => fun a e => ic p0 kk a e = U r) nofun (fun f f a e H => ?_) aI (1) (0) (H)) (ss [] z z) (c z)
 unfold ic at H
 refine E <| D <| C [.p, .p, .p] z <| P <| cI H z ?_ ?_ <;> intro H
 ·exact ai <| R <| E <| an <| aH <| C [.p, .p, .p] z <| ay <| bR <| R <| aH <| C [.p, .p, .p] z <| ay <| bU (RW.at (f (J.wrap (a * 2)) (J.wrap (e + 1)) (H)) (ss [] z z) (c z))
 ·exact aU <| aB <| aE <| aA <| R <| D <| oPP z <| nT <| Z H ▸ xw z
theorem tO (w) {p0 a r} (H : mp p0 = U r) (e : (cd).rd w [] p0 a) :
    Calls Tryz.prog 155 #[.agg a.toArray] w (fun en w' => en = .returned (B r) ∧ Ext [] w w') := by
 obtain ⟨j, k, rfl, h⟩ := gb e
 unfold mp at H
 refine ar Tryz.func155 z Tryz.ntmps155 z (St.init w []) <| D <| ob _ z fun f => A z <| P <| E <| D <| C [.fa 71 0 0 kF] z <| G z (r1 0 0 z fw z) <| C [.lenS 34 63 eg, .p] z <| P <| cI H z ?_ ?_ <;> intro H
 ·exact D <| A z <| nT <| Z H ▸ xw z
 ·refine ai <| R <| E <| D <| A z <| P <| an <| CW.at (dq (fun (e : Int) => Q w [] [b f 71 [S j p0.p_.length k]]) (fun e => [(1, O (U ⟨f, 0, N⟩)), (3, I J e)]) (fun kk => fun e => cU p0 kk e = U r) nofun (fun o m e H => ?_) aI (0) (H)) (ss [0] z z) (c z)
  unfold cU at H
  refine E <| D <| C [.p, .fa 71 0 0 kF] z <| G z (r1 0 0 z fw z) <| C [.lenS 34 63 eg, .p] z <| P <| cI H z ?_ ?_ <;> intro H
  ·refine ai <| R <| E <| an <| E <| D <| C [.fa 71 0 0 kF] z <| G z (r1 0 0 z fw z) <| A z <| d H fun a a H => bu z z z z z eg bP z h a fun a a a i => ?_
   obtain ⟨l, l, rfl⟩ := dz a
   refine G z (aT z z bP (bh bor i)) <| C [.lenS 63 3 bB] z <| bq H kO (fun _ a i l => bm i a) z tt2 fun a H => A z <| P <| cI H z ?_ ?_ <;> intro H
   ·exact D <| A z <| nT <| Z H ▸ xw z
   ·refine ai <| R <| D <| A z <| P <| an <| CW.at (dq (fun (a : Int) => Q w [] [b f 71 [S j p0.p_.length k]]) (fun a => [(1, O (U ⟨f, 0, N⟩)), (3, I J e), (4, I J a)]) (fun kk => fun a => ia p0 e (cU p0 o) kk a = U r) nofun (fun f k a H => ?_) aI (0) (H)) (ss [0] z z) (c z)
    unfold ia at H
    refine E <| D <| C [.p, .fa 71 0 0 kF] z <| G z (r1 0 0 z fw z) <| A z <| d H fun f f H => bu z z z z z eg bP z h f fun f f f j => ?_
    obtain ⟨o, o, rfl⟩ := dz f
    refine G z (aT z z bP (bh bor j)) <| C [.lenS 63 3 bB, .p] z <| P <| cI H z ?_ ?_ <;> intro H
    ·refine ai <| R <| E <| an <| E <| dP dC (by kernel_rfl) <| C [.fa 71 0 0 kF] z <| G z (r1 0 0 z fw z) <| A z <| d H fun f f H => bu z z z z z eg bP z h f fun f f f h => ?_
     obtain ⟨j, j, rfl⟩ := dz f
     refine G z (aT z z bP (bh bor h)) <| A z <| d H fun h h H => ix1 bB ty3 (g f) h z z <| A z <| bq H RQ (fun _ f i l => yL i f) z tt2 fun f H => bq H kO (fun _ f i l => bm i f) z tt2 fun f H => A z <| cQ <| R <| cI H z ?_ ?_ <;> intro H
     ·exact D <| A z <| nT <| Z H ▸ xw z
     ·exact ai <| bR <| R <| aH <| C [.p, .p, .p] z <| ay <| bU (RW.at (k (J.wrap (a + 1)) (H)) (ss [0] z z) (c z))
    ·exact aU <| aB <| aE <| aA <| bR <| R <| aH <| C [.p, .p, .p] z <| ay <| bU (RW.at (m (J.wrap (e + 1)) (H)) (ss [0] z z) (c z))
  ·exact aU <| aB <| aE <| aA <| R <| D <| A z <| nT <| Z H ▸ xw z
theorem Di (w) {p0 a r} (H : rS p0 = U r) (e : (fB).rd w [] p0 a) :
    Calls Tryz.prog 130 #[.agg a.toArray] w (fun en w' => en = .returned (B r) ∧ Ext [] w w') := by
 obtain ⟨a, a, a, a, rfl, f, i⟩ := oa e
 unfold rS at H
 refine ar Tryz.func130 z Tryz.ntmps130 z (St.init w []) <| D <| ob _ z fun j => A z <| nR <| C [.fa 73 0 0 uj] z <| G z (rx 0 0 _ z nz z) <| bq H Oq (fun _ h a e => tO a h (bf (g f a e))) z tt2 fun f H => A z <| d H fun k h H => cu2 [(2, B n)] [(1, O (U ⟨j, 0, N⟩)), (6, B f)] 4 (10, B k) z ?_ fun key => ?_
 ·exact A z <| nT <| Z H ▸ xw z
 ·have H := h
  generalize f = f at H key ⊢
  cases f
  ·have H := aN z H
   refine C [.p, .p, .p, .p] z ?_
   obtain rfl := Z H
   exact OW.sub key (c z)
  ·have H := aO z H
   refine C [.fa 73 1 1 uk] z <| G z (rx 1 0 _ z nz z) <| bq H Oq (fun _ f a e => tO a f (bf (g i a e))) z tt2 fun a H => A z <| ?_
   obtain rfl := Z H
   exact OW.sub key (c z)
theorem yV (w) {p0 p1 a e r} (H : od p0 p1 = U r) (i : (dA).rd w [] p0 a) (j : (aF).rd w [] p1 e) :
    Calls Tryz.prog 86 #[.agg a.toArray, .agg e.toArray] w (fun en w' => en = .returned (B r) ∧ Ext [] w w') := by
 obtain ⟨a, a, a, a, rfl, f, h⟩ := dV i
 obtain ⟨a, a, a, a, a, a, a, a, rfl, q, s, t, u⟩ := cg j
 unfold od at H
 refine ar Tryz.func86 z Tryz.ntmps86 z (St.init w []) <| D <| ob _ z fun k => ob _ z fun i => A z <| P <| E <| D <| G z (rx 0 0 _ z uM z) <| bq H Pb (fun _ j e a => sj e j (bx (aw (g f e a) (g h e a)) z z z z z z)) z tt2 fun l H => oPP z <| d H fun j m H => cu2 [(2, O (U ⟨k, 0, N⟩)), (3, O (U ⟨i, 0, N⟩))] [(8, B (!l))] 9 (17, B j) z ?_ fun key => ?_
 ·refine A z <| d H fun v o H => cu2 [(2, O (U ⟨k, 0, N⟩)), (3, O (U ⟨i, 0, N⟩))] [(18, B j)] 5 (23, B v) z ?_ fun key => ?_
  ·refine P <| cI H z ?_ ?_ <;> intro H
   ·exact D <| A z <| nT <| Z H ▸ xw z
   ·refine ai <| R <| E <| D <| C [.fa 75 1 2 uc] z <| G z (r1 2 1 z ty4 z) <| P <| cI H z ?_ ?_ <;> intro H
    ·exact D <| C [.fa 30 0 0 mr] z <| G z (rx 0 0 _ z el z) <| C [.fa 30 1 2 rK] z <| G z (rx 2 0 _ z uX z) <| C [.fa 75 2 3 pG] z <| G z (rx 3 1 _ z jb z) <| bq H OD (fun _ k e a => yz e (p1 := p0.b_) k (aw (g f e a) (g h e a)) (bg (g s e a) z)) z tt2 fun k H => A z <| nT <| Z H ▸ xw z
    ·refine ai <| R <| D <| C [.fa 75 2 3 pG, .fa 69 0 0 dD] z <| G z (r1 3 1 z ks z) <| C [.lenS 67 145 eN, .p, .p] z <| cu2 [] [(3, O (U ⟨i, 0, N⟩)), (38, B ((p1.w_.e_.length : Int) == 0))] 5 (43, B (((p1.w_.e_.length : Int) == 0) && (p1.w_.y_ == 0))) z ?_ fun key => ?_
     ·exact A z <| nT <| Z H ▸ xw z
     ·generalize ((p1.w_.e_.length : Int) == 0) = i at key ⊢
      cases i
      ·exact C [.p, .p, .p, .p, .p] z <| OW.sub key ⟨z, Y⟩
      ·exact C [.fa 75 2 3 pG, .fa 69 1 1 nH] z <| G z (r1 4 1 z ty3 z) <| A z <| A z <| OW.sub key ⟨z, Y⟩
  ·have H := o
   generalize j = i at H key ⊢
   cases i
   ·have H := aN z H
    refine C [.fa 75 3 5 pA] z <| G z (rx 5 1 _ z Mr z) <| bq H Sj (fun _ i e a => Di e i (io (bf (g t e a)) (bf (g u e a)))) z tt2 fun i H => A z <| A z <| ?_
    obtain rfl := Z H
    exact OW.sub key (c z)
   ·have H := aO z H
    refine C [.p, .p, .p, .p, .p] z ?_
    obtain rfl := Z H
    exact OW.sub key (c z)
 ·have H := m
  generalize (!l) = i at H key ⊢
  cases i
  ·have H := aN z H
   refine C [.fa 30 0 0 mr] z <| G z (rx 0 0 _ z el z) <| C [.fa 30 1 2 rK] z <| G z (rx 2 0 _ z uX z) <| C [.fa 75 0 0 tl] z <| G z (rx 0 1 _ z jb z) <| bq H OD (fun _ i e a => yz e (p1 := p0.b_) i (aw (g f e a) (g h e a)) (bg (g q e a) z)) z tt2 fun a H => A z <| A z <| ?_
   obtain rfl := Z H
   exact OW.sub key (c z)
  ·have H := aO z H
   refine C [.p, .p, .p, .p, .p, .p, .p, .p, .p] z ?_
   obtain rfl := Z H
   exact OW.sub key (c z)
theorem yO (w) {p0 p1 a e r} (H : ol p0 p1 = U r) (f : (dA).rd w [] p0 a) (h : (fj).rd w [] p1 e) :
    Calls Tryz.prog 38 #[.agg a.toArray, .agg e.toArray] w (fun en w' => en = .returned (B r) ∧ Ext [] w w') := by
 obtain ⟨m, o, q, s, rfl, k, l⟩ := dV f
 obtain ⟨t, u, rfl, v⟩ := jn h
 unfold ol at H
 refine ar Tryz.func38 z Tryz.ntmps38 z (St.init w []) <| D <| ob _ z fun f => ob _ z fun i => A z <| P <| E <| D <| G z (rx 0 0 _ z uM z) <| bq H Pb (fun _ h e a => sj e h (bx (aw (g k e a) (g l e a)) z z z z z z)) z tt2 fun j H => oPP z <| cu2 [(2, O (U ⟨f, 0, N⟩)), (3, O (U ⟨i, 0, N⟩))] [(9, B (!j))] 7 (16, B ((!j) || ((p1.j_.length : Int) != p0.j_))) z ?_ fun key => ?_
 ·refine P <| cI H z ?_ ?_ <;> intro H
  ·exact D <| A z <| nT <| Z H ▸ xw z
  ·refine ai <| R <| E <| D <| A z <| P <| an <| CW.at (dq (fun (h : Int) => Q w [] [b f 30 [S m p0.g_.d_.length o, S q p0.g_.f_.length s, I J p0.b_.L_, I J p0.b_.N_, I J p0.b_.M_, I J p0.b_.h_, I J p0.b_.e_, I J p0.b_.E_, B p0.b_.Q_, I J p0.j_, I J p0.O_, I J p0.P_, I J p0.r_, I J p0.s_], b i 33 [S t p1.j_.length u]]) (fun h => [(2, O (U ⟨f, 0, N⟩)), (3, O (U ⟨i, 0, N⟩)), (5, I J h)]) (fun kk => fun h => jl p1 p0 kk h = U r) nofun (fun f i h H => ?_) aI (0) (H)) (ss [0, 1] z z) (c z)
   unfold jl at H
   refine E <| D <| C [.p, .fa 33 0 0 nK] z <| G z (r1 0 1 z wi z) <| C [.lenS 31 75 mU, .p] z <| P <| cI H z ?_ ?_ <;> intro H
   ·refine ai <| R <| E <| an <| E <| dP dC (by kernel_rfl) <| G z (rx 0 0 _ z uM z) <| C [.fa 33 0 0 nK] z <| G z (r1 0 1 z wi z) <| A z <| d H fun f m H => bu z z z z z mU fO z v m fun m m m o => ?_
    obtain ⟨q, s, t, u, v, x, F, L, rfl, M, T, X, a0⟩ := cg m
    refine G z (cT (cs := [S q f.H_.e_.length s, I J f.H_.y_, B f.T_, S t f.w_.e_.length u, I J f.w_.y_, S v f.K_.r_.p_.length x, S F f.K_.s_.p_.length L]) z z fO (bh bor o) z) <| bq H SX (fun _ f e a => yV e f (bx (aw (g k e a) (g l e a)) z z z z z z) (kD (bg (g M e a) z) z (bg (g T e a) z) (io (bf (g X e a)) (bf (g a0 e a))))) z tt2 fun a H => A z <| cQ <| R <| cI H z ?_ ?_ <;> intro H
    ·exact D <| A z <| nT <| Z H ▸ xw z
    ·exact ai <| bR <| R <| aH <| C [.p, .p, .p] z <| ay <| bU (RW.at (i (J.wrap (h + 1)) (H)) (ss [0, 1] z z) (c z))
   ·exact aU <| aB <| aE <| aA <| R <| D <| A z <| nT <| Z H ▸ xw z
 ·generalize (!j) = a at key ⊢
  cases a
  ·exact C [.fa 33 0 0 nK] z <| G z (r1 0 1 z wi z) <| C [.lenS 31 75 mU, .fa 30 2 9 rV] z <| G z (r1 9 0 z ty3 z) <| A z <| A z <| OW.sub key (c z)
  ·exact C [.p, .p, .p, .p, .p, .p, .p] z <| OW.sub key (c z)
theorem zq (w) {p0 p1 l i a k r} (H : oo p0 p1 l = U r) (m : (V (aK) 83).rd w [] p0 [S i a k]) :
    Calls Tryz.prog 87 #[S i a k, I J p1, I J l] w (fun en w' => en = .returned (I J r) ∧ Ext [] w w') := by
 obtain rfl := dc m
 unfold oo at H
 refine ar Tryz.func87 z Tryz.ntmps87 z (St.init w []) <| D <| A z <| nR <| A z <| P <| E <| D <| A z <| P <| an <| CW.at (fc (fun (f : Int) (a : Int) => Q w [] []) (fun f a => [(0, S i p0.length k), (1, I J p1), (2, I J l), (7, I J f), (8, I J a)]) (fun kk => fun f a => dR p0 p1 l kk f a = U r) nofun (fun o o f a H => ?_) aI (0) (0) (H)) (ss [] z z) (c z)
 unfold dR at H
 refine E <| D <| C [.p, .p, .lenS 35 83 nO, .p] z <| P <| cI H z ?_ ?_ <;> intro H
 ·refine ai <| R <| E <| an <| D <| oPP z <| d H fun q s H => fb (e := aK) (xs := p0) (j := a) z z z z z nO nG z (g m) s z <| C [.fa 83 0 0 tf] z <| G z (aT z z ty3 (Ai (lJ (nk (g m) s (fun _ _ h => h)) z) 0 1)) <| C [.p, .p, .p] z <| d H fun t s H => cu2 [(0, S i p0.length k), (1, I J p1), (2, I J l), (7, I J f), (8, I J a)] [(22, B (q.R_ == p1))] 8 (30, B t) z ?_ fun key => ?_
  ·refine P <| cI H z ?_ ?_ <;> intro H
   ·exact aH <| C [.p, .p, .p] z <| ay <| bR <| R <| aH <| C [.p, .p, .p] z <| ay <| bU (RW.at (o (J.wrap (f + 1)) (J.wrap (a + 1)) (H)) (ss [] z z) (c z))
   ·exact ai <| bR <| R <| aH <| C [.p, .p, .p] z <| ay <| bU (RW.at (o (f) (J.wrap (a + 1)) (H)) (ss [] z z) (c z))
  ·have H := s
   generalize (q.R_ == p1) = f at H key ⊢
   cases f
   ·have H := aN z H
    refine C [.p, .p, .p, .p, .p, .p, .p, .p] z ?_
    obtain rfl := Z H
    exact OW.sub key (c z)
   ·have H := aO z H
    refine oPP z <| d H fun f f H => fb (e := aK) (xs := p0) (j := a) z z z z z nO nG z (g m) f z <| C [.fa 83 1 1 rN] z <| G z (aT z z ty3 (Ai (lJ (nk (g m) f (fun _ _ h => h)) z) 1 1)) <| oPP z <| A z <| ?_
    obtain rfl := Z H
    exact OW.sub key (c z)
 ·exact aU <| aB <| aE <| aA <| R <| D <| oPP z <| nT <| Z H ▸ xw z
theorem Dh (w) {p0 p1 r} (H : ui p0 p1 = U r) :
    Calls Tryz.prog 88 #[I J p0, I J p1] w (fun en w' => en = .returned (I J r) ∧ Ext [] w w') := by
 unfold ui at H
 refine ar Tryz.func88 z Tryz.ntmps88 z (St.init w []) <| D <| A z <| P <| E <| D <| C [.p, .p, .p] z <| P <| cI H z ?_ ?_ <;> intro H
 ·exact D <| oPP z <| nT <| Z H ▸ xw z
 ·exact ai <| R <| D <| oPP z <| nT <| Z H ▸ xw z
theorem AV (w) {p0 p1 a r} (H : pm p0 p1 = U r) (f : (fN).rd w [] p1 a) :
    Calls Tryz.prog 39 #[I J p0, .agg a.toArray] w (fun en w' => en = .returned (B r) ∧ Ext [] w w') := by
 obtain ⟨u, v, x, F, rfl, s, q⟩ := jT f
 unfold pm at H
 refine ar Tryz.func39 z Tryz.ntmps39 z (St.init w []) <| D <| ob _ z fun k => A z <| P <| E <| D <| A z <| bq H kO (fun _ a m o => bm m a) z tt2 fun L H => oPP z <| cu2 [(0, I J p0), (3, O (U ⟨k, 0, N⟩))] [(12, B (!L))] 6 (18, B ((!L) || ((p1.o_.length : Int) != p0))) z ?_ fun key => ?_
 ·refine P <| cI H z ?_ ?_ <;> intro H
  ·exact D <| A z <| nT <| Z H ▸ xw z
  ·refine ai <| R <| D <| A z <| P <| E <| D <| A z <| P <| an <| CW.at (fc (fun (a : Int) (f : Int) => Q w [] [b k 37 [S u p1.o_.length v, S x p1.n_.length F]]) (fun a f => [(0, I J p0), (3, O (U ⟨k, 0, N⟩)), (5, I J a), (6, I J f)]) (fun kk => fun a f => dk p0 p1 kk a f = U r) nofun (fun t a0 a f H => ?_) aI (0) (0) (H)) (ss [0] z z) (c z)
   unfold dk at H
   refine E <| D <| C [.p, .p, .p] z <| P <| cI H z ?_ ?_ <;> intro H
   ·refine ai <| R <| E <| an <| E <| D <| C [.fa 37 0 0 kQ] z <| G z (r1 0 0 z fw z) <| A z <| d H fun i i H => bu z z z z z eg bP z s i fun i i i l => ?_
    obtain ⟨M, M, rfl⟩ := dz i
    refine G z (aT z z bP (bh bor l)) <| C [.lenS 63 3 bB, .p, .p] z <| P <| cI H z ?_ ?_ <;> intro H
    ·exact D <| A z <| nT <| Z H ▸ xw z
    ·refine ai <| R <| D <| A z <| P <| an <| CW.at (fc (fun (i : Int) (l : Int) => Q w [] [b k 37 [S u p1.o_.length v, S x p1.n_.length F]]) (fun i l => [(0, I J p0), (3, O (U ⟨k, 0, N⟩)), (5, I J i), (6, I J f), (7, I J l)]) (fun kk => fun i l => ep p0 p1 f (dk p0 p1 t) kk i l = U r) nofun (fun t a1 i l H => ?_) aI (a) (0) (H)) (ss [0] z z) (c z)
     unfold ep at H
     refine E <| D <| C [.p, .p, .p] z <| P <| cI H z ?_ ?_ <;> intro H
     ·refine ai <| R <| E <| an <| E <| E <| dP dC (by kernel_rfl) <| C [.fa 37 0 0 kQ] z <| G z (r1 0 0 z fw z) <| A z <| d H fun t t H => bu z z z z z eg bP z s t fun t t t M => ?_
      obtain ⟨T, T, rfl⟩ := dz t
      refine G z (aT z z bP (bh bor M)) <| A z <| d H fun M M H => ix1 bB ty3 (g t) M z z <| bq H kO (fun _ t m o => bm m t) z tt2 fun M H => oPP z <| d H fun t T H => cu2 [(0, I J p0), (3, O (U ⟨k, 0, N⟩)), (5, I J i), (6, I J f), (7, I J l)] [(47, B (!M))] 15 (62, B t) z ?_ fun key => ?_
      ·refine cQ <| R <| cI H z ?_ ?_ <;> intro H
       ·exact D <| A z <| nT <| Z H ▸ xw z
       ·refine ai <| R <| aH <| C [.p, .fa 37 0 0 kQ] z <| G z (r1 0 0 z fw z) <| A z <| d H fun t t H => bu z z z z z eg bP z s t fun t t t X => ?_
        obtain ⟨a2, a2, rfl⟩ := dz t
        exact G z (aT z z bP (bh bor X)) <| A z <| d H fun X a2 H => ix1 bB ty3 (g t) a2 z z <| oPP z <| ay <| bR <| R <| aH <| C [.p, .p, .p] z <| ay <| bU (RW.at (a1 (J.wrap (i + X)) (J.wrap (l + 1)) (H)) (ss [0] z z) (c z))
      ·have H := T
       generalize (!M) = l at H key ⊢
       cases l
       ·have H := aN z H
        refine C [.fa 37 1 1 kq] z <| G z (r1 1 0 z tt z) <| oPP z <| bq H SO (fun _ l m o => zq m l (g q m o)) z tt2 fun l H => C [.fa 37 0 0 kQ] z <| G z (r1 0 0 z fw z) <| A z <| d H fun l l H => bu z z z z z eg bP z s l fun l l l s => ?_
        obtain ⟨t, t, rfl⟩ := dz l
        refine G z (aT z z bP (bh bor s)) <| A z <| d H fun s s H => ix1 bB ty3 (g l) s z z <| A z <| A z <| ?_
        obtain rfl := Z H
        exact OW.sub key (c z)
       ·have H := aO z H
        refine C [.p, .p, .p, .p, .p, .p, .p, .p, .p, .p, .p, .p, .p, .p, .p] z ?_
        obtain rfl := Z H
        exact OW.sub key (c z)
     ·exact aU <| aB <| aE <| aA <| bR <| R <| aH <| C [.p, .p, .p] z <| ay <| bU (RW.at (a0 (i) (J.wrap (f + 1)) (H)) (ss [0] z z) (c z))
   ·refine aU <| aB <| aE <| aA <| R <| E <| E <| dP dC (by kernel_rfl) <| C [.p, .p, .p] z <| d H fun f l H => cu2 [(0, I J p0), (3, O (U ⟨k, 0, N⟩))] [(5, I J a), (75, B (decide (a > 9999)))] 7 (82, B f) z ?_ fun key => ?_
    ·refine cQ <| R <| cI H z ?_ ?_ <;> intro H
     ·exact D <| A z <| nT <| Z H ▸ xw z
     ·refine ai <| R <| E <| D <| A z <| P <| an <| CW.at (dq (fun (f : Int) => Q w [] [b k 37 [S u p1.o_.length v, S x p1.n_.length F]]) (fun f => [(0, I J p0), (3, O (U ⟨k, 0, N⟩)), (8, I J f)]) (fun kk => fun f => dL p1 p0 kk f = U r) nofun (fun i t f H => ?_) aI (0) (H)) (ss [0] z z) (c z)
      unfold dL at H
      refine E <| D <| C [.p, .fa 37 1 1 kq] z <| G z (r1 1 0 z tt z) <| C [.lenS 35 83 nO, .p] z <| P <| cI H z ?_ ?_ <;> intro H
      ·refine ai <| R <| E <| an <| D <| C [.fa 37 1 1 kq] z <| G z (r1 1 0 z tt z) <| A z <| d H fun i i H => fb (e := aK) (xs := p1.n_) (j := f) z z z z z nO nG z (g q) i z <| C [.fa 83 0 0 tf] z <| G z (aT z z ty3 (Ai (lJ (nk (g q) i (fun _ _ h => h)) z) 0 1)) <| oPP z <| bq H kO (fun _ i m o => bm m i) z tt2 fun i H => oPP z <| d H fun u s H => cu2 [(0, I J p0), (3, O (U ⟨k, 0, N⟩)), (8, I J f)] [(100, B (!i))] 11 (111, B u) z ?_ fun key => ?_
       ·refine P <| cI H z ?_ ?_ <;> intro H
        ·exact D <| A z <| nT <| Z H ▸ xw z
        ·exact ai <| bR <| R <| aH <| C [.p, .p, .p] z <| ay <| bU (RW.at (t (J.wrap (f + 1)) (H)) (ss [0] z z) (c z))
       ·have H := s
        generalize (!i) = i at H key ⊢
        cases i
        ·have H := aN z H
         refine C [.fa 37 1 1 kq] z <| G z (r1 1 0 z tt z) <| A z <| d H fun i i H => fb (e := aK) (xs := p1.n_) (j := f) z z z z z nO nG z (g q) i z <| C [.fa 83 1 1 rN] z <| G z (aT z z ty3 (Ai (lJ (nk (g q) i (fun _ _ h => h)) z) 1 1)) <| oPP z <| bq H kO (fun _ f m o => bm m f) z tt2 fun f H => A z <| A z <| ?_
         obtain rfl := Z H
         exact OW.sub key (c z)
        ·have H := aO z H
         refine C [.p, .p, .p, .p, .p, .p, .p, .p, .p, .p, .p] z ?_
         obtain rfl := Z H
         exact OW.sub key (c z)
      ·exact aU <| aB <| aE <| aA <| R <| D <| A z <| nT <| Z H ▸ xw z
    ·have H := l
     generalize (decide (a > 9999)) = a at H key ⊢
     cases a
     ·have H := aN z H
      refine C [.fa 37 1 1 kq] z <| G z (r1 1 0 z tt z) <| C [.lenS 35 83 nO, .p] z <| bq H Sn (fun _ a m o => Dh m a) z tt2 fun a H => A z <| A z <| ?_
      obtain rfl := Z H
      exact OW.sub key (c z)
     ·have H := aO z H
      refine C [.p, .p, .p, .p, .p, .p, .p] z ?_
      obtain rfl := Z H
      exact OW.sub key (c z)
 ·generalize (!L) = a at key ⊢
  cases a
  ·exact C [.fa 37 0 0 kQ] z <| G z (r1 0 0 z fw z) <| C [.lenS 34 63 eg, .p, .p] z <| A z <| OW.sub key (c z)
  ·exact C [.p, .p, .p, .p, .p, .p] z <| OW.sub key (c z)
theorem uI (w) {p0 a r} (H : lA p0 = U r) (e : (iv).rd w [] p0 a) :
    Calls Tryz.prog 14 #[.agg a.toArray] w (fun en w' => en = .returned (B r) ∧ Ext [] w w') := by
 obtain ⟨a, a, a, a, a, a, a, a, a, a, rfl, f, h, i, j, k⟩ := iM e
 unfold lA at H
 refine ar Tryz.func14 z Tryz.ntmps14 z (St.init w []) <| D <| ob _ z fun l => A z <| nR <| C [.fa 39 0 0 gW] z <| G z (rx 0 0 _ z uM z) <| C [.fa 39 1 14 qi] z <| G z (rx 14 0 _ z JZ z) <| bq H SS (fun _ m e a => yO e m (bx (aw (g f e a) (g h e a)) z z z z z z) (ch (g i e a))) z tt2 fun f H => A z <| d H fun i h H => cu2 [(2, B n)] [(1, O (U ⟨l, 0, N⟩)), (8, B f)] 9 (17, B i) z ?_ fun key => ?_
 ·exact A z <| nT <| Z H ▸ xw z
 ·have H := h
  generalize f = f at H key ⊢
  cases f
  ·have H := aN z H
   refine C [.p, .p, .p, .p, .p, .p, .p, .p, .p] z ?_
   obtain rfl := Z H
   exact OW.sub key (c z)
  ·have H := aO z H
   refine C [.fa 39 0 0 gW, .fa 30 0 0 mr, .fa 26 1 1 lz] z <| G z (r1 1 0 z mZ z) <| C [.lenS 24 9 eo, .fa 39 2 15 jD] z <| G z (rx 15 0 _ z Jz z) <| bq H Tc (fun _ f e a => AV e f (ct (g j e a) (g k e a))) z tt2 fun a H => A z <| ?_
   obtain rfl := Z H
   exact OW.sub key (c z)
theorem wL (w) {p0 a r} (H : lF p0 = U r) (f : (bH).rd w [] p0 a) :
    Calls Tryz.prog 41 #[.agg a.toArray] w (fun en w' => en = .returned (vS r) ∧ Ext [] w w') := by
 obtain ⟨u, v, x, F, rfl, o, q⟩ := bA f
 unfold lF at H
 refine ar Tryz.func41 z Tryz.ntmps41 z (St.init w []) <| D <| ob _ z fun s => A z <| P <| E <| D <| G z (rx 0 0 _ z el z) <| bq H Iy (fun _ h f a => gY f h (aw (g o f a) (g q f a))) z tt2 fun h H => A z <| P <| cI H z ?_ ?_ <;> intro H
 ·exact D <| A z <| nT <| Z H ▸ xw z
 ·refine ai <| R <| D <| eS (e := bC) z z z z eo ty9 (fun _ => kp) fun t => A z <| P <| E <| D <| A z <| P <| an <| CW.at (lq (fun (h : List (List UInt8)) (j : Option Addr) (l : Nat) (m : List Nat) (k : Int) => Q w [] [b s 26 [S u p0.d_.length v, S x p0.f_.length F], W (V (bC) 9) m h [S j h.length l]]) (fun h j l m k => [(1, O (U ⟨s, 0, N⟩)), (3, S j h.length l), (4, I J k)]) (fun kk => fun h j l m k => j.isNone = n ∧ ei p0 kk h k = U r) (fun _ _ _ _ _ H => nomatch H.2) (fun s s h j l m k ⟨h, H⟩ => ?_) aI (([] : List (List UInt8))) ((U ⟨t, 0, N⟩)) (0) ([t]) (0) (⟨z, H⟩)) (ss [0, 1] z z) (c z)
  unfold ei at H
  refine E <| D <| C [.p, .fa 26 0 0 fu] z <| G z (r1 0 0 z nv z) <| C [.lenS 23 123 jN, .p] z <| P <| cI H z ?_ ?_ <;> intro H
  ·refine ai <| R <| E <| an <| aH <| C [.p, .fa 26 0 0 fu] z <| G z (r1 0 0 z nv z) <| A z <| d H fun h j H => bu z z z z z jN cf z o j fun j j j l => ?_
   obtain ⟨m, o, t, u, rfl, v, x⟩ := bJ j
   exact G z (cT (cs := [vS h.D_, S m h.x_.length o, S t h.F_.length u]) z z cf (bh bor l) z) <| bq H RX (fun _ h f a => tH f h (co z (g v f a) (g x f a))) z tt2 fun h H => cF (val := vS) (h1 := fun _ => z) [h] [(0, [vS h])] z z z z z eo ty9 z z z ⟨z, z, nl z, Y⟩ z z (fun _ => kp) fun j => d H fun l j H => cq (r := 1) (ys := ([h] : List (List UInt8))) z z z z z z eo ty9 z z z (fun f a => av (e := V (bC) 9) (r := 2) z f a) j (fun _ _ _ => kp) fun m o t => eF z (fun f a => kK (i := 1) a z (kC j)) fun h => A z <| ay <| bR <| R <| aH <| C [.p, .p, .p] z <| ay <| bU (RW.at (s (l) (m) (o) (t) (J.wrap (k + 1)) (⟨h, H⟩)) (ss [0, 1] z z) (c z))
  ·exact aU <| aB <| aE <| aA <| R <| E <| dP dC (by kernel_rfl) <| A z <| bq H NP (fun _ h f a => pl f h (av (e := V (bC) 9) (r := 1) z f a)) z tt2 fun h H => d H fun h h H => G z (jH z z z h) <| C [.fa 26 1 1 lz] z <| G z (r1 1 0 z mZ z) <| bq H NP (fun _ h f a => pl f h (g q f a)) z tt2 fun a H => d H fun a a H => G z (jH z z z a) <| A z <| cQ <| R <| sG <| Z H ▸ xw z
end Go.Vk
