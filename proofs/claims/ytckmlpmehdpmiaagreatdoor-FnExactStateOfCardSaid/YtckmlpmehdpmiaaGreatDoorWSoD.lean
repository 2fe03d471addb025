/- The code does what the functions of data say. Printed by program. -/
import Derived.Test.YtckmlpmehdpmiaaGreatDoorWSoC
namespace Go.Vk
open Go.Vk renaming oP → A, aa → C, sR → D, o1 → G, nQ → P, St → Q, ae → V, ab → Z, ah → E, am → R, sb → c, bE → d, af → g
open Value renaming int → I, slice → S, pointer → O, bool → B
open IntKind renaming i64 → J, u8 → K
open Bool renaming true → y, false → n
open Option renaming some → U, none → N
open Res renaming box → b, own → W
open Go.Proofs Go.RowKit
set_option maxHeartbeats 4000000
set_option maxRecDepth 100000
theorem rf (w) {l p0b p0 a9 a_p0b n_p0b c_p0b r} (H : fq p0b p0 = U r) (HS : Q w l [b a9 96 [S a_p0b p0b.length c_p0b, I J p0.c_, B p0.C_]] w) (g_p0b : (V e8 5).rd w l p0b [S a_p0b n_p0b c_p0b]) :
    Calls Tryz.prog 53 #[O (U ⟨a9, 0, N⟩)] w (fun en w' => ∃ v, en = .returned v ∧ ∃ a f c0 k, v = .agg #[S a f c0, I J r.1.y_] ∧ Q w l [W (V (aQ) 145) k r.1.e_ [S a f c0], b a9 96 [S a_p0b n_p0b c_p0b, I J r.2.c_, B r.2.C_]] w') := by
 obtain rfl := dc g_p0b
 unfold fq at H
 refine ar Tryz.func53 z Tryz.ntmps53 z (HS) <| D <| bn z z z z jb (fun _ => kp) fun b3 => nR <| A z <| d H fun b0 k H => aq z ry z z z z (fun f a => bo f k (a.carve [0] z z) (rdB [0] z z a g_p0b)) fun k f w2 a k => ?_
 obtain ⟨rfl, m⟩ := k
 refine ⟨Q w l [_, _, _], a.comp [0] z z m, fun _ _ => Y, ?_⟩
 refine G z (bv [(1, [I J b0.1])] [S N 0 0, I J b0.1] z z jb LI z ⟨z, z, nl z, Y⟩ z) <| bn z z z z jb (fun _ => kp) fun b4 => sC 0 [S N 0 0, I J b0.1] [_, _] 3 z jb z <| P <| E <| D <| A z <| d H fun x k H => aq z KL z z z z (fun f a => iE f k (a.carve [2] z z) (rdB [2] z z a g_p0b)) fun k f w2 a k => ?_
 obtain ⟨rfl, m⟩ := k
 refine ⟨Q w l [_, _, _, _, _], a.comp [2] z z m, fun _ _ => Y, ?_⟩
 refine A z <| P <| an <| CW.weak ?_ (fun _ h => St.pushNil (e := aQ) (T := 145) h)
 refine CW.at (wQ (fun (u : Int) (o : Bool) (k : List az) (s : Option Addr) (t : Nat) (a1 : List Nat) (m : Int) => Q w l [b a9 96 [S a_p0b p0b.length c_p0b, I J u, B o], b b3 69 [S N 0 0, I J 0], b b4 69 [S s k.length t, I J b0.1], W (V (aQ) 145) a1 k [S s k.length t]]) (fun u o k s t a1 m => [(0, O (U ⟨a9, 0, N⟩)), (2, O (U ⟨b3, 0, N⟩)), (3, O (U ⟨b4, 0, N⟩)), (4, I J m)]) (fun kk => fun u o k s t a1 m => dm p0b b0 kk u o k m = U r) nofun (fun k1 c2 u o k s t a1 m H => ?_) aI (x.2.c_) (x.2.C_) (([] : List az)) (N) (0) ([]) (x.1) (H)) (ss [4, 1, 3, 5] z z) (c z)
 unfold dm at H
 refine E <| D <| C [.p, .p, .p] z <| cu2 [(0, O (U ⟨a9, 0, N⟩)), (2, O (U ⟨b3, 0, N⟩)), (3, O (U ⟨b4, 0, N⟩)), (4, I J m)] [(14, B (decide (m > 0)))] 6 (20, B ((decide (m > 0)) && (!o))) z ?_ fun key => ?_
 ·refine P <| cI H z ?_ ?_ <;> intro H
  ·refine ai <| R <| E <| an <| D <| A z <| d H fun L o H => aq z Pv z z z z (fun f a => nL f o (a.carve [0] z z) (rdB [0] z z a g_p0b)) fun o f w2 a o => ?_
   obtain ⟨rfl, u⟩ := o
   refine ⟨Q w l [_, _, _, _, _], a.comp [0] z z u, fun _ _ => Y, ?_⟩
   refine G z (bv [(0, [B L.1])] [B L.1, I J 0, I J 0, S N 0 0, I J 0, S N 0 0, S N 0 0, I J 0, S N 0 0, I J 0, I J 0, I J 0] z z bp La z ⟨z, z, nl z, Y⟩ z) <| bn z z z z bp (fun _ => kp) fun b7 => sC 0 [B L.1, I J 0, I J 0, S N 0 0, I J 0, S N 0 0, S N 0 0, I J 0, S N 0 0, I J 0, I J 0, I J 0] [_, _, _, _, _, _, _, _, _, _, _, _] 5 z bp z <| nR <| A z <| d H fun a2 o H => aq z ry z z z z (fun f a => bo f o (a.carve [4] z z) (rdB [4] z z a g_p0b)) fun o f w2 a o => ?_
   obtain ⟨rfl, u⟩ := o
   refine ⟨Q w l [_, _, _, _, _, _, _], a.comp [4] z z u, fun _ _ => Y, ?_⟩
   refine C [.fa 145 1 1 ip, .fa 141 0 0 kx] z <| sC 1 [I J a2.1] [_, _, _, _, _, _, _, _, _, _, _, _] 5 z ty3 z <| P <| E <| CW.weak (C' := Q w l [_, _, _, _, _]) ?_ (ss [1, 2, 3, 5, 6] z z)
   refine aH <| A z <| d H fun a3 o H => aq z ry z z z z (fun f a => bo f o (a.carve [4] z z) (rdB [4] z z a g_p0b)) fun o f w2 a o => ?_
   obtain ⟨rfl, u⟩ := o
   refine ⟨Q w l [_, _, _, _, _, _], a.comp [4] z z u, fun _ _ => Y, ?_⟩
   refine C [.fa 145 1 1 ip, .fa 141 1 1 mw] z <| sC 2 [I J a3.1] [_, _, _, _, _, _, _, _, _, _, _, _] 3 z ty3 z <| nR <| A z <| d H fun u o H => aq z JA z z z z (fun f a => gH f o (a.carve [5] z z) (rdB [5] z z a g_p0b)) fun o f w2 a x => ?_
   obtain ⟨a4, o, a5, b9, rfl, o⟩ := x
   obtain rfl := aL (i := 0) o z
   refine ⟨Q w l [_, _, _, _, _, _, _, _], a.comp [5] z z o, fun _ _ => Y, ?_⟩
   refine C [.fa 145 2 3 fP] z <| sC 3 [S a4 u.1.length a5] [_, _, _, _, _, _, _, _, _, _, _, _] 3 z bP z <| P <| E <| CW.weak (C' := Q w l [_, _, _, _, _, _]) ?_ (ss [0, 1, 2, 3, 6, 7] z z)
   refine aH <| A z <| d H fun a6 o H => aq z ry z z z z (fun f a => bo f o (a.carve [5] z z) (rdB [5] z z a g_p0b)) fun o f w2 a o => ?_
   obtain ⟨rfl, x⟩ := o
   refine ⟨Q w l [_, _, _, _, _, _, _], a.comp [5] z z x, fun _ _ => Y, ?_⟩
   refine C [.fa 145 3 4 lx] z <| sC 4 [I J a6.1] [_, _, _, _, _, _, _, _, _, _, _, _] 3 z ty3 z <| nR <| A z <| d H fun x o H => aq z JA z z z z (fun f a => gH f o (a.carve [6] z z) (rdB [6] z z a g_p0b)) fun o f w2 a F => ?_
   obtain ⟨a7, o, a8, c1, rfl, o⟩ := F
   obtain rfl := aL (i := 0) o z
   refine ⟨Q w l [_, _, _, _, _, _, _, _, _], a.comp [6] z z o, fun _ _ => Y, ?_⟩
   refine C [.fa 145 4 5 ea, .fa 143 0 0 iu] z <| sC 5 [S a7 x.1.length a8] [_, _, _, _, _, _, _, _, _, _, _, _] 3 z bP z <| P <| E <| E <| CW.weak (C' := Q w l [_, _, _, _, _, _, _]) ?_ (ss [0, 1, 2, 3, 4, 7, 8] z z)
   refine aH <| A z <| d H fun b8 o H => aq z KL z z z z (fun f a => iE f o (a.carve [6] z z) (rdB [6] z z a g_p0b)) fun o f w2 a o => ?_
   obtain ⟨rfl, F⟩ := o
   refine ⟨Q w l [_, _, _, _, _, _, _, _], a.comp [6] z z F, fun _ _ => Y, ?_⟩
   refine A z <| P <| an <| CW.weak ?_ (fun _ h => St.pushNil (e := V eI 3) (T := 63) h)
   refine CW.at (wQ (fun (b5 : Int) (b2 : Bool) (o : List (List Int)) (M : Option Addr) (X : Nat) (b6 : List Nat) (F : Int) => Q w l [b a9 96 [S a_p0b p0b.length c_p0b, I J b5, B b2], b b3 69 [S N 0 0, I J 0], b b4 69 [S s k.length t, I J b0.1], W (V (aQ) 145) a1 k [S s k.length t], b b7 145 [B L.1, I J a2.1, I J a3.1, S a4 u.1.length a5, I J a6.1, S a7 x.1.length a8, S M o.length X, I J 0, S N 0 0, I J 0, I J 0, I J 0], W (V eI 3) b9 u.1 [S a4 u.1.length a5], W (V eI 3) c1 x.1 [S a7 x.1.length a8], W (V (V eI 3) 63) b6 o [S M o.length X]]) (fun b5 b2 o M X b6 F => [(0, O (U ⟨a9, 0, N⟩)), (2, O (U ⟨b3, 0, N⟩)), (3, O (U ⟨b4, 0, N⟩)), (4, I J m), (5, O (U ⟨b7, 0, N⟩)), (6, I J F)]) (fun kk => fun b5 b2 o M X b6 F => gM p0b k L a2 a3 u a6 x (dm p0b b0 k1) m kk b5 b2 o F = U r) nofun (fun k2 c3 b5 b2 o M X b6 F H => ?_) aI (b8.2.c_) (b8.2.C_) (([] : List (List Int))) (N) (0) ([]) (b8.1) (H)) (ss [7, 0, 1, 2, 3, 4, 5, 8] z z) (c z)
   unfold gM at H
   refine E <| D <| C [.p, .p, .p] z <| cu2 [(0, O (U ⟨a9, 0, N⟩)), (2, O (U ⟨b3, 0, N⟩)), (3, O (U ⟨b4, 0, N⟩)), (4, I J m), (5, O (U ⟨b7, 0, N⟩)), (6, I J F)] [(48, B (decide (F > 0)))] 6 (54, B ((decide (F > 0)) && (!b2))) z ?_ fun key => ?_
   ·refine P <| cI H z ?_ ?_ <;> intro H
    ·refine ai <| R <| E <| an <| lu 6 [(0, y), (1, y), (2, y), (3, y), (4, n), (5, n)] (Q w l [Res.nil, b b3 69 [S N 0 0, I J 0], b b4 69 [S s k.length t, I J b0.1], W (V (aQ) 145) a1 k [S s k.length t], b b7 145 [B L.1, I J a2.1, I J a3.1, S a4 u.1.length a5, I J a6.1, S a7 x.1.length a8, S M o.length X, I J 0, S N 0 0, I J 0, I J 0, I J 0], W (V eI 3) b9 u.1 [S a4 u.1.length a5], W (V eI 3) c1 x.1 [S a7 x.1.length a8], W (V (V eI 3) 63) b6 o [S M o.length X]]) dC (by kernel_rfl) (fT (cr (oG (fT (cr (fT (cr (oG (fT (cr dx)))))))))) (sm [n, y, y, y, y, y, y, y] z) <| C [.fa 145 4 5 ea, .fa 143 1 1 eW] z <| ek z (aV z) (r1 6 4 z fw z) <| A z <| d H fun a9 b2 H => aq z JA z z z z (fun f a => gH f b2 (a.carve [0] z z) (rdB [0] z z a g_p0b)) fun b2 f w2 a b5 => ?_
     obtain ⟨b3, b2, b4, b2, rfl, b2⟩ := b5
     obtain rfl := aL (i := 0) b2 z
     refine ⟨Q w l [_, _, _, _, _, _, _, _, _, _], a.comp [0] z z b2, (sm [n, y, y, y, y, y, y, y] z), ?_⟩
     refine gZ [(0, [S b3 a9.1.length b4])] z z z z z eg bP z z ⟨z, z, nl z, Y⟩ [S b3 a9.1.length b4] z (fun _ => (sm [n, y, y, y, y, y, y, y] z)) fun b2 => jM z (fun _ h => CL (p := 10) (q := 8) h z z z) <| jI <| we <| d H fun b2 b3 H => pF (r := 7) (j := 11) z z z z z z eg bP z z z z z z z b3 (fun _ _ _ => kp) fun b3 b4 b5 => C [.fa 145 4 5 ea, .fa 143 1 1 eW] z <| sC 6 [S b3 b2.length b4] [_, _, _, _, _, _, _, _, _, _, _, _] 4 z fw z <| ay <| bR <| R <| CW.weak (C' := Q w l [_, _, _, _, _, _, _, _]) ?_ (ss [1, 2, 3, 4, 5, 6, 9, 12] z z)
     exact aH <| C [.p, .p, .p] z <| ay <| bU (RW.at (c3 (a9.2.c_) (a9.2.C_) (b2) (b3) (b4) (b5) (J.wrap (F - 1)) (H)) (ss [6, 0, 1, 2, 3, 4, 5, 7] z z) (c z))
    ·refine aU <| aB <| aE <| aA <| R <| D <| A z <| d H fun b2 a9 H => aq z ry z z z z (fun f a => bo f a9 (a.carve [0] z z) (rdB [0] z z a g_p0b)) fun a9 f w2 a a9 => ?_
     obtain ⟨rfl, b3⟩ := a9
     refine ⟨Q w l [_, _, _, _, _, _, _, _, _], a.comp [0] z z b3, fun _ _ => Y, ?_⟩
     refine C [.fa 145 5 7 kw] z <| sC 7 [I J b2.1] [_, _, _, _, _, _, _, _, _, _, _, _] 4 z ty3 z <| nR <| A z <| d H fun b5 a9 H => aq z JA z z z z (fun f a => gH f a9 (a.carve [8] z z) (rdB [8] z z a g_p0b)) fun a9 f w2 a b3 => ?_
     obtain ⟨b6, a9, b7, a9, rfl, a9⟩ := b3
     obtain rfl := aL (i := 0) a9 z
     refine ⟨Q w l [_, _, _, _, _, _, _, _, _, _, _], a.comp [8] z z a9, fun _ _ => Y, ?_⟩
     refine C [.fa 145 6 8 mv] z <| sC 8 [S b6 b5.1.length b7] [_, _, _, _, _, _, _, _, _, _, _, _] 4 z bP z <| P <| E <| CW.weak (C' := Q w l [_, _, _, _, _, _, _, _, _]) ?_ (ss [1, 2, 3, 4, 5, 6, 7, 9, 10] z z)
     refine aH <| A z <| d H fun b3 a9 H => aq z ry z z z z (fun f a => bo f a9 (a.carve [8] z z) (rdB [8] z z a g_p0b)) fun a9 f w2 a a9 => ?_
     obtain ⟨rfl, b4⟩ := a9
     refine ⟨Q w l [_, _, _, _, _, _, _, _, _, _], a.comp [8] z z b4, fun _ _ => Y, ?_⟩
     refine C [.fa 145 7 9 gC] z <| sC 9 [I J b3.1] [_, _, _, _, _, _, _, _, _, _, _, _] 3 z ty3 z <| nR <| A z <| d H fun b4 a9 H => aq z ry z z z z (fun f a => bo f a9 (a.carve [9] z z) (rdB [9] z z a g_p0b)) fun a9 f w2 a a9 => ?_
     obtain ⟨rfl, b8⟩ := a9
     refine ⟨Q w l [_, _, _, _, _, _, _, _, _, _, _], a.comp [9] z z b8, fun _ _ => Y, ?_⟩
     refine C [.fa 145 8 10 iW] z <| sC 10 [I J b4.1] [_, _, _, _, _, _, _, _, _, _, _, _] 3 z ty3 z <| P <| E <| CW.weak (C' := Q w l [_, _, _, _, _, _, _, _, _]) ?_ (ss [0, 1, 2, 3, 4, 5, 6, 7, 10] z z)
     refine aH <| A z <| d H fun a9 b8 H => aq z ry z z z z (fun f a => bo f b8 (a.carve [8] z z) (rdB [8] z z a g_p0b)) fun b8 f w2 a b1 => ?_
     obtain ⟨rfl, b8⟩ := b1
     refine ⟨Q w l [_, _, _, _, _, _, _, _, _, _], a.comp [8] z z b8, fun _ _ => Y, ?_⟩
     refine C [.fa 145 9 11 iY] z <| sC 11 [I J a9.1] [_, _, _, _, _, _, _, _, _, _, _, _] 3 z ty3 z <| P <| aH <| C [.fa 69 0 0 dD] z <| G z (r1 0 1 z ks z) <| G z (rx 0 3 _ z bp z) <| Eo z (fun f a => sd (x0 := L.1) (x1 := a2.1) (x2 := a3.1) (x4 := a6.1) (x7 := b2.1) (x9 := b3.1) (x10 := b4.1) (x11 := a9.1) [4, 5, 6, 7] a z z) fun a => jM (C' := Q w l [_, _, _, _, _, _, _, _, _, _, _]) z (fun _ h => h) <| gZ [(0, [B L.1, I J a2.1, I J a3.1, S a4 u.1.length a5, I J a6.1, S a7 x.1.length a8, S M o.length X, I J b2.1, S b6 b5.1.length b7, I J b3.1, I J b4.1, I J a9.1])] z z z z z eN bp z z ⟨z, z, nl z, Y⟩ [B L.1, I J a2.1, I J a3.1, S a4 u.1.length a5, I J a6.1, S a7 x.1.length a8, S M o.length X, I J b2.1, S b6 b5.1.length b7, I J b3.1, I J b4.1, I J a9.1] z (fun _ => kp) fun a => jM z (fun _ h => CL (p := 11) (q := 10) h z z z) <| d H fun a f H => pF (r := 2) (j := 12) z z z z z z eN bp z z z z z z z f (fun _ _ _ => kp) fun f o u => C [.fa 69 0 0 dD] z <| sC 0 [S f a.length o] [_, _] 1 z ks z <| ay <| bR <| R <| CW.weak (C' := Q w l [_, _, _, _, _]) ?_ (ss [0, 1, 3, 9, 13] z z)
     exact aH <| C [.p, .p, .p] z <| ay <| bU (RW.at (c2 (a9.2.c_) (a9.2.C_) (a) (f) (o) (u) (J.wrap (m - 1)) (H)) (ss [3, 0, 1, 4] z z) (c z))
   ·generalize (decide (F > 0)) = a at key ⊢
    cases a
    ·exact C [.p, .p, .p, .p, .p, .p] z <| OW.sub key (c z)
    ·exact C [.p, .p, .fa 96 2 2 qS] z <| G z (r1 2 0 z ty4 z) <| A z <| A z <| OW.sub key (c z)
  ·exact aU <| aB <| aE <| aA <| R <| D <| G z (rx 0 2 _ z jb z) <| sC 0 [S s k.length t, I J b0.1] [_, _] 1 z jb z <| nT <| Z H ▸ xc 1 jb z fun w' hw' => ⟨_, z, s, k.length, t, a1, z, hw'.sel [3, 0] z z⟩
 ·generalize (decide (m > 0)) = a at key ⊢
  cases a
  ·exact C [.p, .p, .p, .p, .p, .p] z <| OW.sub key (c z)
  ·exact C [.p, .p, .fa 96 2 2 qS] z <| G z (r1 2 0 z ty4 z) <| A z <| A z <| OW.sub key (c z)
theorem pZ (w) {u p0b p0 o a_p0b n_p0b c_p0b r} (H : dF p0b p0 = U r) (HS : Q w u [b o 96 [S a_p0b p0b.length c_p0b, I J p0.c_, B p0.C_]] w) (g_p0b : (V e8 5).rd w u p0b [S a_p0b n_p0b c_p0b]) :
    Calls Tryz.prog 54 #[O (U ⟨o, 0, N⟩)] w (fun en w' => ∃ v, en = .returned v ∧ ∃ a f c0 k, v = .agg #[S a f c0] ∧ Q w u [W (V (V eI 3) 63) k r.1.p_ [S a f c0], b o 96 [S a_p0b n_p0b c_p0b, I J r.2.c_, B r.2.C_]] w') := by
 obtain rfl := dc g_p0b
 unfold dF at H
 refine ar Tryz.func54 z Tryz.ntmps54 z (HS) <| D <| bn z z z z nz (fun _ => kp) fun F => nR <| G z (bv [] [S N 0 0] z z nz Pn z Y z) <| bn z z z z nz (fun _ => kp) fun L => sC 0 [S N 0 0] [_] 2 z nz z <| P <| E <| D <| A z <| d H fun M a H => aq z KL z z z z (fun X k => iE X a (k.carve [0] z z) (rdB [0] z z k g_p0b)) fun a X w2 k a => ?_
 obtain ⟨rfl, f⟩ := a
 refine ⟨Q w u [_, _, _, _], k.comp [0] z z f, fun _ _ => Y, ?_⟩
 refine A z <| P <| an <| CW.weak ?_ (fun _ h => St.pushNil (e := V eI 3) (T := 63) h)
 refine CW.at (wQ (fun (x : Int) (s : Bool) (a : List (List Int)) (l : Option Addr) (m : Nat) (t : List Nat) (f : Int) => Q w u [b o 96 [S a_p0b p0b.length c_p0b, I J x, B s], b F 71 [S N 0 0], b L 71 [S l a.length m], W (V (V eI 3) 63) t a [S l a.length m]]) (fun x s a l m t f => [(0, O (U ⟨o, 0, N⟩)), (2, O (U ⟨F, 0, N⟩)), (3, O (U ⟨L, 0, N⟩)), (4, I J f)]) (fun kk => fun x s a l m t f => eO p0b kk x s a f = U r) nofun (fun k1 a1 x s a l m t f H => ?_) aI (M.2.c_) (M.2.C_) (([] : List (List Int))) (N) (0) ([]) (M.1) (H)) (ss [3, 1, 2, 4] z z) (c z)
 unfold eO at H
 refine E <| D <| C [.p, .p, .p] z <| cu2 [(0, O (U ⟨o, 0, N⟩)), (2, O (U ⟨F, 0, N⟩)), (3, O (U ⟨L, 0, N⟩)), (4, I J f)] [(10, B (decide (f > 0)))] 6 (16, B ((decide (f > 0)) && (!s))) z ?_ fun key => ?_
 ·refine P <| cI H z ?_ ?_ <;> intro H
  ·refine ai <| R <| E <| an <| lu 5 [(0, y), (1, y), (2, y), (3, n), (4, n)] (Q w u [Res.nil, b F 71 [S N 0 0], b L 71 [S l a.length m], W (V (V eI 3) 63) t a [S l a.length m]]) dC (by kernel_rfl) (fT (cr (oG (fT (cr dx))))) (sm [n, y, y, y] z) <| C [.fa 71 0 0 kF] z <| ek z (aV z) (r1 0 2 z fw z) <| A z <| d H fun o s H => aq z JA z z z z (fun X k => gH X s (k.carve [0] z z) (rdB [0] z z k g_p0b)) fun s X w2 k L => ?_
   obtain ⟨x, s, F, s, rfl, s⟩ := L
   obtain rfl := aL (i := 0) s z
   refine ⟨Q w u [_, _, _, _, _, _], k.comp [0] z z s, (sm [n, y, y, y] z), ?_⟩
   refine gZ [(0, [S x o.1.length F])] z z z z z eg bP z z ⟨z, z, nl z, Y⟩ [S x o.1.length F] z (fun _ => (sm [n, y, y, y] z)) fun k => jM z (fun _ h => CL (p := 6) (q := 4) h z z z) <| jI <| we <| d H fun k s H => pF (r := 3) (j := 7) z z z z z z eg bP z z z z z z z s (fun _ _ _ => kp) fun s x F => C [.fa 71 0 0 kF] z <| sC 0 [S s k.length x] [_] 2 z fw z <| ay <| bR <| R <| CW.weak (C' := Q w u [_, _, _, _]) ?_ (ss [1, 2, 5, 8] z z)
   exact aH <| C [.p, .p, .p] z <| ay <| bU (RW.at (a1 (o.2.c_) (o.2.C_) (k) (s) (x) (F) (J.wrap (f - 1)) (H)) (ss [2, 0, 1, 3] z z) (c z))
  ·exact aU <| aB <| aE <| aA <| R <| D <| G z (rx 0 2 _ z nz z) <| sC 0 [S l a.length m] [_] 1 z nz z <| nT <| Z H ▸ xc 1 nz z fun w' hw' => ⟨_, z, l, a.length, m, t, z, hw'.sel [3, 0] z z⟩
 ·generalize (decide (f > 0)) = a at key ⊢
  cases a
  ·exact C [.p, .p, .p, .p, .p, .p] z <| OW.sub key (c z)
  ·exact C [.p, .p, .fa 96 2 2 qS] z <| G z (r1 2 0 z ty4 z) <| A z <| A z <| OW.sub key (c z)
theorem yi (w) {o p0 d9 a e0 r} (H : dS p0 = U r) (HS : Q w o [] w) (g0 : (V e8 5).rd w o p0 [S d9 a e0]) (gT : (eGl Tryz.prog).rd w o () []) :
    Calls Tryz.prog 18 #[S d9 a e0] w (fun en w' => ∃ v, en = .returned v ∧ ∃ a f c0 M k l c1 X m s c2 F2 t u c3 F3 F L c4 F4, v = .tuple #[.agg #[S a f c0, S k l c1, I J r.1.a_.b_.L_, I J r.1.a_.b_.N_, I J r.1.a_.b_.M_, I J r.1.a_.b_.h_, I J r.1.a_.b_.e_, I J r.1.a_.b_.E_, B r.1.a_.b_.Q_, I J r.1.a_.j_, I J r.1.a_.O_, I J r.1.a_.P_, I J r.1.a_.r_, I J r.1.a_.s_, S m s c2, S t u c3, S F L c4], B r.2] ∧ Q w o [W (V (aD) 123) M r.1.a_.g_.d_ [S a f c0], W (V (bC) 9) X r.1.a_.g_.f_ [S k l c1], W (V (aF) 75) F2 r.1.z_.j_ [S m s c2], W (V (V eI 3) 63) F3 r.1.m_.o_ [S t u c3], W (V (aK) 83) F4 r.1.m_.n_ [S F L c4]] w') := by
 obtain rfl := dc g0
 unfold dS at H
 refine ar Tryz.func18 z Tryz.ntmps18 z (HS) <| D <| bn z z z z cA (fun _ => kp) fun d7 => A z <| nR <| A z <| bq H Tb (fun _ f k a => Av k f (g g0 k a)) z tt2 fun s H => C [.p, .p, .p, .p, .p, .p, .p] z <| P <| E <| D <| oPP z <| P <| cI H z ?_ ?_ <;> intro H
 ·exact D <| G z (bv [] [S N 0 0, S N 0 0, I J 0, I J 0, I J 0, I J 0, I J 0, I J 0, B n, I J 0, I J 0, I J 0, I J 0, I J 0, S N 0 0, S N 0 0, S N 0 0] z z cA Ap z Y z) <| sC 0 [S N 0 0, S N 0 0, I J 0, I J 0, I J 0, I J 0, I J 0, I J 0, B n, I J 0, I J 0, I J 0, I J 0, I J 0, S N 0 0, S N 0 0, S N 0 0] [_, _, _, _, _, _, _, _, _, _, _, _, _, _, _, _, _] 0 z cA z <| A z <| nT <| aS <| aP (fun _ h => St.pushNil (e := aD) (T := 123) h) <| aP (fun _ h => St.pushNil (e := bC) (T := 9) h) <| aP (fun _ h => St.pushNil (e := aF) (T := 75) h) <| aP (fun _ h => St.pushNil (e := V eI 3) (T := 63) h) <| aP (fun _ h => St.pushNil (e := aK) (T := 83) h) <| Z H ▸ xc 0 cA z fun w' hw' => ⟨_, z, N, 0, 0, [], N, 0, 0, [], N, 0, 0, [], N, 0, 0, [], N, 0, 0, [], z, hw'.sel [1, 2, 3, 4, 5] z z⟩
 ·refine ai <| R <| D <| G z (bv [] [S N 0 0, S N 0 0, I J 0, I J 0, I J 0, I J 0, I J 0, I J 0, B n, I J 0, I J 0, I J 0, I J 0, I J 0, S N 0 0, S N 0 0, S N 0 0] z z cA Ap z Y z) <| bn z z z z cA (fun _ => kp) fun m => sC 0 [S N 0 0, S N 0 0, I J 0, I J 0, I J 0, I J 0, I J 0, I J 0, B n, I J 0, I J 0, I J 0, I J 0, I J 0, S N 0 0, S N 0 0, S N 0 0] [_, _, _, _, _, _, _, _, _, _, _, _, _, _, _, _, _] 1 z cA z <| nR <| A z <| d H fun f l H => aq z Ti z z z z (fun k a => zn k l (a.carve [] z z) (g gT k a)) fun l k w2 a t => ?_
  obtain ⟨a5, l, a6, e4, a7, l, a8, e5, rfl, l⟩ := t
  obtain rfl := aL (i := 0) l z
  obtain rfl := aL (i := 1) l z
  refine ⟨Q w o [_, _, _, _], a.comp [] z z l, fun _ _ => Y, ?_⟩
  refine C [.p, .p, .p, .fa 39 0 0 gW, .fa 30 0 0 mr] z <| sC 0 [S a5 f.1.d_.length a6, S a7 f.1.f_.length a8] [_, _, _, _, _, _, _, _, _, _, _, _, _, _, _, _, _] 1 z el z <| A z <| P <| E <| D <| oPP z <| P <| cI H z ?_ ?_ <;> intro H
  ·exact D <| G z (bv [] [S N 0 0, S N 0 0, I J 0, I J 0, I J 0, I J 0, I J 0, I J 0, B n, I J 0, I J 0, I J 0, I J 0, I J 0, S N 0 0, S N 0 0, S N 0 0] z z cA Ap z Y z) <| sC 0 [S N 0 0, S N 0 0, I J 0, I J 0, I J 0, I J 0, I J 0, I J 0, B n, I J 0, I J 0, I J 0, I J 0, I J 0, S N 0 0, S N 0 0, S N 0 0] [_, _, _, _, _, _, _, _, _, _, _, _, _, _, _, _, _] 0 z cA z <| A z <| nT <| aS <| aP (fun _ h => St.pushNil (e := aD) (T := 123) h) <| aP (fun _ h => St.pushNil (e := bC) (T := 9) h) <| aP (fun _ h => St.pushNil (e := aF) (T := 75) h) <| aP (fun _ h => St.pushNil (e := V eI 3) (T := 63) h) <| aP (fun _ h => St.pushNil (e := aK) (T := 83) h) <| Z H ▸ xc 0 cA z fun w' hw' => ⟨_, z, N, 0, 0, [], N, 0, 0, [], N, 0, 0, [], N, 0, 0, [], N, 0, 0, [], z, hw'.sel [4, 5, 6, 7, 8] z z⟩
  ·refine ai <| R <| D <| oPP z <| G z (bv [(0, [S d9 p0.length e0]), (1, [I J s.2.1])] [S d9 p0.length e0, I J s.2.1, B n] z z Sv SR z ⟨z, z, nl z, z, z, nl z, Y⟩ z) <| ob _ z fun d8 => A z <| nR <| C [.fa 39 0 0 gW, .fa 30 1 2 rK, .p] z <| P <| E <| E <| Ph [(0, y), (1, y), (2, y), (3, y), (4, y), (5, y), (6, y), (7, y), (8, y), (9, y), (10, y), (11, y), (12, y), (13, y), (14, y), (15, y), (16, y), (17, y), (20, y), (18, n), (19, y)] (Q w o [b d7 39 [S N 0 0, S N 0 0, I J 0, I J 0, I J 0, I J 0, I J 0, I J 0, B n, I J 0, I J 0, I J 0, I J 0, I J 0, S N 0 0, S N 0 0, S N 0 0], b m 39 [S a5 f.1.d_.length a6, S a7 f.1.f_.length a8, I J 0, I J 0, I J 0, I J 0, I J 0, I J 0, B n, I J 0, I J 0, I J 0, I J 0, I J 0, S N 0 0, S N 0 0, S N 0 0], W (V (aD) 123) e4 f.1.d_ [S a5 f.1.d_.length a6], W (V (bC) 9) e5 f.1.f_ [S a7 f.1.f_.length a8], b d8 96 [S d9 p0.length e0, I J s.2.1, B n]]) dC (by kernel_rfl) (cr (cr dx)) (tk 5 z) <| C [.p, .p, .fa 28 0 0 xi, .p, .p, .fa 28 1 1 wX, .p, .p, .fa 28 2 2 wC, .p, .p, .fa 28 3 3 un, .p, .p, .fa 28 4 4 ut, .p, .p, .fa 28 5 5 ul, .p] z <| gZ [(0, [O (U ⟨m, 2, N⟩)]), (1, [O (U ⟨m, 3, N⟩)]), (2, [O (U ⟨m, 4, N⟩)]), (3, [O (U ⟨m, 5, N⟩)]), (4, [O (U ⟨m, 6, N⟩)]), (5, [O (U ⟨m, 7, N⟩)])] z z z z z wI rr z z ⟨z, z, nl z, z, z, nl z, z, z, nl z, z, z, nl z, z, z, nl z, z, z, nl z, Y⟩ [O (U ⟨m, 2, N⟩), O (U ⟨m, 3, N⟩), O (U ⟨m, 4, N⟩), O (U ⟨m, 5, N⟩), O (U ⟨m, 6, N⟩), O (U ⟨m, 7, N⟩)] z (fun _ => (tk 5 z)) fun l => C [.lenS 99 98 wI] z <| jI <| R <| an <| tU 8 <| kW <| D <| A z <| P <| E <| xr z (fun t => ?_) (fun t => ?_)
   ·refine ai <| R <| E <| an <| D <| rL z z z z z wI rr (by decide) (by decide) z <| G z (r1 0 5 z rr z) <| A z <| P <| aH <| oPP z <| d H fun b8 l H => aq z ry z z z z (fun k a => bo k l (a.carve [4] z z) (rdB [4] z z a g0)) fun l k w2 a l => ?_
    obtain ⟨rfl, s⟩ := l
    refine ⟨Q w o [_, _, _, _, _, _, _], a.comp [4] z z s, fun _ _ => Y, ?_⟩
    refine A z <| sC 2 [I J b8.1] [_, _, _, _, _, _, _, _, _, _, _, _, _, _, _, _, _] 1 z ty3 z <| ay <| bR <| R <| aH <| oPP z <| ay <| bU <| kW <| D <| A z <| P <| E <| xr z (fun t => ?_) (fun t => ?_)
    ·refine ai <| R <| E <| an <| D <| rL z z z z z wI rr (by decide) (by decide) z <| G z (r1 1 5 z rr z) <| A z <| P <| aH <| oPP z <| d H fun b9 l H => aq z ry z z z z (fun k a => bo k l (a.carve [6] z z) (rdB [6] z z a g0)) fun l k w2 a l => ?_
     obtain ⟨rfl, s⟩ := l
     refine ⟨Q w o [_, _, _, _, _, _, _, _], a.comp [6] z z s, fun _ _ => Y, ?_⟩
     refine A z <| sC 3 [I J b9.1] [_, _, _, _, _, _, _, _, _, _, _, _, _, _, _, _, _] 1 z ty3 z <| ay <| bR <| R <| CW.weak (C' := Q w o [_, _, _, _, _, _]) ?_ (ss [0, 1, 2, 3, 5, 7] z z)
     refine aH <| oPP z <| ay <| bU <| kW <| D <| A z <| P <| E <| xr z (fun t => ?_) (fun t => ?_)
     ·refine ai <| R <| E <| an <| D <| rL z z z z z wI rr (by decide) (by decide) z <| G z (r1 2 4 z rr z) <| A z <| P <| aH <| oPP z <| d H fun c7 l H => aq z ry z z z z (fun k a => bo k l (a.carve [5] z z) (rdB [5] z z a g0)) fun l k w2 a l => ?_
      obtain ⟨rfl, s⟩ := l
      refine ⟨Q w o [_, _, _, _, _, _, _], a.comp [5] z z s, fun _ _ => Y, ?_⟩
      refine A z <| sC 4 [I J c7.1] [_, _, _, _, _, _, _, _, _, _, _, _, _, _, _, _, _] 1 z ty3 z <| ay <| bR <| R <| aH <| oPP z <| ay <| bU <| kW <| D <| A z <| P <| E <| xr z (fun t => ?_) (fun t => ?_)
      ·refine ai <| R <| E <| an <| D <| rL z z z z z wI rr (by decide) (by decide) z <| G z (r1 3 4 z rr z) <| A z <| P <| aH <| oPP z <| d H fun c8 l H => aq z ry z z z z (fun k a => bo k l (a.carve [6] z z) (rdB [6] z z a g0)) fun l k w2 a l => ?_
       obtain ⟨rfl, s⟩ := l
       refine ⟨Q w o [_, _, _, _, _, _, _, _], a.comp [6] z z s, fun _ _ => Y, ?_⟩
       refine A z <| sC 5 [I J c8.1] [_, _, _, _, _, _, _, _, _, _, _, _, _, _, _, _, _] 1 z ty3 z <| ay <| bR <| R <| CW.weak (C' := Q w o [_, _, _, _, _, _]) ?_ (ss [0, 1, 2, 3, 4, 7] z z)
       refine aH <| oPP z <| ay <| bU <| kW <| D <| A z <| P <| E <| xr z (fun t => ?_) (fun t => ?_)
       ·refine ai <| R <| E <| an <| D <| rL z z z z z wI rr (by decide) (by decide) z <| G z (r1 4 4 z rr z) <| A z <| P <| aH <| oPP z <| d H fun c9 l H => aq z ry z z z z (fun k a => bo k l (a.carve [5] z z) (rdB [5] z z a g0)) fun l k w2 a l => ?_
        obtain ⟨rfl, s⟩ := l
        refine ⟨Q w o [_, _, _, _, _, _, _], a.comp [5] z z s, fun _ _ => Y, ?_⟩
        refine A z <| sC 6 [I J c9.1] [_, _, _, _, _, _, _, _, _, _, _, _, _, _, _, _, _] 1 z ty3 z <| ay <| bR <| R <| aH <| oPP z <| ay <| bU <| kW <| D <| A z <| P <| E <| xr z (fun t => ?_) (fun t => ?_)
        ·refine ai <| R <| E <| an <| D <| rL z z z z z wI rr (by decide) (by decide) z <| G z (r1 5 4 z rr z) <| A z <| P <| aH <| oPP z <| d H fun d0 l H => aq z ry z z z z (fun k a => bo k l (a.carve [6] z z) (rdB [6] z z a g0)) fun l k w2 a l => ?_
         obtain ⟨rfl, s⟩ := l
         refine ⟨Q w o [_, _, _, _, _, _, _, _], a.comp [6] z z s, fun _ _ => Y, ?_⟩
         refine A z <| sC 7 [I J d0.1] [_, _, _, _, _, _, _, _, _, _, _, _, _, _, _, _, _] 1 z ty3 z <| ay <| bR <| R <| CW.weak (C' := Q w o [_, _, _, _, _, _]) ?_ (ss [0, 1, 2, 3, 4, 7] z z)
         refine aH <| oPP z <| ay <| bU <| kW <| D <| A z <| P <| E <| xr z (fun t => ?_) (fun t => ?_)
         ·exact absurd t (by decide)
         ·refine aU <| aB <| aE <| aA <| R <| D <| oPP z <| d H fun d1 l H => aq z Pv z z z z (fun k a => nL k l (a.carve [5] z z) (rdB [5] z z a g0)) fun l k w2 a l => ?_
          obtain ⟨rfl, s⟩ := l
          refine ⟨Q w o [_, _, _, _, _, _, _], a.comp [5] z z s, fun _ _ => Y, ?_⟩
          refine C [.p, .fa 28 6 6 CC] z <| sC 8 [B d1.1] [_, _, _, _, _, _, _, _, _, _, _, _, _, _, _, _, _] 1 z ty4 z <| P <| E <| D <| C [.fa 39 0 0 gW, .fa 30 2 9 rV, .fa 39 0 0 gW, .fa 30 3 10 wF, .fa 39 0 0 gW, .fa 30 4 11 xh, .fa 39 0 0 gW, .fa 30 5 12 ua, .fa 39 0 0 gW, .fa 30 6 13 us] z <| gZ [(0, [O (U ⟨m, 9, N⟩)]), (1, [O (U ⟨m, 10, N⟩)]), (2, [O (U ⟨m, 11, N⟩)]), (3, [O (U ⟨m, 12, N⟩)]), (4, [O (U ⟨m, 13, N⟩)])] z z z z z wI rr z z ⟨z, z, nl z, z, z, nl z, z, z, nl z, z, z, nl z, z, z, nl z, Y⟩ [O (U ⟨m, 9, N⟩), O (U ⟨m, 10, N⟩), O (U ⟨m, 11, N⟩), O (U ⟨m, 12, N⟩), O (U ⟨m, 13, N⟩)] z (fun _ => kp) fun l => C [.lenS 99 98 wI, .p] z <| P <| an <| tU 7 <| kW <| D <| A z <| P <| E <| xr z (fun t => ?_) (fun t => ?_)
          ·refine ai <| R <| E <| an <| D <| rL z z z z z wI rr (by decide) (by decide) z <| G z (r1 0 7 z rr z) <| A z <| P <| aH <| oPP z <| d H fun b4 l H => aq z ry z z z z (fun k a => bo k l (a.carve [6] z z) (rdB [6] z z a g0)) fun l k w2 a l => ?_
           obtain ⟨rfl, s⟩ := l
           refine ⟨Q w o [_, _, _, _, _, _, _, _, _], a.comp [6] z z s, fun _ _ => Y, ?_⟩
           refine A z <| sC 9 [I J b4.1] [_, _, _, _, _, _, _, _, _, _, _, _, _, _, _, _, _] 1 z ty3 z <| ay <| bR <| R <| CW.weak (C' := Q w o [_, _, _, _, _, _, _]) ?_ (ss [0, 1, 2, 3, 4, 7, 8] z z)
           refine aH <| oPP z <| ay <| bU <| kW <| D <| A z <| P <| E <| xr z (fun t => ?_) (fun t => ?_)
           ·refine ai <| R <| E <| an <| D <| rL z z z z z wI rr (by decide) (by decide) z <| G z (r1 1 5 z rr z) <| A z <| P <| aH <| oPP z <| d H fun d2 l H => aq z ry z z z z (fun k a => bo k l (a.carve [6] z z) (rdB [6] z z a g0)) fun l k w2 a l => ?_
            obtain ⟨rfl, s⟩ := l
            refine ⟨Q w o [_, _, _, _, _, _, _, _], a.comp [6] z z s, fun _ _ => Y, ?_⟩
            refine A z <| sC 10 [I J d2.1] [_, _, _, _, _, _, _, _, _, _, _, _, _, _, _, _, _] 1 z ty3 z <| ay <| bR <| R <| aH <| oPP z <| ay <| bU <| kW <| D <| A z <| P <| E <| xr z (fun t => ?_) (fun t => ?_)
            ·refine ai <| R <| E <| an <| D <| rL z z z z z wI rr (by decide) (by decide) z <| G z (r1 2 5 z rr z) <| A z <| P <| aH <| oPP z <| d H fun d3 l H => aq z ry z z z z (fun k a => bo k l (a.carve [7] z z) (rdB [7] z z a g0)) fun l k w2 a l => ?_
             obtain ⟨rfl, s⟩ := l
             refine ⟨Q w o [_, _, _, _, _, _, _, _, _], a.comp [7] z z s, fun _ _ => Y, ?_⟩
             refine A z <| sC 11 [I J d3.1] [_, _, _, _, _, _, _, _, _, _, _, _, _, _, _, _, _] 1 z ty3 z <| ay <| bR <| R <| CW.weak (C' := Q w o [_, _, _, _, _, _, _]) ?_ (ss [0, 1, 2, 3, 4, 5, 8] z z)
             refine aH <| oPP z <| ay <| bU <| kW <| D <| A z <| P <| E <| xr z (fun t => ?_) (fun t => ?_)
             ·refine ai <| R <| E <| an <| D <| rL z z z z z wI rr (by decide) (by decide) z <| G z (r1 3 5 z rr z) <| A z <| P <| aH <| oPP z <| d H fun d4 l H => aq z ry z z z z (fun k a => bo k l (a.carve [6] z z) (rdB [6] z z a g0)) fun l k w2 a l => ?_
              obtain ⟨rfl, s⟩ := l
              refine ⟨Q w o [_, _, _, _, _, _, _, _], a.comp [6] z z s, fun _ _ => Y, ?_⟩
              refine A z <| sC 12 [I J d4.1] [_, _, _, _, _, _, _, _, _, _, _, _, _, _, _, _, _] 1 z ty3 z <| ay <| bR <| R <| aH <| oPP z <| ay <| bU <| kW <| D <| A z <| P <| E <| xr z (fun t => ?_) (fun t => ?_)
              ·refine ai <| R <| E <| an <| D <| rL z z z z z wI rr (by decide) (by decide) z <| G z (r1 4 5 z rr z) <| A z <| P <| aH <| oPP z <| d H fun a9 l H => aq z ry z z z z (fun k a => bo k l (a.carve [7] z z) (rdB [7] z z a g0)) fun l k w2 a l => ?_
               obtain ⟨rfl, s⟩ := l
               refine ⟨Q w o [_, _, _, _, _, _, _, _, _], a.comp [7] z z s, fun _ _ => Y, ?_⟩
               refine A z <| sC 13 [I J a9.1] [_, _, _, _, _, _, _, _, _, _, _, _, _, _, _, _, _] 1 z ty3 z <| ay <| bR <| R <| CW.weak (C' := Q w o [_, _, _, _, _, _, _]) ?_ (ss [0, 1, 2, 3, 4, 5, 8] z z)
               refine aH <| oPP z <| ay <| bU <| kW <| D <| A z <| P <| E <| xr z (fun t => ?_) (fun t => ?_)
               ·exact absurd t (by decide)
               ·refine aU <| aB <| aE <| aA <| R <| E <| D <| C [.p, .p, .fa 96 2 2 qS] z <| G z (r1 2 6 z ty4 z) <| A z <| d H fun l f2 H => cu2 [(2, O (U ⟨d7, 0, N⟩)), (7, O (U ⟨m, 0, N⟩)), (8, O (U ⟨d8, 0, N⟩))] [(102, B a9.2.C_)] 5 (107, B l) z ?_ fun key => ?_
                ·refine P <| cI H z ?_ ?_ <;> intro H
                 ·exact D <| G z (bv [] [S N 0 0, S N 0 0, I J 0, I J 0, I J 0, I J 0, I J 0, I J 0, B n, I J 0, I J 0, I J 0, I J 0, I J 0, S N 0 0, S N 0 0, S N 0 0] z z cA Ap z Y z) <| sC 0 [S N 0 0, S N 0 0, I J 0, I J 0, I J 0, I J 0, I J 0, I J 0, B n, I J 0, I J 0, I J 0, I J 0, I J 0, S N 0 0, S N 0 0, S N 0 0] [_, _, _, _, _, _, _, _, _, _, _, _, _, _, _, _, _] 0 z cA z <| A z <| nT <| aS <| aP (fun _ h => St.pushNil (e := aD) (T := 123) h) <| aP (fun _ h => St.pushNil (e := bC) (T := 9) h) <| aP (fun _ h => St.pushNil (e := aF) (T := 75) h) <| aP (fun _ h => St.pushNil (e := V eI 3) (T := 63) h) <| aP (fun _ h => St.pushNil (e := aK) (T := 83) h) <| Z H ▸ xc 0 cA z fun w' hw' => ⟨_, z, N, 0, 0, [], N, 0, 0, [], N, 0, 0, [], N, 0, 0, [], N, 0, 0, [], z, hw'.sel [7, 8, 9, 10, 11] z z⟩
                 ·refine ai <| R <| E <| D <| C [.fa 39 0 0 gW, .fa 30 2 9 rV] z <| G z (r1 9 1 z ty3 z) <| A z <| P <| an <| CW.weak ?_ (fun _ h => St.pushNil (e := aF) (T := 75) h)
                  refine CW.at (wQ (fun (M : Int) (l : List au) (u : Option Addr) (F : Nat) (b6 : List Nat) (X : Int) (b1 : Bool) => Q w o [b d7 39 [S N 0 0, S N 0 0, I J 0, I J 0, I J 0, I J 0, I J 0, I J 0, B n, I J 0, I J 0, I J 0, I J 0, I J 0, S N 0 0, S N 0 0, S N 0 0], b m 39 [S a5 f.1.d_.length a6, S a7 f.1.f_.length a8, I J b8.1, I J b9.1, I J c7.1, I J c8.1, I J c9.1, I J d0.1, B d1.1, I J b4.1, I J d2.1, I J d3.1, I J d4.1, I J a9.1, S u l.length F, S N 0 0, S N 0 0], W (V (aD) 123) e4 f.1.d_ [S a5 f.1.d_.length a6], W (V (bC) 9) e5 f.1.f_ [S a7 f.1.f_.length a8], W (V (aF) 75) b6 l [S u l.length F], b d8 96 [S d9 p0.length e0, I J X, B b1]]) (fun M l u F b6 X b1 => [(2, O (U ⟨d7, 0, N⟩)), (7, O (U ⟨m, 0, N⟩)), (8, O (U ⟨d8, 0, N⟩)), (111, I J b4.1), (112, I J M)]) (fun kk => fun M l u F b6 X b1 => ee b4 p0 f b8 b9 c7 c8 c9 d0 d1 d2 d3 d4 a9 kk M l X b1 = U r) nofun (fun s f3 M l u F b6 X b1 H => ?_) aI (0) (([] : List au)) (N) (0) ([]) (a9.2.c_) (a9.2.C_) (H)) (ss [0, 1, 2, 3, 7, 6] z z) (c z)
                  unfold ee at H
                  refine D <| A z <| P <| E <| cI H z ?_ ?_ <;> intro H
                  ·refine ai <| R <| E <| an <| D <| A z <| d H fun s L H => aq z RV z z z z (fun k a => rf k L (a.carve [5] z z) (rdB [5] z z a g0)) fun L k w2 a b7 => ?_
                   obtain ⟨b2, L, b3, L, rfl, L⟩ := b7
                   obtain rfl := aL (i := 0) L z
                   refine ⟨Q w o [_, _, _, _, _, _, _, _], a.comp [5] z z L, fun _ _ => Y, ?_⟩
                   refine G z (bv [(0, [S b2 s.1.e_.length b3, I J s.1.y_])] [S b2 s.1.e_.length b3, I J s.1.y_, B n, S N 0 0, I J 0, S N 0 0, S N 0 0] z z fO OQ z ⟨z, z, nl z, Y⟩ z) <| bn z z z z fO (fun _ => kp) fun L => sC 0 [S b2 s.1.e_.length b3, I J s.1.y_, B n, S N 0 0, I J 0, S N 0 0, S N 0 0] [_, _, _, _, _, _, _] 8 z fO z <| nR <| A z <| d H fun d5 L H => aq z Pv z z z z (fun k a => nL k L (a.carve [7] z z) (rdB [7] z z a g0)) fun L k w2 a L => ?_
                   obtain ⟨rfl, b7⟩ := L
                   refine ⟨Q w o [_, _, _, _, _, _, _, _, _, _], a.comp [7] z z b7, fun _ _ => Y, ?_⟩
                   refine C [.fa 75 1 2 uc] z <| sC 2 [B d5.1] [_, _, _, _, _, _, _] 8 z ty4 z <| P <| E <| CW.weak (C' := Q w o [_, _, _, _, _, _, _, _]) ?_ (ss [0, 1, 2, 3, 4, 6, 8, 9] z z)
                   refine aH <| A z <| d H fun L b7 H => aq z RV z z z z (fun k a => rf k b7 (a.carve [7] z z) (rdB [7] z z a g0)) fun b7 k w2 a e2 => ?_
                   obtain ⟨d6, b7, e1, b7, rfl, b7⟩ := e2
                   obtain rfl := aL (i := 0) b7 z
                   refine ⟨Q w o [_, _, _, _, _, _, _, _, _, _], a.comp [7] z z b7, fun _ _ => Y, ?_⟩
                   refine C [.fa 75 2 3 pG] z <| sC 3 [S d6 L.1.e_.length e1, I J L.1.y_] [_, _, _, _, _, _, _] 6 z jb z <| nR <| A z <| d H fun e2 b7 H => aq z QK z z z z (fun k a => pZ k b7 (a.carve [9] z z) (rdB [9] z z a g0)) fun b7 k w2 a e7 => ?_
                   obtain ⟨e3, b7, e6, b7, rfl, b7⟩ := e7
                   obtain rfl := aL (i := 0) b7 z
                   refine ⟨Q w o [_, _, _, _, _, _, _, _, _, _, _, _], a.comp [9] z z b7, fun _ _ => Y, ?_⟩
                   refine C [.fa 75 3 5 pA, .fa 73 0 0 uj] z <| sC 5 [S e3 e2.1.p_.length e6] [_, _, _, _, _, _, _] 6 z nz z <| P <| E <| CW.weak (C' := Q w o [_, _, _, _, _, _, _, _, _, _]) ?_ (ss [0, 1, 2, 3, 4, 5, 6, 8, 10, 11] z z)
                   refine aH <| A z <| d H fun b7 e7 H => aq z QK z z z z (fun k a => pZ k e7 (a.carve [9] z z) (rdB [9] z z a g0)) fun e7 k w2 a f1 => ?_
                   obtain ⟨e7, e9, e9, f0, rfl, f0⟩ := f1
                   obtain rfl := aL (i := 0) f0 z
                   refine ⟨Q w o [_, _, _, _, _, _, _, _, _, _, _, _], a.comp [9] z z f0, fun _ _ => Y, ?_⟩
                   refine C [.fa 75 3 5 pA, .fa 73 1 1 uk] z <| sC 6 [S e7 b7.1.p_.length e9] [_, _, _, _, _, _, _] 6 z nz z <| P <| aH <| C [.fa 39 1 14 qi, .fa 33 0 0 nK] z <| G z (r1 14 1 z wi z) <| G z (rx 0 6 _ z fO z) <| Eo z (fun k a => qj (x1 := s.1.y_) (x2 := d5.1) (x4 := L.1.y_) [5, 7, 8, 10] a z z) fun f0 => jM (C' := Q w o [_, _, _, _, _, _, _, _, _, _, _, _, _]) z (fun _ h => h) <| gZ [(0, [S b2 s.1.e_.length b3, I J s.1.y_, B d5.1, S d6 L.1.e_.length e1, I J L.1.y_, S e3 e2.1.p_.length e6, S e7 b7.1.p_.length e9])] z z z z z mU fO z z ⟨z, z, nl z, Y⟩ [S b2 s.1.e_.length b3, I J s.1.y_, B d5.1, S d6 L.1.e_.length e1, I J L.1.y_, S e3 e2.1.p_.length e6, S e7 b7.1.p_.length e9] z (fun _ => kp) fun s => jM z (fun _ h => CL (p := 13) (q := 12) h z z z) <| d H fun s L H => pF (r := 4) (j := 14) z z z z z z mU fO z z z z z z z L (fun _ _ _ => kp) fun L b2 b3 => C [.fa 39 1 14 qi, .fa 33 0 0 nK] z <| sC 14 [S L s.length b2] [_, _, _, _, _, _, _, _, _, _, _, _, _, _, _, _, _] 1 z wi z <| ay <| bR <| R <| CW.weak (C' := Q w o [_, _, _, _, _, _, _]) ?_ (ss [0, 1, 2, 3, 6, 11, 15] z z)
                   exact aH <| oPP z <| ay <| bU (RW.at (f3 (J.wrap (M + 1)) (s) (L) (b2) (b3) (b7.2.c_) (b7.2.C_) (H)) (ss [0, 1, 2, 3, 6, 5] z z) (c z))
                  ·refine aU <| aB <| aE <| aA <| R <| E <| D <| C [.fa 39 0 0 gW, .fa 30 0 0 mr, .fa 26 1 1 lz] z <| G z (r1 1 1 z mZ z) <| C [.lenS 24 9 eo, .p] z <| P <| an <| CW.weak ?_ (fun _ h => St.pushNil (e := V eI 3) (T := 63) h)
                   refine CW.at (wQ (fun (b2 : Int) (s : List (List Int)) (L : Option Addr) (M : Nat) (d5 : List Nat) (b3 : Int) (b7 : Bool) => Q w o [b d7 39 [S N 0 0, S N 0 0, I J 0, I J 0, I J 0, I J 0, I J 0, I J 0, B n, I J 0, I J 0, I J 0, I J 0, I J 0, S N 0 0, S N 0 0, S N 0 0], b m 39 [S a5 f.1.d_.length a6, S a7 f.1.f_.length a8, I J b8.1, I J b9.1, I J c7.1, I J c8.1, I J c9.1, I J d0.1, B d1.1, I J b4.1, I J d2.1, I J d3.1, I J d4.1, I J a9.1, S u l.length F, S L s.length M, S N 0 0], W (V (aD) 123) e4 f.1.d_ [S a5 f.1.d_.length a6], W (V (bC) 9) e5 f.1.f_ [S a7 f.1.f_.length a8], W (V (aF) 75) b6 l [S u l.length F], W (V (V eI 3) 63) d5 s [S L s.length M], b d8 96 [S d9 p0.length e0, I J b3, B b7]]) (fun b2 s L M d5 b3 b7 => [(2, O (U ⟨d7, 0, N⟩)), (7, O (U ⟨m, 0, N⟩)), (8, O (U ⟨d8, 0, N⟩)), (144, I J (f.1.f_.length : Int)), (145, I J b2)]) (fun kk => fun b2 s L M d5 b3 b7 => eQ f p0 b8 b9 c7 c8 c9 d0 d1 b4 d2 d3 d4 a9 l kk b2 s b3 b7 = U r) nofun (fun k2 e1 b2 s L M d5 b3 b7 H => ?_) aI (0) (([] : List (List Int))) (N) (0) ([]) (X) (b1) (H)) (ss [0, 1, 2, 3, 4, 6, 5] z z) (c z)
                   unfold eQ at H
                   refine D <| A z <| P <| E <| cI H z ?_ ?_ <;> intro H
                   ·refine ai <| R <| E <| an <| lu 6 [(0, y), (1, y), (2, y), (3, y), (4, n), (5, n)] (Q w o [b d7 39 [S N 0 0, S N 0 0, I J 0, I J 0, I J 0, I J 0, I J 0, I J 0, B n, I J 0, I J 0, I J 0, I J 0, I J 0, S N 0 0, S N 0 0, S N 0 0], b m 39 [S a5 f.1.d_.length a6, S a7 f.1.f_.length a8, I J b8.1, I J b9.1, I J c7.1, I J c8.1, I J c9.1, I J d0.1, B d1.1, I J b4.1, I J d2.1, I J d3.1, I J d4.1, I J a9.1, S u l.length F, S L s.length M, S N 0 0], W (V (aD) 123) e4 f.1.d_ [S a5 f.1.d_.length a6], W (V (bC) 9) e5 f.1.f_ [S a7 f.1.f_.length a8], W (V (aF) 75) b6 l [S u l.length F], W (V (V eI 3) 63) d5 s [S L s.length M], Res.nil]) dC (by kernel_rfl) (fT (cr (oG (fT (cr dx))))) (sm [y, y, y, y, y, y, n] z) <| C [.fa 39 2 15 jD, .fa 37 0 0 kQ] z <| ek z (aV z) (r1 15 1 z fw z) <| A z <| d H fun X b1 H => aq z JA z z z z (fun k a => gH k b1 (a.carve [6] z z) (rdB [6] z z a g0)) fun b1 k w2 a d6 => ?_
                    obtain ⟨b3, b1, b7, b1, rfl, b1⟩ := d6
                    obtain rfl := aL (i := 0) b1 z
                    refine ⟨Q w o [_, _, _, _, _, _, _, _, _], a.comp [6] z z b1, (sm [y, y, y, y, y, y, n] z), ?_⟩
                    refine gZ [(0, [S b3 X.1.length b7])] z z z z z eg bP z z ⟨z, z, nl z, Y⟩ [S b3 X.1.length b7] z (fun _ => (sm [y, y, y, y, y, y, n] z)) fun b1 => jM z (fun _ h => CL (p := 9) (q := 7) h z z z) <| jI <| we <| d H fun b1 b3 H => pF (r := 5) (j := 10) z z z z z z eg bP z z z z z z z b3 (fun _ _ _ => kp) fun b3 b7 d6 => C [.fa 39 2 15 jD, .fa 37 0 0 kQ] z <| sC 15 [S b3 b1.length b7] [_, _, _, _, _, _, _, _, _, _, _, _, _, _, _, _, _] 1 z fw z <| ay <| bR <| R <| CW.weak (C' := Q w o [_, _, _, _, _, _, _]) ?_ (ss [0, 1, 2, 3, 4, 8, 11] z z)
                    exact aH <| oPP z <| ay <| bU (RW.at (e1 (J.wrap (b2 + 1)) (b1) (b3) (b7) (d6) (X.2.c_) (X.2.C_) (H)) (ss [0, 1, 2, 3, 4, 6, 5] z z) (c z))
                   ·refine aU <| aB <| aE <| aA <| R <| E <| D <| A z <| d H fun b3 X H => aq z KL z z z z (fun k a => iE k X (a.carve [6] z z) (rdB [6] z z a g0)) fun X k w2 a X => ?_
                    obtain ⟨rfl, b1⟩ := X
                    refine ⟨Q w o [_, _, _, _, _, _, _, _], a.comp [6] z z b1, fun _ _ => Y, ?_⟩
                    refine A z <| P <| an <| CW.weak ?_ (fun _ h => St.pushNil (e := aK) (T := 83) h)
                    refine CW.at (wQ (fun (b7 : Int) (X : List aC) (b1 : Option Addr) (b2 : Nat) (e1 : List Nat) (e3 : Int) (e2 : Bool) => Q w o [b d7 39 [S N 0 0, S N 0 0, I J 0, I J 0, I J 0, I J 0, I J 0, I J 0, B n, I J 0, I J 0, I J 0, I J 0, I J 0, S N 0 0, S N 0 0, S N 0 0], b m 39 [S a5 f.1.d_.length a6, S a7 f.1.f_.length a8, I J b8.1, I J b9.1, I J c7.1, I J c8.1, I J c9.1, I J d0.1, B d1.1, I J b4.1, I J d2.1, I J d3.1, I J d4.1, I J a9.1, S u l.length F, S L s.length M, S b1 X.length b2], W (V (aD) 123) e4 f.1.d_ [S a5 f.1.d_.length a6], W (V (bC) 9) e5 f.1.f_ [S a7 f.1.f_.length a8], W (V (aF) 75) b6 l [S u l.length F], W (V (V eI 3) 63) d5 s [S L s.length M], W (V (aK) 83) e1 X [S b1 X.length b2], b d8 96 [S d9 p0.length e0, I J e3, B e2]]) (fun b7 X b1 b2 e1 e3 e2 => [(2, O (U ⟨d7, 0, N⟩)), (7, O (U ⟨m, 0, N⟩)), (8, O (U ⟨d8, 0, N⟩)), (15, I J b7)]) (fun kk => fun b7 X b1 b2 e1 e3 e2 => eT p0 f b8 b9 c7 c8 c9 d0 d1 b4 d2 d3 d4 a9 l s kk b7 X e3 e2 = U r) nofun (fun k3 e7 b7 X b1 b2 e1 e3 e2 H => ?_) aI (b3.1) (([] : List aC)) (N) (0) ([]) (b3.2.c_) (b3.2.C_) (H)) (ss [0, 1, 2, 3, 4, 5, 8, 7] z z) (c z)
                    unfold eT at H
                    refine E <| D <| C [.p, .p, .p] z <| cu2 [(2, O (U ⟨d7, 0, N⟩)), (7, O (U ⟨m, 0, N⟩)), (8, O (U ⟨d8, 0, N⟩)), (15, I J b7)] [(161, B (decide (b7 > 0)))] 6 (167, B ((decide (b7 > 0)) && (!e2))) z ?_ fun key => ?_
                    ·refine P <| cI H z ?_ ?_ <;> intro H
                     ·refine ai <| R <| E <| an <| D <| A z <| d H fun d6 b3 H => aq z ry z z z z (fun k a => bo k b3 (a.carve [7] z z) (rdB [7] z z a g0)) fun b3 k w2 a b3 => ?_
                      obtain ⟨rfl, e6⟩ := b3
                      refine ⟨Q w o [_, _, _, _, _, _, _, _, _], a.comp [7] z z e6, fun _ _ => Y, ?_⟩
                      refine G z (bv [(0, [I J d6.1])] [I J d6.1, I J 0] z z nG Rf z ⟨z, z, nl z, Y⟩ z) <| bn z z z z nG (fun _ => kp) fun e6 => sC 0 [I J d6.1, I J 0] [_, _] 9 z nG z <| nR <| A z <| d H fun b3 e9 H => aq z ry z z z z (fun k a => bo k e9 (a.carve [8] z z) (rdB [8] z z a g0)) fun b0 k w2 a b0 => ?_
                      obtain ⟨rfl, b5⟩ := b0
                      refine ⟨Q w o [_, _, _, _, _, _, _, _, _, _, _], a.comp [8] z z b5, fun _ _ => Y, ?_⟩
                      refine C [.fa 83 1 1 rN] z <| sC 1 [I J b3.1] [_, _] 9 z ty3 z <| P <| CW.weak (C' := Q w o [_, _, _, _, _, _, _, _, _]) ?_ (ss [0, 1, 2, 3, 4, 5, 6, 9, 10] z z)
                      refine aH <| C [.fa 39 2 15 jD, .fa 37 1 1 kq] z <| G z (r1 16 1 z tt z) <| G z (rx 0 7 _ z nG z) <| Hh ([(aC.mk d6.1 b3.1)] : List aC) [(0, [I J d6.1, I J b3.1])] z z z z z nO nG z z z z ⟨z, z, nl z, Y⟩ z (fun _ => kp) (fun b0 => (?_ : OW _ _ _ (Q w o [b d7 39 [S N 0 0, S N 0 0, I J 0, I J 0, I J 0, I J 0, I J 0, I J 0, B n, I J 0, I J 0, I J 0, I J 0, I J 0, S N 0 0, S N 0 0, S N 0 0], b m 39 [S a5 f.1.d_.length a6, S a7 f.1.f_.length a8, I J b8.1, I J b9.1, I J c7.1, I J c8.1, I J c9.1, I J d0.1, B d1.1, I J b4.1, I J d2.1, I J d3.1, I J d4.1, I J a9.1, S u l.length F, S L s.length M, S b1 X.length b2], W (V (aD) 123) e4 f.1.d_ [S a5 f.1.d_.length a6], W (V (bC) 9) e5 f.1.f_ [S a7 f.1.f_.length a8], W (V (aF) 75) b6 l [S u l.length F], W (V (V eI 3) 63) d5 s [S L s.length M], W (V (aK) 83) e1 X [S b1 X.length b2], b e6 83 [I J d6.1, I J b3.1], b d8 96 [S d9 p0.length e0, I J b3.2.c_, B b3.2.C_], W (V (aK) 83) [b0] [(aC.mk d6.1 b3.1)] [S (U ⟨b0, 0, N⟩) ([(aC.mk d6.1 b3.1)] : List aC).length 1]]) _ _ _))
                      exact d H fun b0 b5 H => IQ (r := 6) (ys := ([(aC.mk d6.1 b3.1)] : List aC)) z z z z z z nO nG z z z z z (fun k a => av (e := V (aK) 83) (r := 9) z k a) b5 (fun _ _ _ => kp) fun d6 d7 e6 => eF z (fun k a => kK (i := 6) a z (kC b5)) fun b5 => C [.fa 39 2 15 jD, .fa 37 1 1 kq] z <| sC 16 [S d6 b0.length d7] [_, _, _, _, _, _, _, _, _, _, _, _, _, _, _, _, _] 1 z tt z <| ay <| bR <| R <| aH <| C [.p, .p, .p] z <| ay <| bU (RW.at (e7 (J.wrap (b7 - 1)) (b0) (d6) (d7) (e6) (b3.2.c_) (b3.2.C_) (H)) (ss [0, 1, 2, 3, 4, 5, 6, 8] z z) (c z))
                     ·exact aU <| aB <| aE <| aA <| R <| E <| lu 7 [(0, y), (1, y), (2, y), (3, y), (4, y), (5, y), (6, n)] (Q w o [Res.nil, b m 39 [S a5 f.1.d_.length a6, S a7 f.1.f_.length a8, I J b8.1, I J b9.1, I J c7.1, I J c8.1, I J c9.1, I J d0.1, B d1.1, I J b4.1, I J d2.1, I J d3.1, I J d4.1, I J a9.1, S u l.length F, S L s.length M, S b1 X.length b2], W (V (aD) 123) e4 f.1.d_ [S a5 f.1.d_.length a6], W (V (bC) 9) e5 f.1.f_ [S a7 f.1.f_.length a8], W (V (aF) 75) b6 l [S u l.length F], W (V (V eI 3) 63) d5 s [S L s.length M], W (V (aK) 83) e1 X [S b1 X.length b2], b d8 96 [S d9 p0.length e0, I J e3, B e2]]) dC (by kernel_rfl) (cr dx) (sm [n, y, y, y, y, y, y, y] z) <| ek z (aV z) (rx 0 1 _ z cA z) <| C [.p, .p, .fa 96 2 2 qS] z <| ek z (aV z) (r1 2 7 z ty4 z) <| A z <| DQ (off := 0) [S a5 f.1.d_.length a6, S a7 f.1.f_.length a8, I J b8.1, I J b9.1, I J c7.1, I J c8.1, I J c9.1, I J d0.1, B d1.1, I J b4.1, I J d2.1, I J d3.1, I J d4.1, I J a9.1, S u l.length F, S L s.length M, S b1 X.length b2] [_, _, _, _, _, _, _, _, _, _, _, _, _, _, _, _, _] (i := 0) z z z z z z cA z z (al z) z z z (sm [n, y, y, y, y, y, y, y] z) <| jI <| we <| A z <| nT <| Z H ▸ xc 0 cA z fun w' hw' => ⟨_, z, a5, f.1.d_.length, a6, e4, a7, f.1.f_.length, a8, e5, u, l.length, F, b6, L, s.length, M, d5, b1, X.length, b2, e1, z, hw'.sel [2, 3, 4, 5, 6] z z⟩
                    ·generalize (decide (b7 > 0)) = l at key ⊢
                     cases l
                     ·exact C [.p, .p, .p, .p, .p, .p] z <| OW.sub key (c z)
                     ·exact C [.p, .p, .fa 96 2 2 qS] z <| G z (r1 2 7 z ty4 z) <| A z <| A z <| OW.sub key (c z)
                ·have H := f2
                 generalize a9.2.C_ = l at H key ⊢
                 cases l
                 ·have H := aN z H
                  refine C [.fa 39 0 0 gW] z <| G z (rx 0 1 _ z uM z) <| bq H OM (fun _ l k a => sv k l (bx (x := (aR.mk f.1 (bw.mk b8.1 b9.1 c7.1 c8.1 c9.1 d0.1 d1.1) b4.1 d2.1 d3.1 d4.1 a9.1)) (c0 := [S a5 f.1.d_.length a6, S a7 f.1.f_.length a8]) (c1 := [I J b8.1, I J b9.1, I J c7.1, I J c8.1, I J c9.1, I J d0.1, B d1.1]) (c2 := [I J b4.1]) (c3 := [I J d2.1]) (c4 := [I J d3.1]) (c5 := [I J d4.1]) (c6 := [I J a9.1]) (aw (x := f.1) (c0 := [S a5 f.1.d_.length a6]) (c1 := [S a7 f.1.f_.length a8]) (av (e := V (aD) 123) (r := 2) z k a) (av (e := V (bC) 9) (r := 3) z k a)) z z z z z z)) z tt2 fun a H => A z <| A z <| ?_
                  obtain rfl := Z H
                  exact OW.sub key (c z)
                 ·have H := aO z H
                  refine C [.p, .p, .p, .p, .p] z ?_
                  obtain rfl := Z H
                  exact OW.sub key (c z)
              ·exact absurd t (by decide)
             ·exact absurd t (by decide)
            ·exact absurd t (by decide)
           ·exact absurd t (by decide)
          ·exact absurd t (by decide)
        ·exact absurd t (by decide)
       ·exact absurd t (by decide)
      ·exact absurd t (by decide)
     ·exact absurd t (by decide)
    ·exact absurd t (by decide)
   ·exact absurd t (by decide)
theorem xH (w) {p0 r} (H : pI p0 = U r) :
    Calls Tryz.prog 242 #[I J p0] w (fun en w' => en = .returned (B r) ∧ Ext [] w w') := by
 unfold pI at H
 exact ar Tryz.func242 z Tryz.ntmps242 z (St.init w []) <| D <| A z <| nR <| A z <| bq H gQ (fun _ a e f => bc e a) z tt2 fun a H => oPP z <| nT <| Z H ▸ xw z
theorem ju (w) {p0 e a f r} (H : cG p0 = U r) (h : (V eI 3).rd w [] p0 [S e a f]) :
    Calls Tryz.prog 165 #[S e a f, .func (.func 242) #[] #[]] w (fun en w' => en = .returned (I J r) ∧ Ext [] w w') := by
 obtain rfl := dc h
 unfold cG at H
 refine ar Tryz.func165 z Tryz.ntmps165 z (St.init w []) <| D <| A z <| P <| E <| D <| C [.p, .lenS 63 3 bB, .p] z <| P <| an <| CW.at (dq (fun (a : Int) => Q w [] []) (fun a => [(0, S e p0.length f), (1, .func (.func 242) #[] #[]), (7, I J (p0.length : Int)), (8, I J a)]) (fun kk => fun a => bL p0 kk a = U r) nofun (fun e e a H => ?_) aI (0) (H)) (ss [] z z) (c z)
 unfold bL at H
 refine D <| A z <| P <| E <| cI H z ?_ ?_ <;> intro H
 ·refine ai <| R <| E <| an <| D <| oPP z <| nR <| C [.p, .p, .p] z <| d H fun f f H => ix1 bB ty3 (g h) f z z <| d H fun f f H => Dw z z (aV z) (qI (cap := []) z Rm z z (fun h i => xH h f)) (fun _ _ => Y) <| P <| cI H z ?_ ?_ <;> intro H
  ·exact D <| oPP z <| nT <| Z H ▸ xw z
  ·exact ai <| bR <| R <| aH <| oPP z <| ay <| bU (RW.at (e (J.wrap (a + 1)) (H)) (ss [] z z) (c z))
 ·exact aU <| aB <| aE <| aA <| R <| D <| A z <| nT <| Z H ▸ xw z
theorem iP (w) {p0 a e f r} (H : bX p0 = U r) (h : (V eI 3).rd w [] p0 [S a e f]) :
    Calls Tryz.prog 139 #[S a e f, .func (.func 242) #[] #[]] w (fun en w' => en = .returned (B r) ∧ Ext [] w w') := by
 obtain rfl := dc h
 unfold bX at H
 exact ar Tryz.func139 z Tryz.ntmps139 z (St.init w []) <| D <| A z <| nR <| oPP z <| bq H Hq (fun _ a e f => ju e a (g h e f)) z tt2 fun a H => oPP z <| nT <| Z H ▸ xw z
theorem uK (w) {p0 p1 a f e r} (H : nB p0 p1 = U r) (h : (V eI 3).rd w [] p0 [S a f e]) :
    Calls Tryz.prog 230 #[S a f e, I J p1] w (fun en w' => en = .returned (B r) ∧ Ext [] w w') := by
 obtain rfl := dc h
 unfold nB at H
 refine ar Tryz.func230 z Tryz.ntmps230 z (St.init w []) <| D <| A z <| nR <| C [.p, .lenS 63 3 bB, .p, .p, .p] z <| d H fun i f H => cu2 [(4, B n)] [(0, S a p0.length e), (9, B ((p0.length : Int) == p1))] 4 (13, B i) z ?_ fun key => ?_
 ·exact A z <| nT <| Z H ▸ xw z
 ·have H := f
  generalize ((p0.length : Int) == p1) = a at H key ⊢
  cases a
  ·have H := aN z H
   refine C [.p, .p, .p, .p] z ?_
   obtain rfl := Z H
   exact OW.sub key (c z)
  ·have H := aO z H
   refine A z <| bq H Gh (fun _ a e f => iP e a (g h e f)) z tt2 fun a H => A z <| A z <| ?_
   obtain rfl := Z H
   exact OW.sub key (c z)
theorem th (w) {p0 f a h r} (H : lw p0 = U r) (i : (V eI 3).rd w [] p0 [S f a h]) :
    Calls Tryz.prog 166 #[S f a h] w (fun en w' => en = .returned (I J r) ∧ Ext [] w w') := by
 obtain rfl := dc i
 unfold lw at H
 refine ar Tryz.func166 z Tryz.ntmps166 z (St.init w []) <| D <| A z <| nR <| A z <| P <| E <| D <| C [.p, .lenS 63 3 bB, .p] z <| P <| an <| CW.at (fc (fun (a : Int) (e : Int) => Q w [] []) (fun a e => [(3, I J a), (6, S f p0.length h), (7, I J (p0.length : Int)), (8, I J e)]) (fun kk => fun a e => fM p0 kk a e = U r) nofun (fun f f a e H => ?_) aI (0) (0) (H)) (ss [] z z) (c z)
 unfold fM at H
 refine D <| A z <| P <| E <| cI H z ?_ ?_ <;> intro H
 ·exact ai <| R <| E <| an <| D <| d H fun h j H => ix1 bB ty3 (g i) j z z <| A z <| P <| aH <| C [.p, .p, .p, .p] z <| ay <| bR <| R <| aH <| oPP z <| ay <| bU (RW.at (f (J.wrap (a + h)) (J.wrap (e + 1)) (H)) (ss [] z z) (c z))
 ·exact aU <| aB <| aE <| aA <| R <| D <| oPP z <| nT <| Z H ▸ xw z
theorem uf (w) {p0 a r} (H : nx p0 = U r) (e : (aD).rd w [] p0 a) :
    Calls Tryz.prog 231 #[.agg a.toArray] w (fun en w' => en = .returned (I J r) ∧ Ext [] w w') := by
 obtain ⟨a, a, a, a, rfl, a, a⟩ := bJ e
 unfold nx at H
 refine ar Tryz.func231 z Tryz.ntmps231 z (St.init w []) <| D <| ob _ z fun a => A z <| P <| E <| D <| C [.fa 123 1 1 fJ] z <| G z (r1 1 0 z bP z) <| C [.lenS 63 3 bB, .p] z <| P <| cI H z ?_ ?_ <;> intro H
 ·exact D <| C [.fa 123 1 1 fJ] z <| G z (r1 1 0 z bP z) <| C [.lenS 63 3 bB, .p, .p] z <| nT <| Z H ▸ xw z
 ·exact ai <| R <| D <| C [.fa 123 2 2 kz] z <| G z (r1 2 0 z mZ z) <| C [.lenS 24 9 eo, .p] z <| nT <| Z H ▸ xw z
theorem CT (w) {a p0 r} (H : tX p0 = U r) (HS : Q w a [] w) :
    Calls Tryz.prog 232 #[I J p0] w (fun en w' => ∃ v, en = .returned v ∧ ∃ f h c0 i, v = S f h c0 ∧ Q w a [W (V eI 3) i r [S f h c0]] w') := by
 unfold tX at H
 exact ar Tryz.func232 z Tryz.ntmps232 z (HS) <| D <| A z <| nR <| A z <| d H fun a f H => Jb (e := eI) (zero := (0 : Int)) z z z z z z bB ty3 z z z z (fun _ => ⟨z, z⟩) f (fun _ => kp) fun f => A z <| nT <| Z H ▸ xo z fun w' hw' => ⟨_, z, (U ⟨f, 0, N⟩), a.length, a.length, [f], z, hw'.sel [0] z z⟩
theorem Aw (w) {p0 p1 a f r} (H : pj p0 p1 = U r) (k : (bH).rd w [] p0 a) (m : (cZ).rd w [] p1 f) :
    Calls Tryz.prog 220 #[.agg a.toArray, .agg f.toArray] w (fun en w' => en = .returned (B r) ∧ Ext [] w w') := by
 obtain ⟨T, X, a0, a1, rfl, l, h⟩ := bA k
 obtain ⟨a2, a3, u, v, rfl, x, q⟩ := gR m
 unfold pj at H
 refine ar Tryz.func220 z Tryz.ntmps220 z (St.init w []) <| D <| ob _ z fun m => ob _ z fun o => A z <| nR <| C [.fa 26 1 1 lz] z <| G z (r1 1 0 z mZ z) <| C [.lenS 24 9 eo, .p] z <| P <| E <| D <| G z (rx 0 0 _ z el z) <| bq H BB (fun _ k f a => hY f k (aw (g l f a) (g h f a))) z tt2 fun a4 H => oPP z <| d H fun F a5 H => cu2 [(2, O (U ⟨m, 0, N⟩)), (3, O (U ⟨o, 0, N⟩)), (5, I J (p0.f_.length : Int))] [(17, B (!a4))] 6 (23, B F) z ?_ fun key => ?_
 ·refine A z <| d H fun h a6 H => cu2 [(2, O (U ⟨m, 0, N⟩)), (3, O (U ⟨o, 0, N⟩)), (5, I J (p0.f_.length : Int))] [(24, B F)] 5 (29, B h) z ?_ fun key => ?_
  ·refine P <| cI H z ?_ ?_ <;> intro H
   ·exact D <| A z <| nT <| Z H ▸ xw z
   ·refine ai <| R <| E <| D <| C [.fa 143 1 1 eW] z <| G z (r1 1 1 z fw z) <| C [.lenS 34 63 eg, .p] z <| P <| cI H z ?_ ?_ <;> intro H
    ·exact D <| A z <| nT <| Z H ▸ xw z
    ·refine ai <| R <| E <| D <| C [.fa 143 1 1 eW] z <| G z (r1 1 1 z fw z) <| C [.lenS 34 63 eg, .fa 26 0 0 fu] z <| G z (r1 0 0 z nv z) <| C [.lenS 23 123 jN, .p] z <| P <| cI H z ?_ ?_ <;> intro H
     ·exact D <| A z <| nT <| Z H ▸ xw z
     ·refine ai <| R <| E <| D <| C [.fa 143 1 1 eW] z <| G z (r1 1 1 z fw z) <| C [.lenS 34 63 eg, .p] z <| P <| an <| CW.at (dq (fun (h : Int) => Q w [] [b m 26 [S T p0.d_.length X, S a0 p0.f_.length a1], b o 143 [S a2 p1.q_.length a3, S u p1.l_.length v]]) (fun h => [(2, O (U ⟨m, 0, N⟩)), (3, O (U ⟨o, 0, N⟩)), (5, I J (p0.f_.length : Int)), (42, S u p1.l_.length v), (43, I J (p1.l_.length : Int)), (44, I J h)]) (fun kk => fun h => dv p1 p0 kk h = U r) nofun (fun k1 a7 h H => ?_) aI (0) (H)) (ss [0, 1] z z) (c z)
      unfold dv at H
      refine D <| A z <| P <| E <| cI H z ?_ ?_ <;> intro H
      ·refine ai <| R <| E <| an <| D <| A z <| d H fun s k H => bu z z z z z eg bP z q k fun k k q k => ?_
       obtain ⟨a8, a9, rfl⟩ := dz q
       refine G z (aT z z bP (bh bor k)) <| oPP z <| P <| E <| D <| C [.p, .fa 26 0 0 fu] z <| G z (r1 0 0 z nv z) <| A z <| d H fun k t H => bu z z z z z jN cf z l t fun l l l t => ?_
       obtain ⟨L, M, b0, b1, rfl, b2, b3⟩ := bJ l
       refine G z (cT (cs := [vS k.D_, S L k.x_.length M, S b0 k.F_.length b1]) z z cf (bh bor t) z) <| bq H MI (fun _ k f a => uf f k (co z (g b2 f a) (g b3 f a))) z tt2 fun k H => oPP z <| bq H Oe (fun _ k f a => uK f k (g q f a)) z tt2 fun k H => A z <| P <| cI H z ?_ ?_ <;> intro H
       ·exact D <| A z <| nT <| Z H ▸ xw z
       ·refine ai <| R <| D <| A z <| d H fun t k H => aq z Rn z z z z (fun f a => CT f k (a.carve [] z z)) fun k f k a l => ?_
        obtain ⟨L, k, M, b0, rfl, k⟩ := l
        obtain rfl := aL (i := 0) k z
        refine ⟨Q w [] [_, _, _], a.comp [] z z k, fun _ _ => Y, ?_⟩
        refine A z <| nR <| C [.p, .lenS 63 3 bB, .p] z <| P <| an <| CW.at (fc (fun (l : Int) (k : List Int) => Q w [] [b m 26 [S T p0.d_.length X, S a0 p0.f_.length a1], b o 143 [S a2 p1.q_.length a3, S u p1.l_.length v], W (V eI 3) b0 k [S L t.length M]]) (fun l k => [(2, O (U ⟨m, 0, N⟩)), (3, O (U ⟨o, 0, N⟩)), (5, I J (p0.f_.length : Int)), (8, S L t.length M), (42, S u p1.l_.length v), (43, I J (p1.l_.length : Int)), (44, I J h), (62, S a8 s.length a9), (63, I J (s.length : Int)), (64, I J l)]) (fun kk => fun l k => dM s p0 p1 (dv p1 p0 k1) h kk l k = U r) nofun (fun m s l k H => ?_) aI (0) (t) (H)) (ss [0, 1, 2] z z) (c z)
        unfold dM at H
        refine D <| A z <| P <| E <| cI H z ?_ ?_ <;> intro H
        ·refine ai <| R <| E <| an <| D <| A z <| d H fun t m H => ix1 bB ty3 (g q) m z z <| oPP z <| nR <| C [.p, .p, .p] z <| d H fun m o H => G z (HY z z z o) <| d H fun q o H => ix1 bB ty3 (av (e := V eI 3) (r := 2) z) o z z <| oPP z <| d H fun o o H => fb (e := eI) (xs := k) (j := m) z z z z z bB ty3 z (av (e := V eI 3) (r := 2) z) o (by rw [Nat.mul_one]) <| tu (i := 2) (j := m) z z z z z z ty3 z o (fun _ => z) kp <| P <| E <| dP dC (by kernel_rfl) <| C [.p, .p, .p] z <| d H fun o o H => G z (HY z z z o) <| d H fun o o H => ix1 bB ty3 (av (e := V eI 3) (r := 2) z) o z z <| C [.fa 143 0 0 iu] z <| G z (r1 0 1 z bP z) <| oPP z <| d H fun o o H => G z (HY z z z o) <| ?_
         refine d H fun o o H => ix1 bB ty3 (g x) o z z <| A z <| cQ <| R <| cI H z ?_ ?_ <;> intro H
         ·exact D <| A z <| nT <| Z H ▸ xw z
         ·exact ai <| bR <| R <| aH <| oPP z <| ay <| bU (RW.at (s (J.wrap (l + 1)) ((k.set m.toNat (J.wrap (q + t)))) (H)) (ss [0, 1, 2] z z) (c z))
        ·exact aU <| aB <| aE <| aA <| bR <| R <| aH <| oPP z <| ay <| bU (RW.at (a7 (J.wrap (h + 1)) (H)) (ss [0, 1] z z) (c z))
      ·exact aU <| aB <| aE <| aA <| R <| D <| A z <| nT <| Z H ▸ xw z
  ·have H := a6
   generalize F = h at H key ⊢
   cases h
   ·have H := aN z H
    refine C [.fa 143 0 0 iu] z <| G z (r1 0 1 z bP z) <| bq H KR (fun _ h f a => th f h (g x f a)) z tt2 fun h H => A z <| A z <| ?_
    obtain rfl := Z H
    exact OW.sub key (c z)
   ·have H := aO z H
    refine C [.p, .p, .p, .p, .p] z ?_
    obtain rfl := Z H
    exact OW.sub key (c z)
 ·have H := a5
  generalize (!a4) = h at H key ⊢
  cases h
  ·have H := aN z H
   refine C [.fa 143 0 0 iu] z <| G z (r1 0 1 z bP z) <| A z <| bq H Oe (fun _ h f a => uK f h (g x f a)) z tt2 fun a H => A z <| A z <| ?_
   obtain rfl := Z H
   exact OW.sub key (c z)
  ·have H := aO z H
   refine C [.p, .p, .p, .p, .p, .p] z ?_
   obtain rfl := Z H
   exact OW.sub key (c z)
theorem AI (w) {p0 p1 f a h e r} (H : po p0 p1 = U r) (i : (bH).rd w [] p0 f) (m : (V eI 3).rd w [] p1 [S a h e]) :
    Calls Tryz.prog 221 #[.agg f.toArray, S a h e] w (fun en w' => en = .returned (B r) ∧ Ext [] w w') := by
 obtain ⟨f, f, f, f, rfl, f, k⟩ := bA i
 obtain rfl := dc m
 unfold po at H
 refine ar Tryz.func221 z Tryz.ntmps221 z (St.init w []) <| D <| ob _ z fun h => A z <| P <| E <| dP dC (by kernel_rfl) <| G z (rx 0 0 _ z el z) <| bq H BB (fun _ l j i => hY j l (aw (g f j i) (g k j i))) z tt2 fun f H => A z <| cu2 [(1, S a p1.length e), (2, O (U ⟨h, 0, N⟩)), (4, B n)] [(7, B f)] 4 (11, B (f && (decide ((p1.length : Int) > 0)))) z ?_ fun key => ?_
 ·refine A z <| d H fun k o H => cu2 [(1, S a p1.length e), (2, O (U ⟨h, 0, N⟩)), (4, B n)] [(12, B (f && (decide ((p1.length : Int) > 0))))] 3 (15, B k) z ?_ fun key => ?_
  ·refine A z <| d H fun l q H => cu2 [(1, S a p1.length e), (2, O (U ⟨h, 0, N⟩)), (4, B n)] [(16, B k)] 5 (21, B l) z ?_ fun key => ?_
   ·refine A z <| d H fun t s H => cu2 [(4, B n)] [(1, S a p1.length e), (2, O (U ⟨h, 0, N⟩)), (22, B l)] 11 (33, B t) z ?_ fun key => ?_
    ·exact A z <| cQ <| R <| sG <| Z H ▸ xw z
    ·have H := s
     generalize l = a at H key ⊢
     cases a
     ·have H := aN z H
      refine C [.p, .p, .p, .p, .p, .p, .p, .p, .p, .p, .p] z ?_
      obtain rfl := Z H
      exact OW.sub key (c z)
     ·have H := aO z H
      refine C [.p, .p, .lenS 63 3 bB, .p] z <| d H fun a a H => ix1 bB ty3 (g m) a z z <| C [.fa 26 0 0 fu] z <| G z (r1 0 0 z nv z) <| C [.lenS 23 123 jN, .p] z <| A z <| ?_
      obtain rfl := Z H
      exact OW.sub key (c z)
   ·have H := q
    generalize k = a at H key ⊢
    cases a
    ·have H := aN z H
     refine C [.p, .p, .p, .p, .p] z ?_
     obtain rfl := Z H
     exact OW.sub key (c z)
    ·have H := aO z H
     refine A z <| d H fun a a H => ix1 bB ty3 (g m) a z z <| A z <| A z <| ?_
     obtain rfl := Z H
     exact OW.sub key (c z)
  ·have H := o
   generalize (f && (decide ((p1.length : Int) > 0))) = a at H key ⊢
   cases a
   ·have H := aN z H
    refine C [.p, .p, .p] z ?_
    obtain rfl := Z H
    exact OW.sub key (c z)
   ·have H := aO z H
    refine A z <| bq H MD (fun _ a j i => pt j a (g m j i)) z tt2 fun a H => A z <| ?_
    obtain rfl := Z H
    exact OW.sub key (c z)
 ·generalize f = a at key ⊢
  cases a
  ·exact C [.p, .p, .p, .p] z <| OW.sub key (c z)
  ·exact C [.p, .lenS 63 3 bB, .p] z <| A z <| OW.sub key (c z)
theorem Bo (w) {p0 p1 a r} (H : qw p0 p1 = U r) (e : (bH).rd w [] p0 a) :
    Calls Tryz.prog 233 #[.agg a.toArray, .agg #[I J p1.t_, I J p1.u_]] w (fun en w' => en = .returned (B r) ∧ Ext [] w w') := by
 obtain ⟨a, a, a, a, rfl, h, f⟩ := bA e
 unfold qw at H
 refine ar Tryz.func233 z Tryz.ntmps233 z (St.init w []) <| D <| ob _ z fun j => ob _ z fun k => A z <| P <| E <| D <| G z (rx 0 0 _ z el z) <| bq H BB (fun _ i a e => hY a i (aw (g h a e) (g f a e))) z tt2 fun i H => oPP z <| d H fun f m H => cu2 [(2, O (U ⟨j, 0, N⟩)), (3, O (U ⟨k, 0, N⟩))] [(10, B (!i))] 9 (19, B f) z ?_ fun key => ?_
 ·refine P <| cI H z ?_ ?_ <;> intro H
  ·exact D <| A z <| nT <| Z H ▸ xw z
  ·refine ai <| R <| D <| C [.fa 26 0 0 fu] z <| G z (r1 0 0 z nv z) <| C [.fa 141 0 0 kx] z <| G z (r1 0 1 z ty3 z) <| d H fun f j H => bu z z z z z jN cf z h j fun h h o q => ?_
   obtain ⟨h, j, k, l, rfl, s, t⟩ := bJ o
   refine G z (cT (cs := [vS f.D_, S h f.x_.length j, S k f.F_.length l]) z z cf (bh bor q) z) <| bn z z z z cf (fun _ => kp) fun o => sC 0 [vS f.D_, S h f.x_.length j, S k f.F_.length l] [_, _, _] 2 z cf z <| nR <| G z (rx 0 2 _ z cf z) <| bq H MI (fun _ f a e => uf a f (co z (g s a e) (g t a e))) z tt2 fun f H => oPP z <| P <| E <| D <| C [.fa 123 1 1 fJ] z <| G z (r1 1 2 z bP z) <| C [.lenS 63 3 bB, .p] z <| P <| cI H z ?_ ?_ <;> intro H
   ·exact aH <| C [.p, .p, .p] z <| nR <| C [.fa 141 1 1 mw] z <| G z (r1 1 1 z ty3 z) <| A z <| bq H gQ (fun _ f a e => bc a f) z tt2 fun f H => A z <| nT <| Z H ▸ xw z
   ·exact ai <| R <| D <| C [.fa 141 1 1 mw] z <| G z (r1 1 1 z ty3 z) <| A z <| bq H gQ (fun _ f a e => bc a f) z tt2 fun f H => A z <| nT <| Z H ▸ xw z
 ·have H := m
  generalize (!i) = f at H key ⊢
  cases f
  ·have H := aN z H
   refine C [.fa 141 0 0 kx] z <| G z (r1 0 1 z ty3 z) <| C [.fa 26 0 0 fu] z <| G z (r1 0 0 z nv z) <| C [.lenS 23 123 jN, .p] z <| bq H gQ (fun _ f a e => bc a f) z tt2 fun a H => A z <| A z <| ?_
   obtain rfl := Z H
   exact OW.sub key (c z)
  ·have H := aO z H
   refine C [.p, .p, .p, .p, .p, .p, .p, .p, .p] z ?_
   obtain rfl := Z H
   exact OW.sub key (c z)
theorem zI (w) {p0 p1 a r} (H : km p0 p1 = U r) (e : (bH).rd w [] p0 a) :
    Calls Tryz.prog 222 #[.agg a.toArray, .agg #[I J p1.t_, I J p1.u_]] w (fun en w' => en = .returned (I J r) ∧ Ext [] w w') := by
 obtain ⟨a, a, a, a, rfl, h, f⟩ := bA e
 unfold km at H
 refine ar Tryz.func222 z Tryz.ntmps222 z (St.init w []) <| D <| ob _ z fun a => ob _ z fun a => A z <| P <| E <| an <| D <| G z (rx 0 0 _ z el z) <| G z (rx 0 1 _ z sO z) <| bq H RG (fun _ i e a => Bo e (p1 := p1) i (aw (g h e a) (g f e a))) z tt2 fun f H => oPP z <| P <| cI H z ?_ ?_ <;> intro H
 ·exact D <| A z <| nT <| Z H ▸ xw z
 ·refine D <| C [.fa 141 1 1 mw] z <| G z (r1 1 1 z ty3 z) <| oPP z <| P <| cI H z ?_ ?_ <;> intro H
  ·refine D <| C [.fa 26 0 0 fu] z <| G z (r1 0 0 z nv z) <| C [.fa 141 0 0 kx] z <| G z (r1 0 1 z ty3 z) <| d H fun f i H => bu z z z z z jN cf z h i fun h h h i => ?_
   obtain ⟨j, k, l, m, rfl, o, p⟩ := bJ h
   exact G z (cT (cs := [vS f.D_, S j f.x_.length k, S l f.F_.length m]) z z cf (bh bor i) z) <| bq H MI (fun _ f e a => uf e f (co z (g o e a) (g p e a))) z tt2 fun a H => A z <| nT <| Z H ▸ xw z
  ·exact ai <| bR <| R <| D <| A z <| nT <| Z H ▸ xw z
theorem yY (w) {p0 p1 h a cs_1 e cs_2 r} (H : nS p0 p1 h = U r) (i : eI.rd w [] p1 cs_1) (f : At w [] a cs_1) (j : (bz).rd w [] h cs_2) (h : At w [] e cs_2) :
    Calls Tryz.prog 223 #[I J p0, O (U a), O (U e)] w (fun en w' => en = .returned (B r) ∧ Ext [] w w') := by
 obtain rfl := i
 obtain ⟨i, i, rfl, k⟩ := cj j
 unfold nS at H
 refine ar Tryz.func223 z Tryz.ntmps223 z (St.init w []) <| D <| A z <| P <| E <| dP dC (by kernel_rfl) <| A z <| G z (aT z z ty3 (bh bor f)) <| C [.p, .fa 69 0 0 dD] z <| G z (aT z z ks (bh bor (jO h 0 1))) <| C [.lenS 67 145 eN, .p] z <| bq H gQ (fun _ i j l => bc j i) z tt2 fun i H => oPP z <| d H fun l j H => cu2 [(4, B n)] [(0, I J p0), (1, O (U a)), (2, O (U e)), (14, B (!i))] 9 (23, B l) z ?_ fun key => ?_
 ·exact A z <| cQ <| R <| sG <| Z H ▸ xw z
 ·have H := j
  generalize (!i) = a at H key ⊢
  cases a
  ·have H := aN z H
   refine C [.fa 69 0 0 dD] z <| G z (aT z z ks (bh bor (jO h 0 1))) <| A z <| d H fun a a H => bu z z z z z eN bp z k a fun a a a e => ?_
   obtain ⟨h, h, h, h, h, h, h, h, rfl, h, h, h, h⟩ := aY a
   refine C [.fa 145 8 10 iW] z <| G z (aT z z ty3 (bh bor (jO e 10 1))) <| G z (aT z z ty3 (bh bor f)) <| A z <| A z <| ?_
   obtain rfl := Z H
   exact OW.sub key (c z)
  ·have H := aO z H
   refine C [.p, .p, .p, .p, .p, .p, .p, .p, .p] z ?_
   obtain rfl := Z H
   exact OW.sub key (c z)
theorem jJ (w) {p0 p1_0 p1_1 e a f q_1_0 cs_1_0 q_1_1 cs_1_1 r} (H : cN p0 p1_0 p1_1 = U r) (i : (V eI 3).rd w [] p0 [S e a f]) (g_1_0 : eI.rd w [] p1_0 cs_1_0) (hA_1_0 : At w [] q_1_0 cs_1_0) (g_1_1 : (bz).rd w [] p1_1 cs_1_1) (hA_1_1 : At w [] q_1_1 cs_1_1) :
    Calls Tryz.prog 165 #[S e a f, .func (.func 223) #[] #[O (U q_1_0), O (U q_1_1)]] w (fun en w' => en = .returned (I J r) ∧ Ext [] w w') := by
 obtain rfl := dc i
 obtain rfl := g_1_0
 obtain ⟨j, k, rfl, l⟩ := cj g_1_1
 unfold cN at H
 refine ar Tryz.func165 z Tryz.ntmps165 z (St.init w []) <| D <| A z <| P <| E <| D <| C [.p, .lenS 63 3 bB, .p] z <| P <| an <| CW.at (dq (fun (a : Int) => Q w [] []) (fun a => [(0, S e p0.length f), (1, .func (.func 223) #[] #[O (U q_1_0), O (U q_1_1)]), (7, I J (p0.length : Int)), (8, I J a)]) (fun kk => fun a => bN p0 p1_0 p1_1 kk a = U r) nofun (fun e h a H => ?_) aI (0) (H)) (ss [] z z) (c z)
 unfold bN at H
 refine D <| A z <| P <| E <| cI H z ?_ ?_ <;> intro H
 ·refine ai <| R <| E <| an <| D <| oPP z <| nR <| C [.p, .p, .p] z <| d H fun e e H => ix1 bB ty3 (g i) e z z <| d H fun e i H => Dw z z (aV z) (qI (cap := [O (U q_1_0), O (U q_1_1)]) z Rv z z (fun f e => yY f (cs_1 := [I J p1_0]) (cs_2 := [S j p1_1.e_.length k, I J p1_1.y_]) i z (bh bor hA_1_0 f e) (bg (g l f e) z) (bh bor hA_1_1 f e))) (fun _ _ => Y) <| P <| cI H z ?_ ?_ <;> intro H
  ·exact D <| oPP z <| nT <| Z H ▸ xw z
  ·exact ai <| bR <| R <| aH <| oPP z <| ay <| bU (RW.at (h (J.wrap (a + 1)) (H)) (ss [] z z) (c z))
 ·exact aU <| aB <| aE <| aA <| R <| D <| A z <| nT <| Z H ▸ xw z
theorem ja (w) {p0 p1_0 p1_1 a e f q_1_0 cs_1_0 q_1_1 cs_1_1 r} (H : cb p0 p1_0 p1_1 = U r) (h : (V eI 3).rd w [] p0 [S a e f]) (g_1_0 : eI.rd w [] p1_0 cs_1_0) (hA_1_0 : At w [] q_1_0 cs_1_0) (g_1_1 : (bz).rd w [] p1_1 cs_1_1) (hA_1_1 : At w [] q_1_1 cs_1_1) :
    Calls Tryz.prog 139 #[S a e f, .func (.func 223) #[] #[O (U q_1_0), O (U q_1_1)]] w (fun en w' => en = .returned (B r) ∧ Ext [] w w') := by
 obtain rfl := dc h
 obtain rfl := g_1_0
 obtain ⟨f, i, rfl, j⟩ := cj g_1_1
 unfold cb at H
 exact ar Tryz.func139 z Tryz.ntmps139 z (St.init w []) <| D <| A z <| nR <| oPP z <| bq H Hq (fun _ k e a => jJ e (cs_1_0 := [I J p1_0]) (cs_1_1 := [S f p1_1.e_.length i, I J p1_1.y_]) k (g h e a) z (bh bor hA_1_0 e a) (bg (g j e a) z) (bh bor hA_1_1 e a)) z tt2 fun a H => oPP z <| nT <| Z H ▸ xw z
theorem BO (w) {p0 p1 p2 a e r} (H : qG p0 p1 p2 = U r) (f : (bH).rd w [] p0 a) (h : (bz).rd w [] p1 e) :
    Calls Tryz.prog 205 #[.agg a.toArray, .agg e.toArray, I J p2] w (fun en w' => en = .returned (B r) ∧ Ext [] w w') := by
 obtain ⟨a, a, a, a, rfl, o, q⟩ := bA f
 obtain ⟨a8, a9, rfl, a0⟩ := cj h
 unfold qG at H
 refine ar Tryz.func205 z Tryz.ntmps205 z (St.init w []) <| D <| ob _ z fun j => ob _ z fun k => ob _ z fun l => A z <| nR <| C [.fa 69 0 0 dD] z <| G z (r1 0 1 z ks z) <| G z (r1 0 2 z ty3 z) <| d H fun a e H => bu z z z z z eN bp z a0 e fun e e e f => ?_
 obtain ⟨m, s, t, u, v, x, F, L, rfl, a1, a2, b0, b1⟩ := aY e
 refine G z (cT (cs := [B a.B_, I J a.i_.t_, I J a.i_.u_, S m a.v_.length s, I J a.I_, S t a.k_.q_.length u, S v a.k_.l_.length x, I J a.J_, S F a.d_.length L, I J a.h_, I J a.A_, I J a.G_]) z z bp (bh bor f) z) <| bn z z z z bp (fun _ => kp) fun h => sC 0 [B a.B_, I J a.i_.t_, I J a.i_.u_, S m a.v_.length s, I J a.I_, S t a.k_.q_.length u, S v a.k_.l_.length x, I J a.J_, S F a.d_.length L, I J a.h_, I J a.A_, I J a.G_] [_, _, _, _, _, _, _, _, _, _, _, _] 3 z bp z <| P <| E <| D <| C [.fa 145 7 9 gC] z <| G z (r1 9 3 z ty3 z) <| bq H gQ (fun _ M f e => bc f M) z tt2 fun a3 H => oPP z <| d H fun M a5 H => cu2 [(3, O (U ⟨j, 0, N⟩)), (4, O (U ⟨k, 0, N⟩)), (5, O (U ⟨l, 0, N⟩)), (7, O (U ⟨h, 0, N⟩))] [(19, B (!a3))] 7 (26, B M) z ?_ fun key => ?_
 ·refine A z <| d H fun X a6 H => cu2 [(3, O (U ⟨j, 0, N⟩)), (4, O (U ⟨k, 0, N⟩)), (5, O (U ⟨l, 0, N⟩)), (7, O (U ⟨h, 0, N⟩))] [(27, B M)] 6 (33, B X) z ?_ fun key => ?_
  ·refine A z <| d H fun b2 a7 H => cu2 [(3, O (U ⟨j, 0, N⟩)), (4, O (U ⟨k, 0, N⟩)), (5, O (U ⟨l, 0, N⟩)), (7, O (U ⟨h, 0, N⟩))] [(34, B X)] 6 (40, B b2) z ?_ fun key => ?_
   ·refine P <| cI H z ?_ ?_ <;> intro H
    ·exact D <| A z <| nT <| Z H ▸ xw z
    ·refine ai <| R <| E <| D <| C [.fa 145 0 0 ln] z <| G z (r1 0 3 z ty4 z) <| P <| cI H z ?_ ?_ <;> intro H
     ·refine D <| C [.fa 145 4 5 ea, .fa 143 0 0 iu] z <| G z (r1 5 3 z bP z) <| bq H KR (fun _ j f e => th f j (g a2 f e)) z tt2 fun b2 H => A z <| P <| yB (fun (j : Int) => Q w [] [b h 145 [B a.B_, I J a.i_.t_, I J a.i_.u_, S m a.v_.length s, I J a.I_, S t a.k_.q_.length u, S v a.k_.l_.length x, I J a.J_, S F a.d_.length L, I J a.h_, I J a.A_, I J a.G_]]) (fun j => [(7, O (U ⟨h, 0, N⟩)), (8, I J j)]) (fun j => kJ a j = U r) (fun j H => ?_) (fun s => ?_)
      ·unfold kJ at H
       refine D <| C [.fa 145 1 1 ip] z <| G z (rx 1 0 _ z sO z) <| G z (bv [] [I J 0, I J 0] z z sO LD z Y z) <| G z (IA (xs := [I J a.i_.t_, I J a.i_.u_]) (ys := [I J 0, I J 0]) z z z (MH a.i_.t_ 0 a.i_.u_ 0)) <| A z <| cu2 [(7, O (U ⟨h, 0, N⟩)), (8, I J j)] [(56, B (a.i_.t_ == 0 && (a.i_.u_ == 0 && y)))] 5 (61, B ((a.i_.t_ == 0 && (a.i_.u_ == 0 && y)) && ((a.v_.length : Int) == 0))) z ?_ fun key => ?_
       ·refine A z <| cu2 [(7, O (U ⟨h, 0, N⟩)), (8, I J j)] [(62, B ((a.i_.t_ == 0 && (a.i_.u_ == 0 && y)) && ((a.v_.length : Int) == 0)))] 4 (66, B (((a.i_.t_ == 0 && (a.i_.u_ == 0 && y)) && ((a.v_.length : Int) == 0)) && (a.I_ == 0))) z ?_ fun key => ?_
        ·refine A z <| d H fun t m H => cu2 [] [(7, O (U ⟨h, 0, N⟩)), (8, I J j), (67, B (((a.i_.t_ == 0 && (a.i_.u_ == 0 && y)) && ((a.v_.length : Int) == 0)) && (a.I_ == 0)))] 5 (72, B t) z ?_ fun key => ?_
         ·exact A z <| nT <| Z H ▸ xw z
         ·have H := m
          generalize (((a.i_.t_ == 0 && (a.i_.u_ == 0 && y)) && ((a.v_.length : Int) == 0)) && (a.I_ == 0)) = j at H key ⊢
          cases j
          ·have H := aN z H
           refine C [.p, .p, .p, .p, .p] z ?_
           obtain rfl := Z H
           exact OW.sub key ⟨z, Y⟩
          ·have H := aO z H
           refine C [.fa 145 5 7 kw] z <| G z (r1 7 0 z ty3 z) <| A z <| bq H gQ (fun _ j f e => bc f j) z tt2 fun j H => A z <| ?_
           obtain rfl := Z H
           exact OW.sub key ⟨z, Y⟩
        ·generalize ((a.i_.t_ == 0 && (a.i_.u_ == 0 && y)) && ((a.v_.length : Int) == 0)) = j at key ⊢
         cases j
         ·exact C [.p, .p, .p, .p] z <| OW.sub key (c z)
         ·exact C [.fa 145 3 4 lx] z <| G z (r1 4 0 z ty3 z) <| A z <| A z <| OW.sub key (c z)
       ·generalize (a.i_.t_ == 0 && (a.i_.u_ == 0 && y)) = j at key ⊢
        cases j
        ·exact C [.p, .p, .p, .p, .p] z <| OW.sub key (c z)
        ·exact C [.fa 145 2 3 fP] z <| G z (r1 3 0 z bP z) <| C [.lenS 63 3 bB, .p] z <| A z <| OW.sub key (c z)
      ·refine D <| C [.fa 145 4 5 ea, .fa 143 1 1 eW] z <| G z (r1 6 3 z fw z) <| C [.lenS 34 63 eg, .p] z <| P <| cI H z ?_ ?_ <;> intro H
       ·exact aH <| A z <| ay <| XW.at (s (0) (H)) (ss [3] z z) (c z)
       ·exact ai <| XW.at (s (b2) (H)) (ss [3] z z) (c z)
     ·refine ai <| R <| D <| G z (rx 0 0 _ z el z) <| C [.fa 145 1 1 ip] z <| G z (rx 1 3 _ z sO z) <| bq H RE (fun _ j f e => zI f (p1 := a.i_) j (aw (g o f e) (g q f e))) z tt2 fun j H => A z <| P <| E <| D <| C [.p, .p, .p] z <| cu2 [(4, O (U ⟨k, 0, N⟩)), (5, O (U ⟨l, 0, N⟩)), (7, O (U ⟨h, 0, N⟩)), (9, I J j)] [(79, B (j == 0))] 6 (85, B ((j == 0) || ((a.v_.length : Int) != j))) z ?_ fun key => ?_
      ·refine A z <| d H fun s t H => cu2 [(4, O (U ⟨k, 0, N⟩)), (5, O (U ⟨l, 0, N⟩)), (7, O (U ⟨h, 0, N⟩)), (9, I J j)] [(86, B ((j == 0) || ((a.v_.length : Int) != j)))] 5 (91, B s) z ?_ fun key => ?_
       ·refine A z <| d H fun m u H => cu2 [(4, O (U ⟨k, 0, N⟩)), (5, O (U ⟨l, 0, N⟩)), (7, O (U ⟨h, 0, N⟩))] [(9, I J j), (92, B s)] 7 (99, B m) z ?_ fun key => ?_
        ·refine A z <| cu2 [(4, O (U ⟨k, 0, N⟩)), (5, O (U ⟨l, 0, N⟩)), (7, O (U ⟨h, 0, N⟩))] [(100, B m)] 6 (106, B (m || ((a.k_.l_.length : Int) != 0))) z ?_ fun key => ?_
         ·refine A z <| cu2 [(4, O (U ⟨k, 0, N⟩)), (5, O (U ⟨l, 0, N⟩)), (7, O (U ⟨h, 0, N⟩))] [(107, B (m || ((a.k_.l_.length : Int) != 0)))] 4 (111, B ((m || ((a.k_.l_.length : Int) != 0)) || (a.J_ != 0))) z ?_ fun key => ?_
          ·refine P <| cI H z ?_ ?_ <;> intro H
           ·exact D <| A z <| nT <| Z H ▸ xw z
           ·exact ai <| R <| D <| C [.fa 145 2 3 fP] z <| G z (r1 3 3 z bP z) <| G z (vk z z) <| bq H Gh (fun _ h f e => ja f (cs_1_0 := [I J p2]) (cs_1_1 := [S a8 p1.e_.length a9, I J p1.y_]) h (g a1 f e) z (wZ (T := 3) 0 (Cy (i := 2) z) z f e) (bg (g a0 f e) z) (wZ (T := 69) 0 (Cy (i := 1) z) z f e)) z tt2 fun h H => oPP z <| nT <| Z H ▸ xw z
          ·generalize (m || ((a.k_.l_.length : Int) != 0)) = h at key ⊢
           cases h
           ·exact C [.fa 145 5 7 kw] z <| G z (r1 7 3 z ty3 z) <| A z <| A z <| OW.sub key (c z)
           ·exact C [.p, .p, .p, .p] z <| OW.sub key (c z)
         ·generalize m = h at key ⊢
          cases h
          ·exact C [.fa 145 4 5 ea, .fa 143 1 1 eW] z <| G z (r1 6 3 z fw z) <| C [.lenS 34 63 eg, .p] z <| A z <| OW.sub key (c z)
          ·exact C [.p, .p, .p, .p, .p, .p] z <| OW.sub key (c z)
        ·have H := u
         generalize s = h at H key ⊢
         cases h
         ·have H := aN z H
          refine C [.fa 145 3 4 lx] z <| G z (r1 4 3 z ty3 z) <| oPP z <| bq H gQ (fun _ h f e => bc f h) z tt2 fun h H => A z <| A z <| ?_
          obtain rfl := Z H
          exact OW.sub key (c z)
         ·have H := aO z H
          refine C [.p, .p, .p, .p, .p, .p, .p] z ?_
          obtain rfl := Z H
          exact OW.sub key (c z)
       ·have H := t
        generalize ((j == 0) || ((a.v_.length : Int) != j)) = a at H key ⊢
        cases a
        ·have H := aN z H
         refine C [.fa 145 2 3 fP] z <| G z (r1 3 3 z bP z) <| bq H MD (fun _ a f e => pt f a (g a1 f e)) z tt2 fun a H => A z <| A z <| ?_
         obtain rfl := Z H
         exact OW.sub key (c z)
        ·have H := aO z H
         refine C [.p, .p, .p, .p, .p] z ?_
         obtain rfl := Z H
         exact OW.sub key (c z)
      ·generalize (j == 0) = a at key ⊢
       cases a
       ·exact C [.fa 145 2 3 fP] z <| G z (r1 3 3 z bP z) <| C [.lenS 63 3 bB, .p, .p] z <| A z <| OW.sub key (c z)
       ·exact C [.p, .p, .p, .p, .p, .p] z <| OW.sub key (c z)
   ·have H := a7
    generalize X = a at H key ⊢
    cases a
    ·have H := aN z H
     refine G z (rx 0 0 _ z el z) <| C [.fa 145 6 8 mv] z <| G z (r1 8 3 z bP z) <| bq H Qr (fun _ a f e => AI f a (aw (g o f e) (g q f e)) (g b1 f e)) z tt2 fun a H => A z <| A z <| ?_
     obtain rfl := Z H
     exact OW.sub key (c z)
    ·have H := aO z H
     refine C [.p, .p, .p, .p, .p, .p] z ?_
     obtain rfl := Z H
     exact OW.sub key (c z)
  ·have H := a6
   generalize M = a at H key ⊢
   cases a
   ·have H := aN z H
    refine G z (rx 0 0 _ z el z) <| C [.fa 145 4 5 ea] z <| G z (rx 5 3 _ z vi z) <| bq H Rt (fun _ a f e => Aw f a (aw (g o f e) (g q f e)) (cu (g a2 f e) (g b0 f e))) z tt2 fun a H => A z <| A z <| ?_
    obtain rfl := Z H
    exact OW.sub key (c z)
   ·have H := aO z H
    refine C [.p, .p, .p, .p, .p, .p] z ?_
    obtain rfl := Z H
    exact OW.sub key (c z)
 ·have H := a5
  generalize (!a3) = a at H key ⊢
  cases a
  ·have H := aN z H
   refine C [.fa 145 9 11 iY] z <| G z (r1 11 3 z ty3 z) <| C [.fa 69 1 1 nH] z <| G z (r1 1 1 z ty3 z) <| bq H gQ (fun _ a f e => bc f a) z tt2 fun a H => A z <| A z <| ?_
   obtain rfl := Z H
   exact OW.sub key (c z)
  ·have H := aO z H
   refine C [.p, .p, .p, .p, .p, .p, .p] z ?_
   obtain rfl := Z H
   exact OW.sub key (c z)
theorem qk (w) {p0 p1 e a f r} (H : gi p0 p1 = U r) (h : (V eI 3).rd w [] p0 [S e a f]) :
    Calls Tryz.prog 224 #[S e a f, I J p1] w (fun en w' => en = .returned (I J r) ∧ Ext [] w w') := by
 obtain rfl := dc h
 unfold gi at H
 refine ar Tryz.func224 z Tryz.ntmps224 z (St.init w []) <| D <| A z <| P <| E <| D <| C [.p, .lenS 63 3 bB, .p] z <| P <| an <| CW.at (dq (fun (a : Int) => Q w [] []) (fun a => [(0, S e p0.length f), (1, I J p1), (7, I J (p0.length : Int)), (8, I J a)]) (fun kk => fun a => de p0 p1 kk a = U r) nofun (fun e e a H => ?_) aI (0) (H)) (ss [] z z) (c z)
 unfold de at H
 refine D <| A z <| P <| E <| cI H z ?_ ?_ <;> intro H
 ·refine ai <| R <| E <| an <| D <| oPP z <| nR <| C [.p, .p, .p] z <| d H fun f f H => ix1 bB ty3 (g h) f z z <| A z <| P <| cI H z ?_ ?_ <;> intro H
  ·exact D <| oPP z <| nT <| Z H ▸ xw z
  ·exact ai <| bR <| R <| aH <| oPP z <| ay <| bU (RW.at (e (J.wrap (a + 1)) (H)) (ss [] z z) (c z))
 ·exact aU <| aB <| aE <| aA <| R <| D <| A z <| nT <| Z H ▸ xw z
theorem pd (w) {p0 p1 a e f r} (H : dO p0 p1 = U r) (h : (V eI 3).rd w [] p0 [S a e f]) :
    Calls Tryz.prog 206 #[S a e f, I J p1] w (fun en w' => en = .returned (B r) ∧ Ext [] w w') := by
 obtain rfl := dc h
 unfold dO at H
 exact ar Tryz.func206 z Tryz.ntmps206 z (St.init w []) <| D <| A z <| nR <| oPP z <| bq H QI (fun _ a e f => qk e a (g h e f)) z tt2 fun a H => oPP z <| nT <| Z H ▸ xw z
theorem Cs (w) {p0 p1 a e r} (H : qQ p0 p1 = U r) (f : (bH).rd w [] p0 a) (h : (bz).rd w [] p1 e) :
    Calls Tryz.prog 186 #[.agg a.toArray, .agg e.toArray] w (fun en w' => en = .returned (B r) ∧ Ext [] w w') := by
 obtain ⟨a, e, q, s, rfl, a0, a1⟩ := bA f
 obtain ⟨m, o, rfl, j⟩ := cj h
 unfold qQ at H
 refine ar Tryz.func186 z Tryz.ntmps186 z (St.init w []) <| D <| ob _ z fun k => ob _ z fun l => A z <| P <| E <| D <| G z (rx 0 0 _ z el z) <| bq H BB (fun _ f h i => hY h f (aw (g a0 h i) (g a1 h i))) z tt2 fun a2 H => oPP z <| d H fun t a3 H => cu2 [(2, O (U ⟨k, 0, N⟩)), (3, O (U ⟨l, 0, N⟩))] [(11, B (!a2))] 6 (17, B t) z ?_ fun key => ?_
 ·refine A z <| d H fun f a4 H => cu2 [(2, O (U ⟨k, 0, N⟩)), (3, O (U ⟨l, 0, N⟩))] [(18, B t)] 5 (23, B f) z ?_ fun key => ?_
  ·refine P <| cI H z ?_ ?_ <;> intro H
   ·exact D <| A z <| nT <| Z H ▸ xw z
   ·refine ai <| R <| E <| D <| C [.fa 69 0 0 dD] z <| G z (r1 0 1 z ks z) <| C [.lenS 67 145 eN, .p] z <| P <| an <| CW.at (dq (fun (f : Int) => Q w [] [b k 26 [S a p0.d_.length e, S q p0.f_.length s], b l 69 [S m p1.e_.length o, I J p1.y_]]) (fun f => [(2, O (U ⟨k, 0, N⟩)), (3, O (U ⟨l, 0, N⟩)), (25, S m p1.e_.length o), (26, I J (p1.e_.length : Int)), (27, I J f)]) (fun kk => fun f => ey p1 p0 kk f = U r) nofun (fun a u f H => ?_) aI (0) (H)) (ss [0, 1] z z) (c z)
    unfold ey at H
    refine D <| A z <| P <| E <| cI H z ?_ ?_ <;> intro H
    ·refine ai <| R <| E <| an <| D <| A z <| d H fun a e H => bu z z z z z eN bp z j e fun e e q X => ?_
     obtain ⟨e, s, v, x, F, L, M, T, rfl, a5, a5, a5, a5⟩ := aY q
     refine G z (cT (cs := [B a.B_, I J a.i_.t_, I J a.i_.u_, S e a.v_.length s, I J a.I_, S v a.k_.q_.length x, S F a.k_.l_.length L, I J a.J_, S M a.d_.length T, I J a.h_, I J a.A_, I J a.G_]) z z bp (bh bor X) z) <| bn z z z z bp (fun _ => kp) fun q => A z <| sC 0 [B a.B_, I J a.i_.t_, I J a.i_.u_, S e a.v_.length s, I J a.I_, S v a.k_.q_.length x, S F a.k_.l_.length L, I J a.J_, S M a.d_.length T, I J a.h_, I J a.A_, I J a.G_] [_, _, _, _, _, _, _, _, _, _, _, _] 2 z bp z <| P <| E <| D <| G z (rx 0 0 _ z el z) <| G z (rx 0 1 _ z jb z) <| A z <| bq H Qa (fun _ e h i => BO h e (aw (g a0 h i) (g a1 h i)) (bg (g j h i) z)) z tt2 fun e H => A z <| P <| cI H z ?_ ?_ <;> intro H
     ·exact D <| A z <| nT <| Z H ▸ xw z
     ·refine ai <| R <| E <| D <| oPP z <| P <| cI H z ?_ ?_ <;> intro H
      ·refine E <| D <| C [.fa 145 8 10 iW] z <| G z (r1 10 2 z ty3 z) <| oPP z <| cu2 [(2, O (U ⟨k, 0, N⟩)), (3, O (U ⟨l, 0, N⟩)), (6, O (U ⟨q, 0, N⟩)), (25, S m p1.e_.length o), (26, I J (p1.e_.length : Int)), (27, I J f)] [(42, B (a.A_ != (-1)))] 4 (46, B ((a.A_ != (-1)) || (a.h_ != 0))) z ?_ fun key => ?_
       ·refine A z <| cu2 [(2, O (U ⟨k, 0, N⟩)), (3, O (U ⟨l, 0, N⟩)), (25, S m p1.e_.length o), (26, I J (p1.e_.length : Int)), (27, I J f)] [(6, O (U ⟨q, 0, N⟩)), (47, B ((a.A_ != (-1)) || (a.h_ != 0)))] 4 (51, B (((a.A_ != (-1)) || (a.h_ != 0)) || (a.G_ != 0))) z ?_ fun key => ?_
        ·refine P <| cI H z ?_ ?_ <;> intro H
         ·exact D <| A z <| nT <| Z H ▸ xw z
         ·exact ai <| R <| aU <| aB <| aA <| R <| aH <| oPP z <| ay <| bU (RW.at (u (J.wrap (f + 1)) (H)) (ss [0, 1] z z) (c z))
        ·generalize ((a.A_ != (-1)) || (a.h_ != 0)) = e at key ⊢
         cases e
         ·exact C [.fa 145 9 11 iY] z <| G z (r1 11 2 z ty3 z) <| A z <| A z <| OW.sub key (c z)
         ·exact C [.p, .p, .p, .p] z <| OW.sub key (c z)
       ·generalize (a.A_ != (-1)) = e at key ⊢
        cases e
        ·exact C [.fa 145 7 9 gC] z <| G z (r1 9 2 z ty3 z) <| A z <| A z <| OW.sub key (c z)
        ·exact C [.p, .p, .p, .p] z <| OW.sub key (c z)
      ·refine ai <| R <| E <| D <| C [.fa 145 8 10 iW] z <| G z (r1 10 2 z ty3 z) <| oPP z <| bq H gQ (fun _ e h i => bc h e) z tt2 fun e H => A z <| P <| cI H z ?_ ?_ <;> intro H
       ·exact D <| A z <| nT <| Z H ▸ xw z
       ·refine ai <| R <| D <| C [.fa 69 0 0 dD] z <| G z (r1 0 1 z ks z) <| C [.fa 145 8 10 iW] z <| G z (r1 10 2 z ty3 z) <| d H fun e s H => bu z z z z z eN bp z j s fun j j s a0 => ?_
        obtain ⟨j, v, x, F, L, M, T, X, rfl, a1, a5, a5, a5⟩ := aY s
        refine G z (cT (cs := [B e.B_, I J e.i_.t_, I J e.i_.u_, S j e.v_.length v, I J e.I_, S x e.k_.q_.length F, S L e.k_.l_.length M, I J e.J_, S T e.d_.length X, I J e.h_, I J e.A_, I J e.G_]) z z bp (bh bor a0) z) <| bn z z z z bp (fun _ => kp) fun s => sC 0 [B e.B_, I J e.i_.t_, I J e.i_.u_, S j e.v_.length v, I J e.I_, S x e.k_.q_.length F, S L e.k_.l_.length M, I J e.J_, S T e.d_.length X, I J e.h_, I J e.A_, I J e.G_] [_, _, _, _, _, _, _, _, _, _, _, _] 3 z bp z <| nR <| C [.fa 145 0 0 ln] z <| G z (r1 0 3 z ty4 z) <| A z <| d H fun j v H => cu2 [(2, O (U ⟨k, 0, N⟩)), (3, O (U ⟨l, 0, N⟩)), (6, O (U ⟨q, 0, N⟩)), (7, O (U ⟨s, 0, N⟩)), (25, S m p1.e_.length o), (26, I J (p1.e_.length : Int)), (27, I J f)] [(5, I J f), (66, B e.B_)] 6 (72, B j) z ?_ fun key => ?_
        ·refine A z <| cu2 [(2, O (U ⟨k, 0, N⟩)), (3, O (U ⟨l, 0, N⟩)), (6, O (U ⟨q, 0, N⟩)), (7, O (U ⟨s, 0, N⟩)), (25, S m p1.e_.length o), (26, I J (p1.e_.length : Int)), (27, I J f)] [(73, B j)] 7 (80, B (j || (e.h_ != (J.wrap (a.h_ - 1))))) z ?_ fun key => ?_
         ·refine A z <| cu2 [(2, O (U ⟨k, 0, N⟩)), (3, O (U ⟨l, 0, N⟩)), (25, S m p1.e_.length o), (26, I J (p1.e_.length : Int)), (27, I J f)] [(6, O (U ⟨q, 0, N⟩)), (7, O (U ⟨s, 0, N⟩)), (81, B (j || (e.h_ != (J.wrap (a.h_ - 1)))))] 6 (87, B ((j || (e.h_ != (J.wrap (a.h_ - 1)))) || (decide (e.G_ > a.G_)))) z ?_ fun key => ?_
          ·refine P <| cI H z ?_ ?_ <;> intro H
           ·exact D <| A z <| nT <| Z H ▸ xw z
           ·exact ai <| bR <| R <| aH <| oPP z <| ay <| bU (RW.at (u (J.wrap (f + 1)) (H)) (ss [0, 1] z z) (c z))
          ·generalize (j || (e.h_ != (J.wrap (a.h_ - 1)))) = a at key ⊢
           cases a
           ·exact C [.fa 145 9 11 iY] z <| G z (r1 11 3 z ty3 z) <| C [.fa 145 9 11 iY] z <| G z (r1 11 2 z ty3 z) <| A z <| A z <| OW.sub key (c z)
           ·exact C [.p, .p, .p, .p, .p, .p] z <| OW.sub key (c z)
         ·generalize j = a at key ⊢
          cases a
          ·exact C [.fa 145 7 9 gC] z <| G z (r1 9 3 z ty3 z) <| C [.fa 145 7 9 gC] z <| G z (r1 9 2 z ty3 z) <| oPP z <| A z <| OW.sub key (c z)
          ·exact C [.p, .p, .p, .p, .p, .p, .p] z <| OW.sub key (c z)
        ·have H := v
         generalize e.B_ = a at H key ⊢
         cases a
         ·have H := aN z H
          refine C [.fa 145 2 3 fP] z <| G z (r1 3 3 z bP z) <| A z <| bq H PS (fun _ a h i => pd h a (g a1 h i)) z tt2 fun a H => A z <| A z <| ?_
          obtain rfl := Z H
          exact OW.sub key (c z)
         ·have H := aO z H
          refine C [.p, .p, .p, .p, .p, .p] z ?_
          obtain rfl := Z H
          exact OW.sub key (c z)
    ·exact aU <| aB <| aE <| aA <| R <| D <| A z <| nT <| Z H ▸ xw z
  ·have H := a4
   generalize t = a at H key ⊢
   cases a
   ·have H := aN z H
    refine C [.fa 69 1 1 nH] z <| G z (r1 1 1 z ty3 z) <| bq H gQ (fun _ a h i => bc h a) z tt2 fun a H => A z <| A z <| ?_
    obtain rfl := Z H
    exact OW.sub key (c z)
   ·have H := aO z H
    refine C [.p, .p, .p, .p, .p] z ?_
    obtain rfl := Z H
    exact OW.sub key (c z)
 ·have H := a3
  generalize (!a2) = a at H key ⊢
  cases a
  ·have H := aN z H
   refine C [.fa 69 0 0 dD] z <| G z (r1 0 1 z ks z) <| C [.lenS 67 145 eN] z <| bq H gQ (fun _ a h i => bc h a) z tt2 fun a H => A z <| A z <| ?_
   obtain rfl := Z H
   exact OW.sub key (c z)
  ·have H := aO z H
   refine C [.p, .p, .p, .p, .p, .p] z ?_
   obtain rfl := Z H
   exact OW.sub key (c z)
theorem Aq (w) {p0 a r} (H : pC p0 = U r) (e : (bz).rd w [] p0 a) :
    Calls Tryz.prog 187 #[.agg a.toArray] w (fun en w' => en = .returned (I J r) ∧ Ext [] w w') := by
 obtain ⟨i, j, rfl, h⟩ := cj e
 unfold pC at H
 refine ar Tryz.func187 z Tryz.ntmps187 z (St.init w []) <| D <| ob _ z fun a => A z <| P <| E <| D <| C [.fa 69 0 0 dD] z <| G z (r1 0 0 z ks z) <| C [.lenS 67 145 eN, .p] z <| P <| cI H z ?_ ?_ <;> intro H
 ·exact D <| A z <| nT <| Z H ▸ xw z
 ·refine ai <| R <| D <| C [.fa 69 0 0 dD] z <| G z (r1 0 0 z ks z) <| d H fun k a H => bu z z z z z eN bp z h a fun a a a e => ?_
  obtain ⟨f, f, f, f, f, f, f, f, rfl, f, f, f, f⟩ := aY a
  refine C [.fa 145 7 9 gC] z <| G z (aT z z ty3 (bh bor (jO e 9 1))) <| A z <| P <| E <| D <| C [.fa 69 0 0 dD] z <| G z (r1 0 0 z ks z) <| C [.lenS 67 145 eN, .p] z <| P <| an <| CW.at (fc (fun (f : Int) (e : Int) => Q w [] []) (fun f e => [(3, I J e), (16, S i p0.e_.length j), (17, I J (p0.e_.length : Int)), (18, I J f)]) (fun kk => fun f e => fg p0 kk f e = U r) nofun (fun a s f e H => ?_) aI (0) (k.h_) (H)) (ss [] z z) (c z)
  unfold fg at H
  refine D <| A z <| P <| E <| cI H z ?_ ?_ <;> intro H
  ·refine ai <| R <| E <| an <| D <| d H fun a i H => bu z z z z z eN bp z h i fun h h t u => ?_
   obtain ⟨h, i, j, k, l, m, o, q, rfl, v, v, v, v⟩ := aY t
   exact G z (cT (cs := [B a.B_, I J a.i_.t_, I J a.i_.u_, S h a.v_.length i, I J a.I_, S j a.k_.q_.length k, S l a.k_.l_.length m, I J a.J_, S o a.d_.length q, I J a.h_, I J a.A_, I J a.G_]) z z bp (bh bor u) z) <| bn z z z z bp (fun _ => kp) fun t => sC 0 [B a.B_, I J a.i_.t_, I J a.i_.u_, S h a.v_.length i, I J a.I_, S j a.k_.q_.length k, S l a.k_.l_.length m, I J a.J_, S o a.d_.length q, I J a.h_, I J a.A_, I J a.G_] [_, _, _, _, _, _, _, _, _, _, _, _] 0 z bp z <| P <| aH <| C [.p, .fa 145 7 9 gC] z <| G z (r1 9 0 z ty3 z) <| G z (Pc z z z) <| A z <| ay <| bR <| R <| aH <| oPP z <| ay <| bU (RW.at (s (J.wrap (f + 1)) ((if e < a.h_ then a.h_ else e)) (H)) (ss [] z z) (c z))
  ·exact aU <| aB <| aE <| aA <| R <| D <| oPP z <| nT <| Z H ▸ xw z
theorem AW (w) {p0 a r} (H : pH p0 = U r) (e : (aQ).rd w [] p0 a) :
    Calls Tryz.prog 207 #[.agg a.toArray] w (fun en w' => en = .returned (I J r) ∧ Ext [] w w') := by
 obtain ⟨a, a, a, a, f, h, a, a, rfl, a, a, i, a⟩ := aY e
 unfold pH at H
 refine ar Tryz.func207 z Tryz.ntmps207 z (St.init w []) <| D <| ob _ z fun a => A z <| P <| E <| D <| C [.fa 145 0 0 ln] z <| G z (r1 0 0 z ty4 z) <| A z <| P <| cI H z ?_ ?_ <;> intro H
 ·exact D <| A z <| nT <| Z H ▸ xw z
 ·refine ai <| R <| D <| A z <| P <| E <| D <| C [.fa 145 4 5 ea, .fa 143 1 1 eW] z <| G z (r1 6 0 z fw z) <| C [.lenS 34 63 eg, .p] z <| P <| an <| CW.at (fc (fun (a : Int) (e : Int) => Q w [] []) (fun a e => [(3, I J e), (11, S f p0.k_.l_.length h), (12, I J (p0.k_.l_.length : Int)), (13, I J a)]) (fun kk => fun a e => gP p0 kk a e = U r) nofun (fun f f a e H => ?_) aI (0) (2) (H)) (ss [] z z) (c z)
  unfold gP at H
  refine D <| A z <| P <| E <| cI H z ?_ ?_ <;> intro H
  ·refine ai <| R <| E <| an <| D <| d H fun j h H => bu z z z z z eg bP z i h fun h h h i => ?_
   obtain ⟨k, k, rfl⟩ := dz h
   exact G z (aT z z bP (bh bor i)) <| A z <| P <| aH <| C [.p, .p, .lenS 63 3 bB, .p, .p] z <| ay <| bR <| R <| aH <| oPP z <| ay <| bU (RW.at (f (J.wrap (a + 1)) (J.wrap (e + (j.length : Int))) (H)) (ss [] z z) (c z))
  ·exact aU <| aB <| aE <| aA <| R <| D <| oPP z <| nT <| Z H ▸ xw z
theorem xE (w) {p0 a r} (H : mR p0 = U r) (e : (bz).rd w [] p0 a) :
    Calls Tryz.prog 188 #[.agg a.toArray] w (fun en w' => en = .returned (I J r) ∧ Ext [] w w') := by
 obtain ⟨a, h, rfl, i⟩ := cj e
 unfold mR at H
 refine ar Tryz.func188 z Tryz.ntmps188 z (St.init w []) <| D <| ob _ z fun e => A z <| nR <| A z <| P <| E <| D <| C [.fa 69 0 0 dD] z <| G z (r1 0 0 z ks z) <| C [.lenS 67 145 eN, .p] z <| P <| an <| CW.at (fc (fun (e : Int) (f : Int) => Q w [] []) (fun e f => [(3, I J e), (7, S a p0.e_.length h), (8, I J (p0.e_.length : Int)), (9, I J f)]) (fun kk => fun e f => iF p0 kk e f = U r) nofun (fun a s e f H => ?_) aI (0) (0) (H)) (ss [] z z) (c z)
 unfold iF at H
 refine D <| A z <| P <| E <| cI H z ?_ ?_ <;> intro H
 ·refine ai <| R <| E <| an <| D <| d H fun a h H => bu z z z z z eN bp z i h fun h h t u => ?_
  obtain ⟨h, i, j, k, l, m, o, q, rfl, v, x, F, L⟩ := aY t
  exact G z (cT (cs := [B a.B_, I J a.i_.t_, I J a.i_.u_, S h a.v_.length i, I J a.I_, S j a.k_.q_.length k, S l a.k_.l_.length m, I J a.J_, S o a.d_.length q, I J a.h_, I J a.A_, I J a.G_]) z z bp (bh bor u) z) <| bn z z z z bp (fun _ => kp) fun t => sC 0 [B a.B_, I J a.i_.t_, I J a.i_.u_, S h a.v_.length i, I J a.I_, S j a.k_.q_.length k, S l a.k_.l_.length m, I J a.J_, S o a.d_.length q, I J a.h_, I J a.A_, I J a.G_] [_, _, _, _, _, _, _, _, _, _, _, _] 0 z bp z <| P <| aH <| A z <| G z (rx 0 0 _ z bp z) <| bq H PV (fun _ i h a => AW h i (gx z z (g v h a) z (cu (g x h a) (g F h a)) z (g L h a) z z z)) z tt2 fun a H => oPP z <| ay <| bR <| R <| aH <| oPP z <| ay <| bU (RW.at (s (J.wrap (e + a)) (J.wrap (f + 1)) (H)) (ss [] z z) (c z))
 ·exact aU <| aB <| aE <| aA <| R <| D <| oPP z <| nT <| Z H ▸ xw z
theorem yv (w) {p0 p1 j a e r} (H : rD p0 p1 j = U r) (h : (bH).rd w [] p0 a) (i : (bz).rd w [] j e) :
    Calls Tryz.prog 162 #[.agg a.toArray, .agg #[I J p1.L_, I J p1.N_, I J p1.M_, I J p1.h_, I J p1.e_, I J p1.E_, B p1.Q_], .agg e.toArray] w (fun en w' => en = .returned (B r) ∧ Ext [] w w') := by
 obtain ⟨a, a, a, a, rfl, f, l⟩ := bA h
 obtain ⟨a, a, rfl, k⟩ := cj i
 unfold rD at H
 refine ar Tryz.func162 z Tryz.ntmps162 z (St.init w []) <| D <| ob _ z fun a => ob _ z fun h => ob _ z fun i => A z <| P <| E <| dP dC (by kernel_rfl) <| G z (rx 0 0 _ z el z) <| G z (rx 0 2 _ z jb z) <| bq H Qb (fun _ m e a => Cs e m (aw (g f e a) (g l e a)) (bg (g k e a) z)) z tt2 fun m H => A z <| d H fun f o H => cu2 [(4, O (U ⟨h, 0, N⟩)), (5, O (U ⟨i, 0, N⟩)), (6, B n)] [(10, B m)] 3 (13, B f) z ?_ fun key => ?_
 ·refine A z <| cu2 [(4, O (U ⟨h, 0, N⟩)), (5, O (U ⟨i, 0, N⟩)), (6, B n)] [(14, B f)] 7 (21, B (f && (decide ((j.e_.length : Int) ≤ p1.e_)))) z ?_ fun key => ?_
  ·refine A z <| d H fun l q H => cu2 [(4, O (U ⟨h, 0, N⟩)), (5, O (U ⟨i, 0, N⟩)), (6, B n)] [(22, B (f && (decide ((j.e_.length : Int) ≤ p1.e_))))] 6 (28, B l) z ?_ fun key => ?_
   ·refine A z <| d H fun t s H => cu2 [(6, B n)] [(4, O (U ⟨h, 0, N⟩)), (5, O (U ⟨i, 0, N⟩)), (29, B l)] 6 (35, B t) z ?_ fun key => ?_
    ·exact A z <| cQ <| R <| sG <| Z H ▸ xw z
    ·have H := s
     generalize l = h at H key ⊢
     cases h
     ·have H := aN z H
      refine C [.p, .p, .p, .p, .p, .p] z ?_
      obtain rfl := Z H
      exact OW.sub key (c z)
     ·have H := aO z H
      refine G z (rx 0 2 _ z jb z) <| bq H Si (fun _ h e a => xE e h (bg (g k e a) z)) z tt2 fun h H => C [.fa 28 5 5 ul] z <| G z (r1 5 1 z ty3 z) <| A z <| A z <| ?_
      obtain rfl := Z H
      exact OW.sub key (c z)
   ·have H := q
    generalize (f && (decide ((j.e_.length : Int) ≤ p1.e_))) = h at H key ⊢
    cases h
    ·have H := aN z H
     refine C [.p, .p, .p, .p, .p, .p] z ?_
     obtain rfl := Z H
     exact OW.sub key (c z)
    ·have H := aO z H
     refine G z (rx 0 2 _ z jb z) <| bq H Ru (fun _ h e a => Aq e h (bg (g k e a) z)) z tt2 fun h H => C [.fa 28 3 3 un] z <| G z (r1 3 1 z ty3 z) <| A z <| A z <| ?_
     obtain rfl := Z H
     exact OW.sub key (c z)
  ·generalize f = f at key ⊢
   cases f
   ·exact C [.p, .p, .p, .p, .p, .p, .p] z <| OW.sub key (c z)
   ·exact C [.fa 69 0 0 dD] z <| G z (r1 0 2 z ks z) <| C [.lenS 67 145 eN, .fa 28 4 4 ut] z <| G z (r1 4 1 z ty3 z) <| A z <| A z <| OW.sub key (c z)
 ·have H := o
  generalize m = f at H key ⊢
  cases f
  ·have H := aN z H
   refine C [.p, .p, .p] z ?_
   obtain rfl := Z H
   exact OW.sub key (c z)
  ·have H := aO z H
   refine G z (rx 0 1 _ z uX z) <| bq H Ot (fun _ f e a => vr e (p0 := p1) f) z tt2 fun a H => A z <| ?_
   obtain rfl := Z H
   exact OW.sub key (c z)
theorem xg (w) {p0 p1 a cs_1 r} (H : oy p0 p1 = U r) (f : eI.rd w [] p1 cs_1) (e : At w [] a cs_1) :
    Calls Tryz.prog 208 #[I J p0, O (U a)] w (fun en w' => en = .returned (B r) ∧ Ext [] w w') := by
 obtain rfl := f
 unfold oy at H
 exact ar Tryz.func208 z Tryz.ntmps208 z (St.init w []) <| D <| A z <| nR <| A z <| G z (aT z z ty3 (bh bor e)) <| d H fun x10 a H => G z (HE z z z a) <| bq H gQ (fun _ a e f => bc e a) z tt2 fun a H => oPP z <| nT <| Z H ▸ xw z
theorem jo (w) {p0 p1_0 e a f q_1_0 cs_1_0 r} (H : cB p0 p1_0 = U r) (h : (V eI 3).rd w [] p0 [S e a f]) (g_1_0 : eI.rd w [] p1_0 cs_1_0) (hA_1_0 : At w [] q_1_0 cs_1_0) :
    Calls Tryz.prog 165 #[S e a f, .func (.func 208) #[] #[O (U q_1_0)]] w (fun en w' => en = .returned (I J r) ∧ Ext [] w w') := by
 obtain rfl := dc h
 obtain rfl := g_1_0
 unfold cB at H
 refine ar Tryz.func165 z Tryz.ntmps165 z (St.init w []) <| D <| A z <| P <| E <| D <| C [.p, .lenS 63 3 bB, .p] z <| P <| an <| CW.at (dq (fun (a : Int) => Q w [] []) (fun a => [(0, S e p0.length f), (1, .func (.func 208) #[] #[O (U q_1_0)]), (7, I J (p0.length : Int)), (8, I J a)]) (fun kk => fun a => bF p0 p1_0 kk a = U r) nofun (fun e e a H => ?_) aI (0) (H)) (ss [] z z) (c z)
 unfold bF at H
 refine D <| A z <| P <| E <| cI H z ?_ ?_ <;> intro H
 ·refine ai <| R <| E <| an <| D <| oPP z <| nR <| C [.p, .p, .p] z <| d H fun f f H => ix1 bB ty3 (g h) f z z <| d H fun f f H => Dw z z (aV z) (qI (cap := [O (U q_1_0)]) z Qu z z (fun h i => xg h (cs_1 := [I J p1_0]) f z (bh bor hA_1_0 h i))) (fun _ _ => Y) <| P <| cI H z ?_ ?_ <;> intro H
  ·exact D <| oPP z <| nT <| Z H ▸ xw z
  ·exact ai <| bR <| R <| aH <| oPP z <| ay <| bU (RW.at (e (J.wrap (a + 1)) (H)) (ss [] z z) (c z))
 ·exact aU <| aB <| aE <| aA <| R <| D <| A z <| nT <| Z H ▸ xw z
theorem iK (w) {p0 p1_0 a e f q_1_0 cs_1_0 r} (H : bW p0 p1_0 = U r) (h : (V eI 3).rd w [] p0 [S a e f]) (g_1_0 : eI.rd w [] p1_0 cs_1_0) (hA_1_0 : At w [] q_1_0 cs_1_0) :
    Calls Tryz.prog 139 #[S a e f, .func (.func 208) #[] #[O (U q_1_0)]] w (fun en w' => en = .returned (B r) ∧ Ext [] w w') := by
 obtain rfl := dc h
 obtain rfl := g_1_0
 unfold bW at H
 exact ar Tryz.func139 z Tryz.ntmps139 z (St.init w []) <| D <| A z <| nR <| oPP z <| bq H Hq (fun _ f e a => jo e (cs_1_0 := [I J p1_0]) f (g h e a) z (bh bor hA_1_0 e a)) z tt2 fun a H => oPP z <| nT <| Z H ▸ xw z
theorem tI (w) {p0 a r} (H : mo p0 = U r) (f : (cd).rd w [] p0 a) :
    Calls Tryz.prog 189 #[.agg a.toArray] w (fun en w' => en = .returned (B r) ∧ Ext [] w w') := by
 obtain ⟨j, k, rfl, e⟩ := gb f
 unfold mo at H
 refine ar Tryz.func189 z Tryz.ntmps189 z (St.init w []) <| D <| ob _ z fun a => A z <| P <| E <| D <| C [.fa 71 0 0 kF] z <| G z (r1 0 0 z fw z) <| C [.lenS 34 63 eg, .p] z <| P <| cI H z ?_ ?_ <;> intro H
 ·exact D <| A z <| nT <| Z H ▸ xw z
 ·refine ai <| R <| E <| D <| C [.fa 71 0 0 kF] z <| G z (r1 0 0 z fw z) <| C [.lenS 34 63 eg, .p] z <| P <| an <| CW.at (dq (fun (a : Int) => Q w [] []) (fun a => [(10, S j p0.p_.length k), (11, I J (p0.p_.length : Int)), (12, I J a)]) (fun kk => fun a => dU p0 kk a = U r) nofun (fun f m a H => ?_) aI (0) (H)) (ss [] z z) (c z)
  unfold dU at H
  refine D <| A z <| P <| E <| cI H z ?_ ?_ <;> intro H
  ·refine ai <| R <| E <| an <| D <| A z <| d H fun q f H => bu z z z z z eg bP z e f fun e e e f => ?_
   obtain ⟨s, t, rfl⟩ := dz e
   refine G z (aT z z bP (bh bor f)) <| bn z z z z ty3 (fun _ => kp) fun u => sC 0 [I J a] [_] 0 z ty3 z <| A z <| nR <| C [.p, .lenS 63 3 bB] z <| bq H gQ (fun _ l f h => bc f l) z tt2 fun l H => oPP z <| d H fun v o H => cu2 [(10, S j p0.p_.length k), (11, I J (p0.p_.length : Int)), (12, I J a)] [(3, O (U ⟨u, 0, N⟩)), (4, S s q.length t), (21, B (!l))] 4 (25, B v) z ?_ fun key => ?_
   ·refine P <| cI H z ?_ ?_ <;> intro H
    ·exact D <| A z <| nT <| Z H ▸ xw z
    ·exact ai <| bR <| R <| aH <| oPP z <| ay <| bU (RW.at (m (J.wrap (a + 1)) (H)) (ss [] z z) (c z))
   ·have H := o
    generalize (!l) = j at H key ⊢
    cases j
    ·have H := aN z H
     refine A z <| G z (vk z z) <| bq H Gh (fun _ j f h => iK f (cs_1_0 := [I J a]) j (g e f h) z (wZ (T := 3) 0 (Cy (i := 0) z) z f h)) z tt2 fun a H => A z <| ?_
     obtain rfl := Z H
     exact OW.sub key (c z)
    ·have H := aO z H
     refine C [.p, .p, .p, .p] z ?_
     obtain rfl := Z H
     exact OW.sub key (c z)
  ·exact aU <| aB <| aE <| aA <| R <| D <| A z <| nT <| Z H ▸ xw z
theorem Dm (w) {p0 a r} (H : rZ p0 = U r) (e : (fB).rd w [] p0 a) :
    Calls Tryz.prog 163 #[.agg a.toArray] w (fun en w' => en = .returned (B r) ∧ Ext [] w w') := by
 obtain ⟨a, a, a, a, rfl, f, i⟩ := oa e
 unfold rZ at H
 refine ar Tryz.func163 z Tryz.ntmps163 z (St.init w []) <| D <| ob _ z fun j => A z <| nR <| C [.fa 73 0 0 uj] z <| G z (rx 0 0 _ z nz z) <| bq H Oo (fun _ h a e => tI a h (bf (g f a e))) z tt2 fun f H => A z <| d H fun k h H => cu2 [(2, B n)] [(1, O (U ⟨j, 0, N⟩)), (6, B f)] 4 (10, B k) z ?_ fun key => ?_
 ·exact A z <| nT <| Z H ▸ xw z
 ·have H := h
  generalize f = f at H key ⊢
  cases f
  ·have H := aN z H
   refine C [.p, .p, .p, .p] z ?_
   obtain rfl := Z H
   exact OW.sub key (c z)
  ·have H := aO z H
   refine C [.fa 73 1 1 uk] z <| G z (rx 1 0 _ z nz z) <| bq H Oo (fun _ f a e => tI a f (bf (g i a e))) z tt2 fun a H => A z <| ?_
   obtain rfl := Z H
   exact OW.sub key (c z)
theorem fo (w) {p0 p1 e a f h j i r} (H : dG p0 p1 = U r) (k : (V eI 3).rd w [] p0 [S e a f]) (l : (V eI 3).rd w [] p1 [S h j i]) :
    Calls Tryz.prog 209 #[S e a f, S h j i] w (fun en w' => en = .returned (B r) ∧ Ext [] w w') := by
 obtain rfl := dc k
 obtain rfl := dc l
 unfold dG at H
 refine ar Tryz.func209 z Tryz.ntmps209 z (St.init w []) <| D <| A z <| P <| E <| D <| C [.p, .lenS 63 3 bB, .p, .lenS 63 3 bB, .p] z <| P <| cI H z ?_ ?_ <;> intro H
 ·exact D <| A z <| nT <| Z H ▸ xw z
 ·refine ai <| R <| E <| D <| C [.p, .lenS 63 3 bB, .p] z <| P <| an <| CW.at (dq (fun (a : Int) => Q w [] []) (fun a => [(0, S e p0.length f), (1, S h p1.length i), (12, I J (p0.length : Int)), (13, I J a)]) (fun kk => fun a => ft p0 p1 kk a = U r) nofun (fun e e a H => ?_) aI (0) (H)) (ss [] z z) (c z)
  unfold ft at H
  refine D <| A z <| P <| E <| cI H z ?_ ?_ <;> intro H
  ·refine ai <| R <| E <| an <| D <| oPP z <| P <| E <| dP dC (by kernel_rfl) <| oPP z <| d H fun f f H => ix1 bB ty3 (g k) f z z <| oPP z <| d H fun f f H => ix1 bB ty3 (g l) f z z <| A z <| cQ <| R <| cI H z ?_ ?_ <;> intro H
   ·exact D <| A z <| nT <| Z H ▸ xw z
   ·exact ai <| bR <| R <| aH <| oPP z <| ay <| bU (RW.at (e (J.wrap (a + 1)) (H)) (ss [] z z) (c z))
  ·exact aU <| aB <| aE <| aA <| R <| D <| A z <| nT <| Z H ▸ xw z
theorem wk (w) {p0 p1 a e f h i j r} (H : ql p0 p1 = U r) (k : (V eI 3).rd w [] p0 [S a e f]) (l : (V eI 3).rd w [] p1 [S h i j]) :
    Calls Tryz.prog 235 #[S a e f, S h i j] w (fun en w' => en = .returned (B r) ∧ Ext [] w w') := by
 obtain rfl := dc k
 obtain rfl := dc l
 unfold ql at H
 exact ar Tryz.func235 z Tryz.ntmps235 z (St.init w []) <| D <| A z <| nR <| oPP z <| bq H IU (fun _ f e a => fo e f (g k e a) (g l e a)) z tt2 fun a H => A z <| nT <| Z H ▸ xw z
theorem fH (w) {p0 p1 e a f h j i r} (H : ck p0 p1 = U r) (k : (V (V eI 3) 63).rd w [] p0 [S e a f]) (l : (V (V eI 3) 63).rd w [] p1 [S h j i]) :
    Calls Tryz.prog 234 #[S e a f, S h j i, .func (.func 235) #[] #[]] w (fun en w' => en = .returned (B r) ∧ Ext [] w w') := by
 obtain rfl := dc k
 obtain rfl := dc l
 unfold ck at H
 refine ar Tryz.func234 z Tryz.ntmps234 z (St.init w []) <| D <| A z <| P <| E <| D <| C [.p, .lenS 34 63 eg, .p, .lenS 34 63 eg, .p] z <| P <| cI H z ?_ ?_ <;> intro H
 ·exact D <| A z <| nT <| Z H ▸ xw z
 ·refine ai <| R <| E <| D <| C [.p, .lenS 34 63 eg, .p] z <| P <| an <| CW.at (dq (fun (a : Int) => Q w [] []) (fun a => [(1, S h p1.length i), (2, .func (.func 235) #[] #[]), (15, S e p0.length f), (16, I J (p0.length : Int)), (17, I J a)]) (fun kk => fun a => bI p0 p1 kk a = U r) nofun (fun e i a H => ?_) aI (0) (H)) (ss [] z z) (c z)
  unfold bI at H
  refine D <| A z <| P <| E <| cI H z ?_ ?_ <;> intro H
  ·refine ai <| R <| E <| an <| D <| A z <| d H fun e e H => bu z z z z z eg bP z k e fun e e e f => ?_
   obtain ⟨h, h, rfl⟩ := dz e
   refine G z (aT z z bP (bh bor f)) <| oPP z <| nR <| oPP z <| d H fun f f H => bu z z z z z eg bP z l f fun f f f h => ?_
   obtain ⟨j, j, rfl⟩ := dz f
   refine G z (aT z z bP (bh bor h)) <| A z <| nR <| C [.p, .p, .p] z <| d H fun h k H => Dw z z (aV z) (qI (cap := []) z Sf z z (fun j h => wk j k (g e j h) (g f j h))) (fun _ _ => Y) <| A z <| P <| cI H z ?_ ?_ <;> intro H
   ·exact D <| A z <| nT <| Z H ▸ xw z
   ·exact ai <| bR <| R <| aH <| oPP z <| ay <| bU (RW.at (i (J.wrap (a + 1)) (H)) (ss [] z z) (c z))
  ·exact aU <| aB <| aE <| aA <| R <| D <| A z <| nT <| Z H ▸ xw z
theorem yD (w) {p0 p1 a e f h i j r} (H : so p0 p1 = U r) (k : (V (V eI 3) 63).rd w [] p0 [S a e f]) (l : (V (V eI 3) 63).rd w [] p1 [S h i j]) :
    Calls Tryz.prog 225 #[S a e f, S h i j] w (fun en w' => en = .returned (B r) ∧ Ext [] w w') := by
 obtain rfl := dc k
 obtain rfl := dc l
 unfold so at H
 exact ar Tryz.func225 z Tryz.ntmps225 z (St.init w []) <| D <| A z <| nR <| oPP z <| bq H Qd (fun _ f e a => fH e f (g k e a) (g l e a)) z tt2 fun a H => A z <| nT <| Z H ▸ xw z
theorem yC (w) {p0 p1 a e r} (H : rX p0 p1 = U r) (h : (cZ).rd w [] p0 a) (k : (cZ).rd w [] p1 e) :
    Calls Tryz.prog 210 #[.agg a.toArray, .agg e.toArray] w (fun en w' => en = .returned (B r) ∧ Ext [] w w') := by
 obtain ⟨a, a, a, a, rfl, f, i⟩ := gR h
 obtain ⟨a, a, a, a, rfl, h, j⟩ := gR k
 unfold rX at H
 refine ar Tryz.func210 z Tryz.ntmps210 z (St.init w []) <| D <| ob _ z fun k => ob _ z fun l => A z <| nR <| C [.fa 143 0 0 iu] z <| G z (r1 0 0 z bP z) <| C [.fa 143 0 0 iu] z <| G z (r1 0 1 z bP z) <| bq H IU (fun _ m e a => fo e m (g f e a) (g h e a)) z tt2 fun f H => A z <| d H fun m h H => cu2 [(4, B n)] [(2, O (U ⟨k, 0, N⟩)), (3, O (U ⟨l, 0, N⟩)), (10, B f)] 6 (16, B m) z ?_ fun key => ?_
 ·exact A z <| nT <| Z H ▸ xw z
 ·have H := h
  generalize f = f at H key ⊢
  cases f
  ·have H := aN z H
   refine C [.p, .p, .p, .p, .p, .p] z ?_
   obtain rfl := Z H
   exact OW.sub key (c z)
  ·have H := aO z H
   refine C [.fa 143 1 1 eW] z <| G z (r1 1 0 z fw z) <| C [.fa 143 1 1 eW] z <| G z (r1 1 1 z fw z) <| bq H RU (fun _ f e a => yD e f (g i e a) (g j e a)) z tt2 fun a H => A z <| ?_
   obtain rfl := Z H
   exact OW.sub key (c z)
theorem zi (w) {p0 p1 a e r} (H : tc p0 p1 = U r) (f : (aQ).rd w [] p0 a) (h : (aQ).rd w [] p1 e) :
    Calls Tryz.prog 191 #[.agg a.toArray, .agg e.toArray] w (fun en w' => en = .returned (B r) ∧ Ext [] w w') := by
 obtain ⟨a, a, a, a, a, a, a, a, rfl, m, o, q, s⟩ := aY f
 obtain ⟨a, a, a, a, a, a, a, a, rfl, t, u, v, x⟩ := aY h
 unfold tc at H
 refine ar Tryz.func191 z Tryz.ntmps191 z (St.init w []) <| D <| ob _ z fun e => ob _ z fun f => A z <| nR <| C [.fa 145 0 0 ln] z <| G z (r1 0 0 z ty4 z) <| C [.fa 145 0 0 ln] z <| G z (r1 0 1 z ty4 z) <| G z (NB z z z bl4) <| A z <| cu2 [(2, O (U ⟨e, 0, N⟩)), (3, O (U ⟨f, 0, N⟩)), (4, B n)] [(10, B (p0.B_ == p1.B_))] 6 (16, B ((p0.B_ == p1.B_) && (p0.i_.t_ == p1.i_.t_ && (p0.i_.u_ == p1.i_.u_ && y)))) z ?_ fun key => ?_
 ·refine A z <| d H fun h j H => cu2 [(2, O (U ⟨e, 0, N⟩)), (3, O (U ⟨f, 0, N⟩)), (4, B n)] [(17, B ((p0.B_ == p1.B_) && (p0.i_.t_ == p1.i_.t_ && (p0.i_.u_ == p1.i_.u_ && y))))] 6 (23, B h) z ?_ fun key => ?_
  ·refine A z <| cu2 [(2, O (U ⟨e, 0, N⟩)), (3, O (U ⟨f, 0, N⟩)), (4, B n)] [(24, B h)] 6 (30, B (h && (p0.I_ == p1.I_))) z ?_ fun key => ?_
   ·refine A z <| d H fun i k H => cu2 [(2, O (U ⟨e, 0, N⟩)), (3, O (U ⟨f, 0, N⟩)), (4, B n)] [(31, B (h && (p0.I_ == p1.I_)))] 6 (37, B i) z ?_ fun key => ?_
    ·refine A z <| cu2 [(2, O (U ⟨e, 0, N⟩)), (3, O (U ⟨f, 0, N⟩)), (4, B n)] [(38, B i)] 6 (44, B (i && (p0.J_ == p1.J_))) z ?_ fun key => ?_
     ·refine A z <| d H fun a l H => cu2 [(2, O (U ⟨e, 0, N⟩)), (3, O (U ⟨f, 0, N⟩)), (4, B n)] [(45, B (i && (p0.J_ == p1.J_)))] 6 (51, B a) z ?_ fun key => ?_
      ·refine A z <| cu2 [(2, O (U ⟨e, 0, N⟩)), (3, O (U ⟨f, 0, N⟩)), (4, B n)] [(52, B a)] 6 (58, B (a && (p0.h_ == p1.h_))) z ?_ fun key => ?_
       ·refine A z <| cu2 [(2, O (U ⟨e, 0, N⟩)), (3, O (U ⟨f, 0, N⟩)), (4, B n)] [(59, B (a && (p0.h_ == p1.h_)))] 6 (65, B ((a && (p0.h_ == p1.h_)) && (p0.A_ == p1.A_))) z ?_ fun key => ?_
        ·refine A z <| cu2 [(4, B n)] [(2, O (U ⟨e, 0, N⟩)), (3, O (U ⟨f, 0, N⟩)), (66, B ((a && (p0.h_ == p1.h_)) && (p0.A_ == p1.A_)))] 6 (72, B (((a && (p0.h_ == p1.h_)) && (p0.A_ == p1.A_)) && (p0.G_ == p1.G_))) z ?_ fun key => ?_
         ·exact A z <| nT <| Z H ▸ xw z
         ·generalize ((a && (p0.h_ == p1.h_)) && (p0.A_ == p1.A_)) = e at key ⊢
          cases e
          ·exact C [.p, .p, .p, .p, .p, .p] z <| OW.sub key (c z)
          ·exact C [.fa 145 9 11 iY] z <| G z (r1 11 0 z ty3 z) <| C [.fa 145 9 11 iY] z <| G z (r1 11 1 z ty3 z) <| A z <| A z <| OW.sub key (c z)
        ·generalize (a && (p0.h_ == p1.h_)) = e at key ⊢
         cases e
         ·exact C [.p, .p, .p, .p, .p, .p] z <| OW.sub key (c z)
         ·exact C [.fa 145 8 10 iW] z <| G z (r1 10 0 z ty3 z) <| C [.fa 145 8 10 iW] z <| G z (r1 10 1 z ty3 z) <| A z <| A z <| OW.sub key (c z)
       ·generalize a = a at key ⊢
        cases a
        ·exact C [.p, .p, .p, .p, .p, .p] z <| OW.sub key (c z)
        ·exact C [.fa 145 7 9 gC] z <| G z (r1 9 0 z ty3 z) <| C [.fa 145 7 9 gC] z <| G z (r1 9 1 z ty3 z) <| A z <| A z <| OW.sub key (c z)
      ·have H := l
       generalize (i && (p0.J_ == p1.J_)) = a at H key ⊢
       cases a
       ·have H := aN z H
        refine C [.p, .p, .p, .p, .p, .p] z ?_
        obtain rfl := Z H
        exact OW.sub key (c z)
       ·have H := aO z H
        refine C [.fa 145 6 8 mv] z <| G z (r1 8 0 z bP z) <| C [.fa 145 6 8 mv] z <| G z (r1 8 1 z bP z) <| bq H IU (fun _ f e a => fo e f (g s e a) (g x e a)) z tt2 fun f H => A z <| ?_
        obtain rfl := Z H
        exact OW.sub key (c z)
     ·generalize i = f at key ⊢
      cases f
      ·exact C [.p, .p, .p, .p, .p, .p] z <| OW.sub key (c z)
      ·exact C [.fa 145 5 7 kw] z <| G z (r1 7 0 z ty3 z) <| C [.fa 145 5 7 kw] z <| G z (r1 7 1 z ty3 z) <| A z <| A z <| OW.sub key (c z)
    ·have H := k
     generalize (h && (p0.I_ == p1.I_)) = f at H key ⊢
     cases f
     ·have H := aN z H
      refine C [.p, .p, .p, .p, .p, .p] z ?_
      obtain rfl := Z H
      exact OW.sub key (c z)
     ·have H := aO z H
      refine C [.fa 145 4 5 ea] z <| G z (rx 5 0 _ z vi z) <| C [.fa 145 4 5 ea] z <| G z (rx 5 1 _ z vi z) <| bq H QQ (fun _ f e a => yC e f (cu (g o e a) (g q e a)) (cu (g u e a) (g v e a))) z tt2 fun f H => A z <| ?_
      obtain rfl := Z H
      exact OW.sub key (c z)
   ·generalize h = f at key ⊢
    cases f
    ·exact C [.p, .p, .p, .p, .p, .p] z <| OW.sub key (c z)
    ·exact C [.fa 145 3 4 lx] z <| G z (r1 4 0 z ty3 z) <| C [.fa 145 3 4 lx] z <| G z (r1 4 1 z ty3 z) <| A z <| A z <| OW.sub key (c z)
  ·have H := j
   generalize ((p0.B_ == p1.B_) && (p0.i_.t_ == p1.i_.t_ && (p0.i_.u_ == p1.i_.u_ && y))) = f at H key ⊢
   cases f
   ·have H := aN z H
    refine C [.p, .p, .p, .p, .p, .p] z ?_
    obtain rfl := Z H
    exact OW.sub key (c z)
   ·have H := aO z H
    refine C [.fa 145 2 3 fP] z <| G z (r1 3 0 z bP z) <| C [.fa 145 2 3 fP] z <| G z (r1 3 1 z bP z) <| bq H IU (fun _ f e a => fo e f (g m e a) (g t e a)) z tt2 fun a H => A z <| ?_
    obtain rfl := Z H
    exact OW.sub key (c z)
 ·generalize (p0.B_ == p1.B_) = a at key ⊢
  cases a
  ·exact C [.p, .p, .p, .p, .p, .p] z <| OW.sub key (c z)
  ·exact C [.fa 145 1 1 ip] z <| G z (rx 1 0 _ z sO z) <| C [.fa 145 1 1 ip] z <| G z (rx 1 1 _ z sO z) <| G z (IA (xs := [I J p0.i_.t_, I J p0.i_.u_]) (ys := [I J p1.i_.t_, I J p1.i_.u_]) z z z (MH p0.i_.t_ p1.i_.t_ p0.i_.u_ p1.i_.u_)) <| A z <| OW.sub key (c z)
theorem eh (w) {p0 p1 a e f h j i r} (H : bt p0 p1 = U r) (k : (V (aQ) 145).rd w [] p0 [S a e f]) (L : (V (aQ) 145).rd w [] p1 [S h j i]) :
    Calls Tryz.prog 190 #[S a e f, S h j i, .func (.func 191) #[] #[]] w (fun en w' => en = .returned (B r) ∧ Ext [] w w') := by
 obtain rfl := dc k
 obtain rfl := dc L
 unfold bt at H
 refine ar Tryz.func190 z Tryz.ntmps190 z (St.init w []) <| D <| A z <| P <| E <| D <| C [.p, .lenS 67 145 eN, .p, .lenS 67 145 eN, .p] z <| P <| cI H z ?_ ?_ <;> intro H
 ·exact D <| A z <| nT <| Z H ▸ xw z
 ·refine ai <| R <| E <| D <| C [.p, .lenS 67 145 eN, .p] z <| P <| an <| CW.at (dq (fun (e : Int) => Q w [] []) (fun e => [(1, S h p1.length i), (2, .func (.func 191) #[] #[]), (15, S a p0.length f), (16, I J (p0.length : Int)), (17, I J e)]) (fun kk => fun e => bb p0 p1 kk e = U r) nofun (fun a t e H => ?_) aI (0) (H)) (ss [] z z) (c z)
  unfold bb at H
  refine D <| A z <| P <| E <| cI H z ?_ ?_ <;> intro H
  ·refine ai <| R <| E <| an <| D <| A z <| d H fun a f H => bu z z z z z eN bp z k f fun f f q s => ?_
   obtain ⟨o, f, h, i, j, k, l, m, rfl, u, v, x, F⟩ := aY q
   refine G z (cT (cs := [B a.B_, I J a.i_.t_, I J a.i_.u_, S o a.v_.length f, I J a.I_, S h a.k_.q_.length i, S j a.k_.l_.length k, I J a.J_, S l a.d_.length m, I J a.h_, I J a.A_, I J a.G_]) z z bp (bh bor s) z) <| bn z z z z bp (fun _ => kp) fun q => A z <| sC 0 [B a.B_, I J a.i_.t_, I J a.i_.u_, S o a.v_.length f, I J a.I_, S h a.k_.q_.length i, S j a.k_.l_.length k, I J a.J_, S l a.d_.length m, I J a.h_, I J a.A_, I J a.G_] [_, _, _, _, _, _, _, _, _, _, _, _] 0 z bp z <| nR <| oPP z <| d H fun a f H => bu z z z z z eN bp z L f fun f f q s => ?_
   obtain ⟨f, h, i, j, k, l, m, o, rfl, L, M, T, X⟩ := aY q
   refine G z (cT (cs := [B a.B_, I J a.i_.t_, I J a.i_.u_, S f a.v_.length h, I J a.I_, S i a.k_.q_.length j, S k a.k_.l_.length l, I J a.J_, S m a.d_.length o, I J a.h_, I J a.A_, I J a.G_]) z z bp (bh bor s) z) <| bn z z z z bp (fun _ => kp) fun q => sC 0 [B a.B_, I J a.i_.t_, I J a.i_.u_, S f a.v_.length h, I J a.I_, S i a.k_.q_.length j, S k a.k_.l_.length l, I J a.J_, S m a.d_.length o, I J a.h_, I J a.A_, I J a.G_] [_, _, _, _, _, _, _, _, _, _, _, _] 1 z bp z <| nR <| A z <| G z (rx 0 0 _ z bp z) <| G z (rx 0 1 _ z bp z) <| d H fun a h H => Dw z z (aV z) (qI (cap := []) z Qm z z (fun f a => zi f h (gx z z (g u f a) z (cu (g v f a) (g x f a)) z (g F f a) z z z) (gx z z (g L f a) z (cu (g M f a) (g T f a)) z (g X f a) z z z))) (fun _ _ => Y) <| A z <| P <| cI H z ?_ ?_ <;> intro H
   ·exact D <| A z <| nT <| Z H ▸ xw z
   ·exact ai <| bR <| R <| aH <| oPP z <| ay <| bU (RW.at (t (J.wrap (e + 1)) (H)) (ss [] z z) (c z))
  ·exact aU <| aB <| aE <| aA <| R <| D <| A z <| nT <| Z H ▸ xw z
theorem yW (w) {p0 p1 a e r} (H : nU p0 p1 = U r) (h : (bz).rd w [] p0 a) (i : (bz).rd w [] p1 e) :
    Calls Tryz.prog 164 #[.agg a.toArray, .agg e.toArray] w (fun en w' => en = .returned (B r) ∧ Ext [] w w') := by
 obtain ⟨a, a, rfl, f⟩ := cj h
 obtain ⟨a, a, rfl, h⟩ := cj i
 unfold nU at H
 refine ar Tryz.func164 z Tryz.ntmps164 z (St.init w []) <| D <| ob _ z fun e => ob _ z fun i => A z <| nR <| C [.fa 69 1 1 nH] z <| G z (r1 1 0 z ty3 z) <| C [.fa 69 1 1 nH] z <| G z (r1 1 1 z ty3 z) <| oPP z <| d H fun j a H => cu2 [(4, B n)] [(2, O (U ⟨e, 0, N⟩)), (3, O (U ⟨i, 0, N⟩)), (10, B (p0.y_ == p1.y_))] 6 (16, B j) z ?_ fun key => ?_
 ·exact A z <| nT <| Z H ▸ xw z
 ·have H := a
  generalize (p0.y_ == p1.y_) = a at H key ⊢
  cases a
  ·have H := aN z H
   refine C [.p, .p, .p, .p, .p, .p] z ?_
   obtain rfl := Z H
   exact OW.sub key (c z)
  ·have H := aO z H
   refine C [.fa 69 0 0 dD] z <| G z (r1 0 0 z ks z) <| C [.fa 69 0 0 dD] z <| G z (r1 0 1 z ks z) <| bq H Rg (fun _ i e a => eh e i (g f e a) (g h e a)) z tt2 fun a H => A z <| ?_
   obtain rfl := Z H
   exact OW.sub key (c z)
theorem zr (w) {p0 p1 a e r} (H : om p0 p1 = U r) (i : (dA).rd w [] p0 a) (k : (aF).rd w [] p1 e) :
    Calls Tryz.prog 138 #[.agg a.toArray, .agg e.toArray] w (fun en w' => en = .returned (B r) ∧ Ext [] w w') := by
 obtain ⟨a, a, a, a, rfl, f, h⟩ := dV i
 obtain ⟨a, a, a, a, a, a, a, a, rfl, s, j, t, u⟩ := cg k
 unfold om at H
 refine ar Tryz.func138 z Tryz.ntmps138 z (St.init w []) <| D <| ob _ z fun k => ob _ z fun l => A z <| P <| E <| D <| G z (rx 0 0 _ z uM z) <| bq H OM (fun _ i e a => sv e i (bx (aw (g f e a) (g h e a)) z z z z z z)) z tt2 fun m H => oPP z <| d H fun i o H => cu2 [(2, O (U ⟨k, 0, N⟩)), (3, O (U ⟨l, 0, N⟩))] [(8, B (!m))] 9 (17, B i) z ?_ fun key => ?_
 ·refine A z <| d H fun v q H => cu2 [(2, O (U ⟨k, 0, N⟩)), (3, O (U ⟨l, 0, N⟩))] [(18, B i)] 5 (23, B v) z ?_ fun key => ?_
  ·refine P <| cI H z ?_ ?_ <;> intro H
   ·exact D <| A z <| nT <| Z H ▸ xw z
   ·refine ai <| R <| E <| D <| C [.fa 75 1 2 uc] z <| G z (r1 2 1 z ty4 z) <| P <| cI H z ?_ ?_ <;> intro H
    ·exact D <| C [.fa 30 0 0 mr] z <| G z (rx 0 0 _ z el z) <| C [.fa 30 1 2 rK] z <| G z (rx 2 0 _ z uX z) <| C [.fa 75 2 3 pG] z <| G z (rx 3 1 _ z jb z) <| bq H Ou (fun _ k e a => yv e (p1 := p0.b_) k (aw (g f e a) (g h e a)) (bg (g j e a) z)) z tt2 fun k H => A z <| nT <| Z H ▸ xw z
    ·exact ai <| R <| D <| C [.fa 75 2 3 pG] z <| G z (rx 3 1 _ z jb z) <| G z (bv [] [S N 0 0, I J 0] z z jb LI z Y z) <| bq H RO (fun _ k e a => yW e k (bg (g j e a) z) (bg (x := (ax.mk ([] : List az) 0)) Ja z)) z tt2 fun j H => A z <| nT <| Z H ▸ xw z
  ·have H := q
   generalize i = i at H key ⊢
   cases i
   ·have H := aN z H
    refine C [.fa 75 3 5 pA] z <| G z (rx 5 1 _ z Mr z) <| bq H Rl (fun _ i e a => Dm e i (io (bf (g t e a)) (bf (g u e a)))) z tt2 fun i H => A z <| A z <| ?_
    obtain rfl := Z H
    exact OW.sub key (c z)
   ·have H := aO z H
    refine C [.p, .p, .p, .p, .p] z ?_
    obtain rfl := Z H
    exact OW.sub key (c z)
 ·have H := o
  generalize (!m) = i at H key ⊢
  cases i
  ·have H := aN z H
   refine C [.fa 30 0 0 mr] z <| G z (rx 0 0 _ z el z) <| C [.fa 30 1 2 rK] z <| G z (rx 2 0 _ z uX z) <| C [.fa 75 0 0 tl] z <| G z (rx 0 1 _ z jb z) <| bq H Ou (fun _ i e a => yv e (p1 := p0.b_) i (aw (g f e a) (g h e a)) (bg (g s e a) z)) z tt2 fun a H => A z <| A z <| ?_
   obtain rfl := Z H
   exact OW.sub key (c z)
  ·have H := aO z H
   refine C [.p, .p, .p, .p, .p, .p, .p, .p, .p] z ?_
   obtain rfl := Z H
   exact OW.sub key (c z)
theorem xj (w) {p0 p1 a e cs_1 r} (H : ow p0 p1 = U r) (m : (aF).rd w [] p0 a) (h : (dA).rd w [] p1 cs_1) (f : At w [] e cs_1) :
    Calls Tryz.prog 137 #[.agg a.toArray, O (U e)] w (fun en w' => en = .returned (B r) ∧ Ext [] w w') := by
 obtain ⟨a, a, a, a, a, a, a, a, rfl, i, j, k, l⟩ := cg m
 obtain ⟨a, e, m, o, rfl, p, q⟩ := dV h
 unfold ow at H
 exact ar Tryz.func137 z Tryz.ntmps137 z (St.init w []) <| D <| ob _ z fun h => A z <| nR <| G z (cT (cs := [S a p1.g_.d_.length e, S m p1.g_.f_.length o, I J p1.b_.L_, I J p1.b_.N_, I J p1.b_.M_, I J p1.b_.h_, I J p1.b_.e_, I J p1.b_.E_, B p1.b_.Q_, I J p1.j_, I J p1.O_, I J p1.P_, I J p1.r_, I J p1.s_]) z z uM (bh bor f) z) <| G z (rx 0 0 _ z fO z) <| bq H Qp (fun _ f e a => zr e f (bx (aw (g p e a) (g q e a)) z z z z z z) (kD (bg (g i e a) z) z (bg (g j e a) z) (io (bf (g k e a)) (bf (g l e a))))) z tt2 fun a H => oPP z <| nT <| Z H ▸ xw z
end Go.Vk
