/- The code does what the functions of data say. Printed by program. -/
import Derived.Test.YtckmlpmehdpmiaaGreatDoorWSoE
namespace Go.Vk
open Go.Vk renaming oP → A, aa → C, sR → D, o1 → G, nQ → P, St → Q, ae → V, ab → Z, ah → E, am → R, sb → c, bE → d, af → g
open Value renaming int → I, slice → S, pointer → O, bool → B
open IntKind renaming i64 → J, u8 → K
open Bool renaming true → y, false → n
open Option renaming some → U, none → N
open Res renaming box → b, own → W
open Go.Proofs Go.RowKit
set_option maxHeartbeats 4000000
set_option maxRecDepth 100000
theorem xA (w) {f p0 p1 a_0_0 n_0_0 c_0_0 F_0_0 r} (H : mV p0 p1 = U r) (HS : Q w f [W (V (aD) 123) F_0_0 p0 [S a_0_0 n_0_0 c_0_0]] w) :
    Calls Tryz.prog 116 #[S a_0_0 n_0_0 c_0_0, I J p1] w (fun en w' => ∃ v, en = .returned v ∧ ∃ a, v = I J r.1 ∧ Q w f [W (V (aD) 123) a r.2 [S a_0_0 n_0_0 c_0_0]] w') := by
 obtain rfl := aL (i := 0) HS z
 unfold mV at H
 refine ar Tryz.func116 z Tryz.ntmps116 z (HS) <| D <| A z <| P <| E <| D <| A z <| P <| an <| CW.at (Ca (fun (k : List ap) (o : List Nat) (a : Int) (j : Int) => Q w f [W (V (aD) 123) o k [S a_0_0 p0.length c_0_0]]) (fun k o a j => [(0, S a_0_0 p0.length c_0_0), (1, I J a), (5, I J j)]) (fun kk => fun k o a j => gv p0 kk k a j = U r) nofun (fun e F k o a j H => ?_) aI (p0) (F_0_0) (p1) (0) (H)) (ss [0] z z) (c z)
 unfold gv at H
 refine E <| D <| C [.p, .p, .lenS 23 123 jN, .p] z <| P <| cI H z ?_ ?_ <;> intro H
 ·refine ai <| R <| E <| an <| D <| C [.p, .p, .p] z <| bq H ID (fun _ l e a => nj e l) z tt2 fun t H => d H fun l s H => CM z (fun e a => foc (r := 0) a z s) fun l l l l => eF z (fun e a => a.1) fun u => ?_
  obtain ⟨l, m⟩ := u
  refine jM (C' := Q w f [_, _, _]) z (fun e a => a.2) <| tg z (fun e a => BK (i := 2) a z) fun u u u => tg z (fun _ h => h) fun u u u => eF z (fun e a => a.1) fun u => ?_
  subst u
  refine jM (C' := Q w f [_, _, _, _, _]) z (fun e a => a.2) <| iL z z z z z jN cf z (iD (p := 1) z) m l (db s).1 <| C [.fa 123 0 0 kA] z <| iH (off := 0) [vS t] (p := 1) (c' := [_, _, _]) z z z z z (by first | rfl | simp only [dy, eH, dp]) z ty9 z z (al z) z z z kp <| P <| E <| CW.weak (C' := Q w f [_, _, _]) ?_ (ss [1, 3, 4] z z)
  refine aH <| C [.p, .p, .p] z <| nR <| oPP z <| iL z z z z z jN cf z (iD (p := 0) z) m l (db s).1 <| C [.fa 123 1 1 fJ] z <| G z (ng 0 1 z z z bP (by first | rfl | simp only [dy, eH, dp]) z) <| A z <| d H fun L u H => aq z Gf z z z z (fun e a => kY e u (a.carve [1] z z)) fun u e M a u => ?_
  obtain ⟨x, rfl, x⟩ := u
  refine ⟨Q w f [_, _, _, _], a.comp [1] z z x, fun _ _ => Y, ?_⟩
  refine A z <| P <| aH <| oPP z <| iL z z z z z jN cf z (iD (p := 0) z) m l (db s).1 <| C [.fa 123 2 2 kz] z <| G z (ng 0 2 z z z mZ (by first | rfl | simp only [dy, eH, dp]) z) <| A z <| d H fun s u H => aq z Ox z z z z (fun e a => qZ e u (a.carve [2] z z)) fun u e M a u => ?_
  obtain ⟨x, rfl, x⟩ := u
  refine ⟨Q w f [_, _, _, _, _], a.comp [2] z z x, fun _ _ => Y, ?_⟩
  refine A z <| ay <| bR <| R <| CW.weak (C' := Q w f [_, _, _]) ?_ (ss [0, 3, 4] z z)
  exact aH <| C [.p, .p, .p] z <| ay <| Ak (fun e a => rR (x0 := t) [1, 2] a z z) fun u => aP (C' := Q w f [_, _, _, _]) (fun _ h => h) <| Ak (fun e a => unf (p := 0) (q := 3) a z z z m l) fun a => aP (C' := Q w f [_, _, _, _, _]) (fun _ h => h) <| bU (RW.at (F ((k.set j.toNat (ap.mk t L.2 s.2))) (a) (s.1) (J.wrap (j + 1)) (H)) (ss [4] z z) (c z))
 ·exact aU <| aB <| aE <| aA <| R <| D <| oPP z <| nT <| Z H ▸ xo z fun w' hw' => ⟨_, z, o, z, hw'.sel [0] z z⟩
theorem xq (w) {e p0 p1 a_0_0 n_0_0 c_0_0 F_0_0 a_0_1 n_0_1 c_0_1 F_0_1 r} (H : lG p0 p1 = U r) (HS : Q w e [W (V (aD) 123) F_0_0 p0.d_ [S a_0_0 n_0_0 c_0_0], W (V (bC) 9) F_0_1 p0.f_ [S a_0_1 n_0_1 c_0_1]] w) :
    Calls Tryz.prog 70 #[.agg #[S a_0_0 n_0_0 c_0_0, S a_0_1 n_0_1 c_0_1], I J p1] w (fun en w' => ∃ v, en = .returned v ∧ ∃ a f, v = I J r.1 ∧ Q w e [W (V (aD) 123) a r.2.d_ [S a_0_0 n_0_0 c_0_0], W (V (bC) 9) f r.2.f_ [S a_0_1 n_0_1 c_0_1]] w') := by
 obtain rfl := aL (i := 0) HS z
 obtain rfl := aL (i := 1) HS z
 unfold lG at H
 refine ar Tryz.func70 z Tryz.ntmps70 z (HS) <| D <| ob _ z fun a => A z <| nR <| C [.fa 26 0 0 fu] z <| G z (r1 0 2 z nv z) <| A z <| d H fun a h H => aq z PX z z z z (fun f a => xA f h (a.carve [0] z z)) fun h f l a h => ?_
 obtain ⟨k, rfl, j⟩ := h
 refine ⟨Q w e [_, _, _, _], a.comp [0] z z j, fun _ _ => Y, ?_⟩
 refine A z <| nR <| C [.fa 26 1 1 lz] z <| G z (r1 1 2 z mZ z) <| A z <| d H fun h h H => aq z Ox z z z z (fun f a => qZ f h (a.carve [1] z z)) fun h f l a f => ?_
 obtain ⟨j, rfl, h⟩ := f
 refine ⟨Q w e [_, _, _, _, _], a.comp [1] z z h, fun _ _ => Y, ?_⟩
 refine A z <| P <| E <| CW.weak (C' := Q w e [_, _, _]) ?_ (ss [2, 3, 4] z z)
 exact aH <| oPP z <| nT <| Z H ▸ xo z fun w' hw' => ⟨_, z, k, j, z, hw'.sel [1, 2] z z⟩
theorem yS (w) {e p0 p1 a_0_0 n_0_0 c_0_0 F_0_0 a_0_1 n_0_1 c_0_1 F_0_1 r} (H : ko p0 p1 = U r) (HS : Q w e [W (V (aD) 123) F_0_0 p0.g_.d_ [S a_0_0 n_0_0 c_0_0], W (V (bC) 9) F_0_1 p0.g_.f_ [S a_0_1 n_0_1 c_0_1]] w) :
    Calls Tryz.prog 23 #[.agg #[S a_0_0 n_0_0 c_0_0, S a_0_1 n_0_1 c_0_1, I J p0.b_.L_, I J p0.b_.N_, I J p0.b_.M_, I J p0.b_.h_, I J p0.b_.e_, I J p0.b_.E_, B p0.b_.Q_, I J p0.j_, I J p0.O_, I J p0.P_, I J p0.r_, I J p0.s_], I J p1] w (fun en w' => ∃ v, en = .returned v ∧ ∃ a f, v = I J r.1 ∧ Q w e [W (V (aD) 123) a r.2.g_.d_ [S a_0_0 n_0_0 c_0_0], W (V (bC) 9) f r.2.g_.f_ [S a_0_1 n_0_1 c_0_1]] w') := by
 obtain rfl := aL (i := 0) HS z
 obtain rfl := aL (i := 1) HS z
 unfold ko at H
 refine ar Tryz.func23 z Tryz.ntmps23 z (HS) <| D <| ob _ z fun a => A z <| nR <| C [.fa 30 0 0 mr] z <| G z (rx 0 2 _ z el z) <| A z <| d H fun a f H => aq z SJ z z z z (fun h a => xq h f (a.carve [0, 1] z z)) fun f h f a f => ?_
 obtain ⟨j, k, rfl, h⟩ := f
 refine ⟨Q w e [_, _, _, _, _], a.comp [0, 1] z z h, fun _ _ => Y, ?_⟩
 refine A z <| P <| E <| CW.weak (C' := Q w e [_, _, _]) ?_ (ss [2, 3, 4] z z)
 exact aH <| oPP z <| nT <| Z H ▸ xo z fun w' hw' => ⟨_, z, j, k, z, hw'.sel [1, 2] z z⟩
theorem mz (w) {k p0 p1 a_0_0 n_0_0 c_0_0 F_0_0 r} (H : iA p0 p1 = U r) (HS : Q w k [W (V (V eI 3) 63) F_0_0 p0 [S a_0_0 n_0_0 c_0_0]] w) :
    Calls Tryz.prog 72 #[S a_0_0 n_0_0 c_0_0, I J p1] w (fun en w' => ∃ v, en = .returned v ∧ ∃ a, v = I J r.1 ∧ Q w k [W (V (V eI 3) 63) a r.2 [S a_0_0 n_0_0 c_0_0]] w') := by
 obtain rfl := aL (i := 0) HS z
 unfold iA at H
 refine ar Tryz.func72 z Tryz.ntmps72 z (HS) <| D <| A z <| P <| E <| D <| A z <| P <| an <| CW.at (Ca (fun (f : List (List Int)) (l : List Nat) (a : Int) (e : Int) => Q w k [W (V (V eI 3) 63) l f [S a_0_0 p0.length c_0_0]]) (fun f l a e => [(0, S a_0_0 p0.length c_0_0), (1, I J a), (5, I J e)]) (fun kk => fun f l a e => gu p0 kk f a e = U r) nofun (fun j t f l a e H => ?_) aI (p0) (F_0_0) (p1) (0) (H)) (ss [0] z z) (c z)
 unfold gu at H
 refine E <| D <| C [.p, .p, .lenS 34 63 eg, .p] z <| P <| cI H z ?_ ?_ <;> intro H
 ·refine ai <| R <| E <| an <| aH <| oPP z <| d H fun a s H => CM z (fun j a => foc (r := 0) a z s) fun m m m m => eF z (fun j a => a.1) fun u => ?_
  obtain ⟨m, o⟩ := u
  refine jM (C' := Q w k [_, _, _]) z (fun j a => a.2) <| OH z (fun j a => OO (i := 2) a z) fun u u => eF z (fun j a => a.1) fun u => ?_
  subst u
  refine jM (C' := Q w k [_, _, _]) z (fun j a => a.2) <| iL z z z z z eg bP z (iD (p := 1) z) o m (db s).1 <| G z (ng 1 0 z z z bP (by first | rfl | simp only [dy, eH, dp]) z) <| A z <| d H fun s u H => aq z Gf z z z z (fun j a => kY j u (a.carve [2] z z)) fun u j u a u => ?_
  obtain ⟨x, rfl, x⟩ := u
  refine ⟨Q w k [_, _, _, _], a.comp [2] z z x, fun _ _ => Y, ?_⟩
  refine A z <| ay <| bR <| R <| CW.weak (C' := Q w k [_, _]) ?_ (ss [1, 3] z z)
  exact aH <| C [.p, .p, .p] z <| ay <| Ak (fun j a => unf (p := 0) (q := 1) a z z z o m) fun a => aP (C' := Q w k [_, _, _]) (fun _ h => h) <| bU (RW.at (t ((f.set e.toNat s.2)) (a) (s.1) (J.wrap (e + 1)) (H)) (ss [2] z z) (c z))
 ·exact aU <| aB <| aE <| aA <| R <| D <| oPP z <| nT <| Z H ▸ xo z fun w' hw' => ⟨_, z, l, z, hw'.sel [0] z z⟩
theorem sT (w) {o p0 p1 a_0_0 n_0_0 c_0_0 F_0_0 r} (H : kU p0 p1 = U r) (HS : Q w o [W (V (aQ) 145) F_0_0 p0 [S a_0_0 n_0_0 c_0_0]] w) :
    Calls Tryz.prog 118 #[S a_0_0 n_0_0 c_0_0, I J p1] w (fun en w' => ∃ v, en = .returned v ∧ ∃ a, v = I J r.1 ∧ Q w o [W (V (aQ) 145) a r.2 [S a_0_0 n_0_0 c_0_0]] w') := by
 obtain rfl := aL (i := 0) HS z
 unfold kU at H
 refine ar Tryz.func118 z Tryz.ntmps118 z (HS) <| D <| A z <| P <| E <| D <| A z <| P <| an <| CW.at (Ca (fun (t : List az) (F : List Nat) (l : Int) (s : Int) => Q w o [W (V (aQ) 145) F t [S a_0_0 p0.length c_0_0]]) (fun t F l s => [(0, S a_0_0 p0.length c_0_0), (1, I J l), (5, I J s)]) (fun kk => fun t F l s => go p0 kk t l s = U r) nofun (fun a T t F l s H => ?_) aI (p0) (F_0_0) (p1) (0) (H)) (ss [0] z z) (c z)
 unfold go at H
 refine E <| D <| C [.p, .p, .lenS 67 145 eN, .p] z <| P <| cI H z ?_ ?_ <;> intro H
 ·refine ai <| R <| E <| an <| D <| C [.p, .p, .p, .p, .p] z <| d H fun a j H => CM z (fun m a => foc (r := 0) a z j) fun e e e e => eF z (fun m a => a.1) fun k => ?_
  obtain ⟨e, f⟩ := k
  refine jM (C' := Q w o [_, _, _]) z (fun m a => a.2) <| tg z (fun m a => BW (i := 2) a z) fun k k k => tg z (fun _ h => h) fun k k k => tg z (fun _ h => h) fun k k k => tg z (fun _ h => h) fun k k k => eF z (fun m a => a.1) fun k => ?_
  subst k
  refine jM (C' := Q w o [_, _, _, _, _, _, _]) z (fun m a => a.2) <| iL z z z z z eN bp z (iD (p := 1) z) f e (db j).1 <| C [.fa 145 0 0 ln] z <| iH (off := 0) [B ((Int.tmod l 3) == 0)] (p := 1) (c' := [_, _, _, _, _, _, _, _, _, _, _, _]) z z z z z (by first | rfl | simp only [dy, eH, dp]) z ty4 z z (al z) z z z kp <| P <| E <| CW.weak (C' := Q w o [_, _, _, _, _]) ?_ (ss [1, 3, 4, 5, 6] z z)
  refine aH <| C [.p, .p, .p] z <| nR <| C [.p, .p, .p] z <| iL z z z z z eN bp z (iD (p := 0) z) f e (db j).1 <| C [.fa 145 1 1 ip, .fa 141 0 0 kx] z <| iH (off := 1) [I J (J.wrap (l + 1))] (p := 0) (c' := [_, _, _, _, _, _, _, _, _, _, _, _]) z z z z z (by first | rfl | simp only [dy, eH, dp]) z ty3 z z (al z) z z z kp <| nR <| C [.p, .p, .p] z <| nR <| C [.p, .p, .p] z <| iL z z z z z eN bp z (iD (p := 0) z) f e (db j).1 <| C [.fa 145 1 1 ip, .fa 141 1 1 mw] z <| iH (off := 2) [I J (J.wrap ((J.wrap (l + 1)) + 1))] (p := 0) (c' := [_, _, _, _, _, _, _, _, _, _, _, _]) z z z z z (by first | rfl | simp only [dy, eH, dp]) z ty3 z z (al z) z z z kp <| nR <| C [.p, .p, .p] z <| nR <| oPP z <| iL z z z z z eN bp z (iD (p := 0) z) f e (db j).1 <| C [.fa 145 2 3 fP] z <| G z (ng 0 3 z z z bP (by first | rfl | simp only [dy, eH, dp]) z) <| A z <| d H fun u k H => aq z Gf z z z z (fun m a => kY m k (a.carve [1] z z)) fun k m M a k => ?_
  obtain ⟨x, rfl, x⟩ := k
  refine ⟨Q w o [_, _, _, _, _, _], a.comp [1] z z x, fun _ _ => Y, ?_⟩
  refine A z <| nR <| C [.p, .p, .p] z <| iL z z z z z eN bp z (iD (p := 0) z) f e (db j).1 <| C [.fa 145 3 4 lx] z <| iH (off := 4) [I J u.1] (p := 0) (c' := [_, _, _, _, _, _, _, _, _, _, _, _]) z z z z z (by first | rfl | simp only [dy, eH, dp]) z ty3 z z (al z) z z z kp <| nR <| C [.p, .p, .p] z <| nR <| oPP z <| iL z z z z z eN bp z (iD (p := 0) z) f e (db j).1 <| C [.fa 145 4 5 ea, .fa 143 0 0 iu] z <| G z (ng 0 5 z z z bP (by first | rfl | simp only [dy, eH, dp]) z) <| A z <| d H fun X k H => aq z Gf z z z z (fun m a => kY m k (a.carve [2] z z)) fun k m M a k => ?_
  obtain ⟨x, rfl, x⟩ := k
  refine ⟨Q w o [_, _, _, _, _, _, _], a.comp [2] z z x, fun _ _ => Y, ?_⟩
  refine A z <| P <| E <| CW.weak (C' := Q w o [_, _, _, _, _]) ?_ (ss [0, 3, 4, 5, 6] z z)
  refine aH <| oPP z <| iL z z z z z eN bp z (iD (p := 0) z) f e (db j).1 <| C [.fa 145 4 5 ea, .fa 143 1 1 eW] z <| G z (ng 0 6 z z z fw (by first | rfl | simp only [dy, eH, dp]) z) <| A z <| d H fun x k H => aq z NA z z z z (fun m a => mz m k (a.carve [1] z z)) fun k m M a k => ?_
  obtain ⟨L, rfl, L⟩ := k
  refine ⟨Q w o [_, _, _, _, _, _], a.comp [1] z z L, fun _ _ => Y, ?_⟩
  refine A z <| nR <| C [.p, .p, .p] z <| iL z z z z z eN bp z (iD (p := 0) z) f e (db j).1 <| C [.fa 145 5 7 kw] z <| iH (off := 7) [I J x.1] (p := 0) (c' := [_, _, _, _, _, _, _, _, _, _, _, _]) z z z z z (by first | rfl | simp only [dy, eH, dp]) z ty3 z z (al z) z z z kp <| nR <| C [.p, .p, .p] z <| nR <| oPP z <| iL z z z z z eN bp z (iD (p := 0) z) f e (db j).1 <| C [.fa 145 6 8 mv] z <| G z (ng 0 8 z z z bP (by first | rfl | simp only [dy, eH, dp]) z) <| A z <| d H fun k L H => aq z Gf z z z z (fun m a => kY m L (a.carve [2] z z)) fun L m M a L => ?_
  obtain ⟨M, rfl, M⟩ := L
  refine ⟨Q w o [_, _, _, _, _, _, _], a.comp [2] z z M, fun _ _ => Y, ?_⟩
  refine A z <| P <| E <| CW.weak (C' := Q w o [_, _, _, _, _]) ?_ (ss [0, 3, 4, 5, 6] z z)
  refine aH <| C [.p, .p, .p] z <| iL z z z z z eN bp z (iD (p := 0) z) f e (db j).1 <| C [.fa 145 7 9 gC] z <| iH (off := 9) [I J k.1] (p := 0) (c' := [_, _, _, _, _, _, _, _, _, _, _, _]) z z z z z (by first | rfl | simp only [dy, eH, dp]) z ty3 z z (al z) z z z kp <| nR <| C [.p, .p, .p] z <| nR <| C [.p, .p, .p] z <| iL z z z z z eN bp z (iD (p := 0) z) f e (db j).1 <| C [.fa 145 8 10 iW] z <| iH (off := 10) [I J (J.wrap (k.1 + 1))] (p := 0) (c' := [_, _, _, _, _, _, _, _, _, _, _, _]) z z z z z (by first | rfl | simp only [dy, eH, dp]) z ty3 z z (al z) z z z kp <| nR <| C [.p, .p, .p] z <| nR <| C [.p, .p, .p] z <| iL z z z z z eN bp z (iD (p := 0) z) f e (db j).1 <| C [.fa 145 9 11 iY] z <| iH (off := 11) [I J (J.wrap ((J.wrap (k.1 + 1)) + 1))] (p := 0) (c' := [_, _, _, _, _, _, _, _, _, _, _, _]) z z z z z (by first | rfl | simp only [dy, eH, dp]) z ty3 z z (al z) z z z kp <| P <| aH <| C [.p, .p, .p] z <| ay <| bR <| R <| aH <| C [.p, .p, .p] z <| ?_
  exact ay <| Ak (fun m a => sd (x0 := ((Int.tmod l 3) == 0)) (x1 := J.wrap (l + 1)) (x2 := J.wrap ((J.wrap (l + 1)) + 1)) (x4 := u.1) (x7 := x.1) (x9 := k.1) (x10 := J.wrap (k.1 + 1)) (x11 := J.wrap ((J.wrap (k.1 + 1)) + 1)) [1, 2, 3, 4] a z z) fun j => aP (C' := Q w o [_, _, _, _, _, _]) (fun _ h => h) <| Ak (fun m a => unf (p := 0) (q := 5) a z z z f e) fun a => aP (C' := Q w o [_, _, _, _, _, _, _]) (fun _ h => h) <| bU (RW.at (T ((t.set s.toNat (az.mk ((Int.tmod l 3) == 0) (bD.mk (J.wrap (l + 1)) (J.wrap ((J.wrap (l + 1)) + 1))) u.2 u.1 (bl.mk X.2 x.2) x.1 k.2 k.1 (J.wrap (k.1 + 1)) (J.wrap ((J.wrap (k.1 + 1)) + 1))))) (a) (J.wrap ((J.wrap ((J.wrap (k.1 + 1)) + 1)) + 1)) (J.wrap (s + 1)) (H)) (ss [6] z z) (c z))
 ·exact aU <| aB <| aE <| aA <| R <| D <| oPP z <| nT <| Z H ▸ xo z fun w' hw' => ⟨_, z, F, z, hw'.sel [0] z z⟩
theorem wm (w) {m p0 p1 a_0_0 n_0_0 c_0_0 F_0_0 r} (H : kL p0 p1 = U r) (HS : Q w m [W (V (aF) 75) F_0_0 p0 [S a_0_0 n_0_0 c_0_0]] w) :
    Calls Tryz.prog 71 #[S a_0_0 n_0_0 c_0_0, I J p1] w (fun en w' => ∃ v, en = .returned v ∧ ∃ a, v = I J r.1 ∧ Q w m [W (V (aF) 75) a r.2 [S a_0_0 n_0_0 c_0_0]] w') := by
 obtain rfl := aL (i := 0) HS z
 unfold kL at H
 refine ar Tryz.func71 z Tryz.ntmps71 z (HS) <| D <| A z <| P <| E <| D <| A z <| P <| an <| CW.at (Ca (fun (s : List au) (u : List Nat) (a : Int) (o : Int) => Q w m [W (V (aF) 75) u s [S a_0_0 p0.length c_0_0]]) (fun s u a o => [(0, S a_0_0 p0.length c_0_0), (1, I J a), (5, I J o)]) (fun kk => fun s u a o => fD p0 kk s a o = U r) nofun (fun e L s u a o H => ?_) aI (p0) (F_0_0) (p1) (0) (H)) (ss [0] z z) (c z)
 unfold fD at H
 refine E <| D <| C [.p, .p, .lenS 31 75 mU, .p] z <| P <| cI H z ?_ ?_ <;> intro H
 ·refine ai <| R <| E <| an <| D <| oPP z <| d H fun a k H => CM z (fun j a => foc (r := 0) a z k) fun e e e e => eF z (fun j a => a.1) fun l => ?_
  obtain ⟨e, f⟩ := l
  refine jM (C' := Q w m [_, _, _]) z (fun j a => a.2) <| tg z (fun j a => yZ (i := 2) a z) fun l l l => tg z (fun _ h => h) fun l l l => tg z (fun _ h => h) fun l l l => tg z (fun _ h => h) fun l l l => eF z (fun j a => a.1) fun l => ?_
  subst l
  refine jM (C' := Q w m [_, _, _, _, _, _, _]) z (fun j a => a.2) <| iL z z z z z mU fO z (iD (p := 1) z) f e (db k).1 <| C [.fa 75 0 0 tl, .fa 69 0 0 dD] z <| G z (ng 1 0 z z z ks (by first | rfl | simp only [dy, eH, dp]) z) <| A z <| d H fun l t H => aq z Oh z z z z (fun j a => sT j t (a.carve [3] z z)) fun t j M a t => ?_
  obtain ⟨x, rfl, x⟩ := t
  refine ⟨Q w m [_, _, _, _, _, _, _, _], a.comp [3] z z x, fun _ _ => Y, ?_⟩
  refine A z <| P <| E <| CW.weak (C' := Q w m [_, _, _, _, _]) ?_ (ss [1, 4, 5, 6, 7] z z)
  refine aH <| C [.p, .p, .p] z <| iL z z z z z mU fO z (iD (p := 0) z) f e (db k).1 <| C [.fa 75 0 0 tl, .fa 69 1 1 nH] z <| iH (off := 1) [I J l.1] (p := 0) (c' := [_, _, _, _, _, _, _]) z z z z z (by first | rfl | simp only [dy, eH, dp]) z ty3 z z (al z) z z z kp <| nR <| C [.p, .p, .p] z <| nR <| C [.p, .p, .p, .p, .p] z <| iL z z z z z mU fO z (iD (p := 0) z) f e (db k).1 <| C [.fa 75 1 2 uc] z <| iH (off := 2) [B ((Int.tmod (J.wrap (l.1 + 1)) 3) == 0)] (p := 0) (c' := [_, _, _, _, _, _, _]) z z z z z (by first | rfl | simp only [dy, eH, dp]) z ty4 z z (al z) z z z kp <| nR <| C [.p, .p, .p] z <| nR <| oPP z <| iL z z z z z mU fO z (iD (p := 0) z) f e (db k).1 <| C [.fa 75 2 3 pG, .fa 69 0 0 dD] z <| G z (ng 0 3 z z z ks (by first | rfl | simp only [dy, eH, dp]) z) <| A z <| d H fun t x H => aq z Oh z z z z (fun j a => sT j x (a.carve [1] z z)) fun x j M a x => ?_
  obtain ⟨F, rfl, F⟩ := x
  refine ⟨Q w m [_, _, _, _, _, _], a.comp [1] z z F, fun _ _ => Y, ?_⟩
  refine A z <| nR <| C [.p, .p, .p] z <| iL z z z z z mU fO z (iD (p := 0) z) f e (db k).1 <| C [.fa 75 2 3 pG, .fa 69 1 1 nH] z <| iH (off := 4) [I J t.1] (p := 0) (c' := [_, _, _, _, _, _, _]) z z z z z (by first | rfl | simp only [dy, eH, dp]) z ty3 z z (al z) z z z kp <| nR <| C [.p, .p, .p] z <| nR <| oPP z <| iL z z z z z mU fO z (iD (p := 0) z) f e (db k).1 <| C [.fa 75 3 5 pA, .fa 73 0 0 uj, .fa 71 0 0 kF] z <| G z (ng 0 5 z z z fw (by first | rfl | simp only [dy, eH, dp]) z) <| A z <| d H fun T x H => aq z NA z z z z (fun j a => mz j x (a.carve [2] z z)) fun x j M a x => ?_
  obtain ⟨F, rfl, F⟩ := x
  refine ⟨Q w m [_, _, _, _, _, _, _], a.comp [2] z z F, fun _ _ => Y, ?_⟩
  refine A z <| P <| CW.weak (C' := Q w m [_, _, _, _, _]) ?_ (ss [0, 3, 4, 5, 6] z z)
  refine aH <| oPP z <| iL z z z z z mU fO z (iD (p := 0) z) f e (db k).1 <| C [.fa 75 3 5 pA, .fa 73 1 1 uk, .fa 71 0 0 kF] z <| G z (ng 0 6 z z z fw (by first | rfl | simp only [dy, eH, dp]) z) <| A z <| d H fun k x H => aq z NA z z z z (fun j a => mz j x (a.carve [1] z z)) fun x j M a x => ?_
  obtain ⟨F, rfl, F⟩ := x
  refine ⟨Q w m [_, _, _, _, _, _], a.comp [1] z z F, fun _ _ => Y, ?_⟩
  exact A z <| ay <| bR <| R <| aH <| C [.p, .p, .p] z <| ay <| Ak (fun j a => qj (x1 := l.1) (x2 := ((Int.tmod (J.wrap (l.1 + 1)) 3) == 0)) (x4 := t.1) [2, 3, 4, 5] a z z) fun x => aP (C' := Q w m [_, _, _, _, _, _, _]) (fun _ h => h) <| Ak (fun j a => unf (p := 0) (q := 6) a z z z f e) fun a => aP (C' := Q w m [_, _, _, _, _, _, _, _]) (fun _ h => h) <| bU (RW.at (L ((s.set o.toNat (au.mk (ax.mk l.2 l.1) ((Int.tmod (J.wrap (l.1 + 1)) 3) == 0) (ax.mk t.2 t.1) (dg.mk (aJ.mk T.2) (aJ.mk k.2))))) (a) (k.1) (J.wrap (o + 1)) (H)) (ss [7] z z) (c z))
 ·exact aU <| aB <| aE <| aA <| R <| D <| oPP z <| nT <| Z H ▸ xo z fun w' hw' => ⟨_, z, u, z, hw'.sel [0] z z⟩
theorem wP (w) {e p0 p1 a_0_0 n_0_0 c_0_0 F_0_0 r} (H : lE p0 p1 = U r) (HS : Q w e [W (V (aF) 75) F_0_0 p0.j_ [S a_0_0 n_0_0 c_0_0]] w) :
    Calls Tryz.prog 24 #[.agg #[S a_0_0 n_0_0 c_0_0], I J p1] w (fun en w' => ∃ v, en = .returned v ∧ ∃ a, v = I J r.1 ∧ Q w e [W (V (aF) 75) a r.2.j_ [S a_0_0 n_0_0 c_0_0]] w') := by
 obtain rfl := aL (i := 0) HS z
 unfold lE at H
 refine ar Tryz.func24 z Tryz.ntmps24 z (HS) <| D <| ob _ z fun a => A z <| nR <| C [.fa 33 0 0 nK] z <| G z (r1 0 1 z wi z) <| A z <| d H fun a f H => aq z Te z z z z (fun h a => wm h f (a.carve [0] z z)) fun f h f a f => ?_
 obtain ⟨j, rfl, h⟩ := f
 refine ⟨Q w e [_, _, _], a.comp [0] z z h, fun _ _ => Y, ?_⟩
 exact A z <| nR <| oPP z <| nT <| Z H ▸ xo z fun w' hw' => ⟨_, z, j, z, hw'.sel [2] z z⟩
theorem xv (w) {o p0 p1 a_0_0 n_0_0 c_0_0 F_0_0 r} (H : ni p0 p1 = U r) (HS : Q w o [W (V (aK) 83) F_0_0 p0 [S a_0_0 n_0_0 c_0_0]] w) :
    Calls Tryz.prog 73 #[S a_0_0 n_0_0 c_0_0, I J p1] w (fun en w' => ∃ v, en = .returned v ∧ ∃ a, v = I J r.1 ∧ Q w o [W (V (aK) 83) a r.2 [S a_0_0 n_0_0 c_0_0]] w') := by
 obtain rfl := aL (i := 0) HS z
 unfold ni at H
 refine ar Tryz.func73 z Tryz.ntmps73 z (HS) <| D <| A z <| P <| E <| D <| A z <| P <| an <| CW.at (Ca (fun (j : List aC) (k : List Nat) (a : Int) (f : Int) => Q w o [W (V (aK) 83) k j [S a_0_0 p0.length c_0_0]]) (fun j k a f => [(0, S a_0_0 p0.length c_0_0), (1, I J a), (5, I J f)]) (fun kk => fun j k a f => gD p0 kk j a f = U r) nofun (fun e x j k a f H => ?_) aI (p0) (F_0_0) (p1) (0) (H)) (ss [0] z z) (c z)
 unfold gD at H
 refine E <| D <| C [.p, .p, .lenS 35 83 nO, .p] z <| P <| cI H z ?_ ?_ <;> intro H
 ·refine ai <| R <| E <| an <| D <| C [.p, .p, .p] z <| d H fun e s H => CM z (fun t e => foc (r := 0) e z s) fun l l l l => eF z (fun t e => e.1) fun u => ?_
  obtain ⟨l, m⟩ := u
  refine jM (C' := Q w o [_, _, _]) z (fun t e => e.2) <| eF z (fun t e => KK (i := 2) e z) fun u => ?_
  obtain ⟨rfl, rfl⟩ := u
  exact jM (C' := Q w o [_, _]) z (fun t e => St.mask [y, y] z e) <| iL z z z z z nO nG z (iD (p := 1) z) m l (db s).1 <| C [.fa 83 0 0 tf] z <| iH (off := 0) [I J a] (p := 1) (c' := [_, _]) z z z z z (by first | rfl | simp only [dy, eH, dp]) z ty3 z z (al z) z z z kp <| nR <| C [.p, .p, .p] z <| nR <| C [.p, .p, .p] z <| iL z z z z z nO nG z (iD (p := 1) z) m l (db s).1 <| C [.fa 83 1 1 rN] z <| iH (off := 1) [I J (J.wrap (a + 1))] (p := 1) (c' := [_, _]) z z z z z (by first | rfl | simp only [dy, eH, dp]) z ty3 z z (al z) z z z kp <| P <| aH <| C [.p, .p, .p] z <| ay <| bR <| R <| aH <| C [.p, .p, .p] z <| ay <| aP (fun _ h => St.push0 h (W (aK) [] (aC.mk a (J.wrap (a + 1))) [I J a, I J (J.wrap (a + 1))]) z ⟨z, z⟩) <| Ak (fun t e => unf (p := 1) (q := 2) e z z z m l) fun e => aP (C' := Q w o [_, _, _, _]) (fun _ h => h) <| bU (RW.at (x ((j.set f.toNat (aC.mk a (J.wrap (a + 1))))) (e) (J.wrap ((J.wrap (a + 1)) + 1)) (J.wrap (f + 1)) (H)) (ss [3] z z) (c z))
 ·exact aU <| aB <| aE <| aA <| R <| D <| oPP z <| nT <| Z H ▸ xo z fun w' hw' => ⟨_, z, k, z, hw'.sel [0] z z⟩
theorem xW (w) {e p0 p1 a_0_0 n_0_0 c_0_0 F_0_0 a_0_1 n_0_1 c_0_1 F_0_1 r} (H : mD p0 p1 = U r) (HS : Q w e [W (V (V eI 3) 63) F_0_0 p0.o_ [S a_0_0 n_0_0 c_0_0], W (V (aK) 83) F_0_1 p0.n_ [S a_0_1 n_0_1 c_0_1]] w) :
    Calls Tryz.prog 25 #[.agg #[S a_0_0 n_0_0 c_0_0, S a_0_1 n_0_1 c_0_1], I J p1] w (fun en w' => ∃ v, en = .returned v ∧ ∃ a f, v = I J r.1 ∧ Q w e [W (V (V eI 3) 63) a r.2.o_ [S a_0_0 n_0_0 c_0_0], W (V (aK) 83) f r.2.n_ [S a_0_1 n_0_1 c_0_1]] w') := by
 obtain rfl := aL (i := 0) HS z
 obtain rfl := aL (i := 1) HS z
 unfold mD at H
 refine ar Tryz.func25 z Tryz.ntmps25 z (HS) <| D <| ob _ z fun a => A z <| nR <| C [.fa 37 0 0 kQ] z <| G z (r1 0 2 z fw z) <| A z <| d H fun a h H => aq z NA z z z z (fun f a => mz f h (a.carve [0] z z)) fun h f l a h => ?_
 obtain ⟨k, rfl, j⟩ := h
 refine ⟨Q w e [_, _, _, _], a.comp [0] z z j, fun _ _ => Y, ?_⟩
 refine A z <| nR <| C [.fa 37 1 1 kq] z <| G z (r1 1 2 z tt z) <| A z <| d H fun h h H => aq z Tm z z z z (fun f a => xv f h (a.carve [1] z z)) fun h f l a f => ?_
 obtain ⟨j, rfl, h⟩ := f
 refine ⟨Q w e [_, _, _, _, _], a.comp [1] z z h, fun _ _ => Y, ?_⟩
 refine A z <| P <| E <| CW.weak (C' := Q w e [_, _, _]) ?_ (ss [2, 3, 4] z z)
 exact aH <| oPP z <| nT <| Z H ▸ xo z fun w' hw' => ⟨_, z, k, j, z, hw'.sel [1, 2] z z⟩
theorem xV (w) {f p0 p1 a_0_0 n_0_0 c_0_0 F_0_0 a_0_1 n_0_1 c_0_1 F_0_1 a_0_2 n_0_2 c_0_2 F_0_2 a_0_3 n_0_3 c_0_3 F_0_3 a_0_4 n_0_4 c_0_4 F_0_4 r} (H : iy p0 p1 = U r) (HS : Q w f [W (V (aD) 123) F_0_0 p0.a_.g_.d_ [S a_0_0 n_0_0 c_0_0], W (V (bC) 9) F_0_1 p0.a_.g_.f_ [S a_0_1 n_0_1 c_0_1], W (V (aF) 75) F_0_2 p0.z_.j_ [S a_0_2 n_0_2 c_0_2], W (V (V eI 3) 63) F_0_3 p0.m_.o_ [S a_0_3 n_0_3 c_0_3], W (V (aK) 83) F_0_4 p0.m_.n_ [S a_0_4 n_0_4 c_0_4]] w) :
    Calls Tryz.prog 10 #[.agg #[S a_0_0 n_0_0 c_0_0, S a_0_1 n_0_1 c_0_1, I J p0.a_.b_.L_, I J p0.a_.b_.N_, I J p0.a_.b_.M_, I J p0.a_.b_.h_, I J p0.a_.b_.e_, I J p0.a_.b_.E_, B p0.a_.b_.Q_, I J p0.a_.j_, I J p0.a_.O_, I J p0.a_.P_, I J p0.a_.r_, I J p0.a_.s_, S a_0_2 n_0_2 c_0_2, S a_0_3 n_0_3 c_0_3, S a_0_4 n_0_4 c_0_4], I J p1] w (fun en w' => ∃ v, en = .returned v ∧ ∃ a e h j k, v = I J r.1 ∧ Q w f [W (V (aD) 123) a r.2.a_.g_.d_ [S a_0_0 n_0_0 c_0_0], W (V (bC) 9) e r.2.a_.g_.f_ [S a_0_1 n_0_1 c_0_1], W (V (aF) 75) h r.2.z_.j_ [S a_0_2 n_0_2 c_0_2], W (V (V eI 3) 63) j r.2.m_.o_ [S a_0_3 n_0_3 c_0_3], W (V (aK) 83) k r.2.m_.n_ [S a_0_4 n_0_4 c_0_4]] w') := by
 obtain rfl := aL (i := 0) HS z
 obtain rfl := aL (i := 1) HS z
 obtain rfl := aL (i := 2) HS z
 obtain rfl := aL (i := 3) HS z
 obtain rfl := aL (i := 4) HS z
 unfold iy at H
 refine ar Tryz.func10 z Tryz.ntmps10 z (HS) <| D <| ob _ z fun a => A z <| nR <| C [.fa 39 0 0 gW] z <| G z (rx 0 5 _ z uM z) <| A z <| d H fun a h H => aq z Ss z z z z (fun e a => yS e h (a.carve [0, 1] z z)) fun h e k a h => ?_
 obtain ⟨l, m, rfl, j⟩ := h
 refine ⟨Q w f [_, _, _, _, _, _, _, _], a.comp [0, 1] z z j, fun _ _ => Y, ?_⟩
 refine A z <| P <| E <| CW.weak (C' := Q w f [_, _, _, _, _, _]) ?_ (ss [2, 3, 4, 5, 6, 7] z z)
 refine aH <| C [.fa 39 1 14 qi] z <| G z (rx 14 3 _ z JZ z) <| A z <| d H fun h h H => aq z Td z z z z (fun e a => wP e h (a.carve [0] z z)) fun h e k a h => ?_
 obtain ⟨o, rfl, j⟩ := h
 refine ⟨Q w f [_, _, _, _, _, _, _], a.comp [0] z z j, fun _ _ => Y, ?_⟩
 refine A z <| nR <| C [.fa 39 2 15 jD] z <| G z (rx 15 3 _ z Jz z) <| A z <| d H fun h h H => aq z SI z z z z (fun e a => xW e h (a.carve [1, 2] z z)) fun h e k a e => ?_
 obtain ⟨j, k, rfl, h⟩ := e
 refine ⟨Q w f [_, _, _, _, _, _, _, _, _], a.comp [1, 2] z z h, fun _ _ => Y, ?_⟩
 refine A z <| P <| E <| CW.weak (C' := Q w f [_, _, _, _, _, _]) ?_ (ss [3, 4, 5, 6, 7, 8] z z)
 exact aH <| oPP z <| nT <| Z H ▸ xo z fun w' hw' => ⟨_, z, l, m, o, j, k, z, hw'.sel [1, 2, 3, 4, 5] z z⟩
theorem kG (w) {p0 p1 f a h r} (H : ir p0 p1 = U r) (i : (V eI 3).rd w [] p0 [S f a h]) :
    Calls Tryz.prog 123 #[S f a h, I J p1] w (fun en w' => en = .returned (I J r) ∧ Ext [] w w') := by
 obtain rfl := dc i
 unfold ir at H
 refine ar Tryz.func123 z Tryz.ntmps123 z (St.init w []) <| D <| A z <| P <| E <| D <| A z <| P <| an <| CW.at (fc (fun (a : Int) (e : Int) => Q w [] []) (fun a e => [(0, S f p0.length h), (1, I J a), (5, I J e)]) (fun kk => fun a e => ie p0 kk a e = U r) nofun (fun f f a e H => ?_) aI (p1) (0) (H)) (ss [] z z) (c z)
 unfold ie at H
 refine E <| D <| C [.p, .p, .lenS 63 3 bB, .p] z <| P <| cI H z ?_ ?_ <;> intro H
 ·refine ai <| R <| E <| an <| E <| D <| oPP z <| d H fun h h H => ix1 bB ty3 (g i) h z z <| oPP z <| P <| cI H z ?_ ?_ <;> intro H
  ·exact D <| A z <| nT <| Z H ▸ xw z
  ·exact ai <| R <| aH <| C [.p, .p, .p] z <| ay <| bR <| R <| aH <| C [.p, .p, .p] z <| ay <| bU (RW.at (f (J.wrap (a + 1)) (J.wrap (e + 1)) (H)) (ss [] z z) (c z))
 ·exact aU <| aB <| aE <| aA <| R <| D <| oPP z <| nT <| Z H ▸ xw z
theorem rg (w) {p0 p1 f a h r} (H : jm p0 p1 = U r) (i : (V (bC) 9).rd w [] p0 [S f a h]) :
    Calls Tryz.prog 121 #[S f a h, I J p1] w (fun en w' => en = .returned (I J r) ∧ Ext [] w w') := by
 obtain rfl := dc i
 unfold jm at H
 refine ar Tryz.func121 z Tryz.ntmps121 z (St.init w []) <| D <| A z <| P <| E <| D <| A z <| P <| an <| CW.at (fc (fun (a : Int) (e : Int) => Q w [] []) (fun a e => [(0, S f p0.length h), (1, I J a), (5, I J e)]) (fun kk => fun a e => fE p0 kk a e = U r) nofun (fun f f a e H => ?_) aI (p1) (0) (H)) (ss [] z z) (c z)
 unfold fE at H
 refine E <| D <| C [.p, .p, .lenS 24 9 eo, .p] z <| P <| cI H z ?_ ?_ <;> intro H
 ·refine ai <| R <| E <| an <| E <| E <| dP dC (by kernel_rfl) <| oPP z <| d H fun h h H => ix1 eo ty9 (g i) h z z <| A z <| bq H ID (fun _ h i j => nj i h) z tt2 fun h H => A z <| cQ <| R <| cI H z ?_ ?_ <;> intro H
  ·exact D <| A z <| nT <| Z H ▸ xw z
  ·exact ai <| R <| aH <| C [.p, .p, .p] z <| ay <| bR <| R <| aH <| C [.p, .p, .p] z <| ay <| bU (RW.at (f (J.wrap (a + 1)) (J.wrap (e + 1)) (H)) (ss [] z z) (c z))
 ·exact aU <| aB <| aE <| aA <| R <| D <| oPP z <| nT <| Z H ▸ xw z
theorem xy (w) {p0 p1 f a h r} (H : mO p0 p1 = U r) (i : (V (aD) 123).rd w [] p0 [S f a h]) :
    Calls Tryz.prog 120 #[S f a h, I J p1] w (fun en w' => en = .returned (I J r) ∧ Ext [] w w') := by
 obtain rfl := dc i
 unfold mO at H
 refine ar Tryz.func120 z Tryz.ntmps120 z (St.init w []) <| D <| A z <| P <| E <| D <| A z <| P <| an <| CW.at (fc (fun (e : Int) (a : Int) => Q w [] []) (fun e a => [(0, S f p0.length h), (1, I J e), (5, I J a)]) (fun kk => fun e a => gj p0 kk e a = U r) nofun (fun f k e a H => ?_) aI (p1) (0) (H)) (ss [] z z) (c z)
 unfold gj at H
 refine E <| D <| C [.p, .p, .lenS 23 123 jN, .p] z <| P <| cI H z ?_ ?_ <;> intro H
 ·refine ai <| R <| E <| an <| E <| E <| dP dC (by kernel_rfl) <| oPP z <| d H fun e e H => bu z z z z z jN cf z i e fun e e e f => ?_
  obtain ⟨h, h, h, h, rfl, h, h⟩ := bJ e
  refine C [.fa 123 0 0 kA] z <| G z (aT z z ty9 (bh bor (jO f 0 1))) <| A z <| bq H ID (fun _ h e f => nj e h) z tt2 fun h H => A z <| cQ <| R <| cI H z ?_ ?_ <;> intro H
  ·exact D <| A z <| nT <| Z H ▸ xw z
  ·refine ai <| R <| D <| C [.p, .p, .p] z <| nR <| oPP z <| d H fun h h H => bu z z z z z jN cf z i h fun h h h j => ?_
   obtain ⟨l, l, l, l, rfl, l, m⟩ := bJ h
   refine C [.fa 123 1 1 fJ] z <| G z (aT z z bP (bh bor (jO j 1 1))) <| A z <| bq H GV (fun _ h e f => kG e h (g l e f)) z tt2 fun h H => A z <| P <| E <| D <| oPP z <| P <| cI H z ?_ ?_ <;> intro H
   ·exact D <| A z <| nT <| Z H ▸ xw z
   ·refine ai <| R <| D <| oPP z <| d H fun h h H => bu z z z z z jN cf z i h fun h h h i => ?_
    obtain ⟨j, j, j, j, rfl, j, j⟩ := bJ h
    refine C [.fa 123 2 2 kz] z <| G z (aT z z mZ (bh bor (jO i 2 1))) <| A z <| bq H NW (fun _ h e f => rg e h (g j e f)) z tt2 fun e H => A z <| nR <| oPP z <| P <| cI H z ?_ ?_ <;> intro H
    ·exact D <| A z <| nT <| Z H ▸ xw z
    ·exact ai <| bR <| R <| aH <| C [.p, .p, .p] z <| ay <| bU (RW.at (k (e) (J.wrap (a + 1)) (H)) (ss [] z z) (c z))
 ·exact aU <| aB <| aE <| aA <| R <| D <| oPP z <| nT <| Z H ▸ xw z
theorem xk (w) {p0 p1 a r} (H : lO p0 p1 = U r) (e : (bH).rd w [] p0 a) :
    Calls Tryz.prog 74 #[.agg a.toArray, I J p1] w (fun en w' => en = .returned (I J r) ∧ Ext [] w w') := by
 obtain ⟨a, a, a, a, rfl, f, h⟩ := bA e
 unfold lO at H
 refine ar Tryz.func74 z Tryz.ntmps74 z (St.init w []) <| D <| ob _ z fun a => A z <| nR <| C [.fa 26 0 0 fu] z <| G z (r1 0 0 z nv z) <| A z <| bq H Rb (fun _ i a e => xy a i (g f a e)) z tt2 fun f H => A z <| P <| E <| D <| oPP z <| P <| cI H z ?_ ?_ <;> intro H
 ·exact D <| A z <| nT <| Z H ▸ xw z
 ·refine ai <| R <| D <| C [.fa 26 1 1 lz] z <| G z (r1 1 0 z mZ z) <| A z <| bq H NW (fun _ f a e => rg a f (g h a e)) z tt2 fun a H => A z <| P <| E <| D <| oPP z <| P <| cI H z ?_ ?_ <;> intro H
  ·exact D <| A z <| nT <| Z H ▸ xw z
  ·exact ai <| R <| D <| oPP z <| nT <| Z H ▸ xw z
theorem yN (w) {p0 p1 a r} (H : og p0 p1 = U r) (e : (dA).rd w [] p0 a) :
    Calls Tryz.prog 26 #[.agg a.toArray, I J p1] w (fun en w' => en = .returned (I J r) ∧ Ext [] w w') := by
 obtain ⟨a, a, a, a, rfl, f, h⟩ := dV e
 unfold og at H
 refine ar Tryz.func26 z Tryz.ntmps26 z (St.init w []) <| D <| ob _ z fun a => A z <| nR <| C [.fa 30 0 0 mr] z <| G z (rx 0 0 _ z el z) <| A z <| bq H Sm (fun _ i e a => xk e i (aw (g f e a) (g h e a))) z tt2 fun a H => A z <| P <| E <| D <| oPP z <| P <| cI H z ?_ ?_ <;> intro H
 ·exact D <| A z <| nT <| Z H ▸ xw z
 ·exact ai <| R <| D <| oPP z <| nT <| Z H ▸ xw z
theorem mx (w) {p0 p1 f a h r} (H : iB p0 p1 = U r) (i : (V (V eI 3) 63).rd w [] p0 [S f a h]) :
    Calls Tryz.prog 76 #[S f a h, I J p1] w (fun en w' => en = .returned (I J r) ∧ Ext [] w w') := by
 obtain rfl := dc i
 unfold iB at H
 refine ar Tryz.func76 z Tryz.ntmps76 z (St.init w []) <| D <| A z <| P <| E <| D <| A z <| P <| an <| CW.at (fc (fun (e : Int) (a : Int) => Q w [] []) (fun e a => [(0, S f p0.length h), (1, I J e), (5, I J a)]) (fun kk => fun e a => gy p0 kk e a = U r) nofun (fun f f e a H => ?_) aI (p1) (0) (H)) (ss [] z z) (c z)
 unfold gy at H
 refine E <| D <| C [.p, .p, .lenS 34 63 eg, .p] z <| P <| cI H z ?_ ?_ <;> intro H
 ·refine ai <| R <| E <| an <| D <| oPP z <| d H fun e e H => bu z z z z z eg bP z i e fun e e e h => ?_
  obtain ⟨i, i, rfl⟩ := dz e
  refine G z (aT z z bP (bh bor h)) <| A z <| bq H GV (fun _ h i j => kG i h (g e i j)) z tt2 fun e H => A z <| nR <| oPP z <| P <| cI H z ?_ ?_ <;> intro H
  ·exact D <| A z <| nT <| Z H ▸ xw z
  ·exact ai <| bR <| R <| aH <| C [.p, .p, .p] z <| ay <| bU (RW.at (f (e) (J.wrap (a + 1)) (H)) (ss [] z z) (c z))
 ·exact aU <| aB <| aE <| aA <| R <| D <| oPP z <| nT <| Z H ▸ xw z
theorem sB (w) {p0 p1 h e i r} (H : kT p0 p1 = U r) (a : (V (aQ) 145).rd w [] p0 [S h e i]) :
    Calls Tryz.prog 122 #[S h e i, I J p1] w (fun en w' => en = .returned (I J r) ∧ Ext [] w w') := by
 obtain rfl := dc a
 unfold kT at H
 refine ar Tryz.func122 z Tryz.ntmps122 z (St.init w []) <| D <| A z <| P <| E <| D <| A z <| P <| an <| CW.at (fc (fun (f : Int) (e : Int) => Q w [] []) (fun f e => [(0, S h p0.length i), (1, I J f), (5, I J e)]) (fun kk => fun f e => gB p0 kk f e = U r) nofun (fun h k f e H => ?_) aI (p1) (0) (H)) (ss [] z z) (c z)
 unfold gB at H
 refine E <| D <| C [.p, .p, .lenS 67 145 eN, .p] z <| P <| cI H z ?_ ?_ <;> intro H
 ·refine ai <| R <| E <| an <| E <| D <| oPP z <| d H fun f f H => bu z z z z z eN bp z a f fun f f f h => ?_
  obtain ⟨i, i, i, i, i, i, i, i, rfl, i, i, i, i⟩ := aY f
  refine C [.fa 145 0 0 ln] z <| G z (aT z z ty4 (bh bor (jO h 0 1))) <| C [.p, .p, .p] z <| G z (ym z z z bl4) <| P <| cI H z ?_ ?_ <;> intro H
  ·exact D <| A z <| nT <| Z H ▸ xw z
  ·refine ai <| R <| D <| C [.p, .p, .p] z <| P <| E <| D <| oPP z <| d H fun f f H => bu z z z z z eN bp z a f fun f f f h => ?_
   obtain ⟨i, i, i, i, i, i, i, i, rfl, i, i, i, i⟩ := aY f
   refine C [.fa 145 1 1 ip, .fa 141 0 0 kx] z <| G z (aT z z ty3 (bh bor (jO (jO h 1 2) 0 1))) <| oPP z <| P <| cI H z ?_ ?_ <;> intro H
   ·exact D <| A z <| nT <| Z H ▸ xw z
   ·refine ai <| R <| D <| C [.p, .p, .p] z <| P <| E <| D <| oPP z <| d H fun f f H => bu z z z z z eN bp z a f fun f f f h => ?_
    obtain ⟨i, i, i, i, i, i, i, i, rfl, i, i, i, i⟩ := aY f
    refine C [.fa 145 1 1 ip, .fa 141 1 1 mw] z <| G z (aT z z ty3 (bh bor (jO (jO h 1 2) 1 1))) <| oPP z <| P <| cI H z ?_ ?_ <;> intro H
    ·exact D <| A z <| nT <| Z H ▸ xw z
    ·refine ai <| R <| D <| C [.p, .p, .p] z <| nR <| oPP z <| d H fun f f H => bu z z z z z eN bp z a f fun f f f h => ?_
     obtain ⟨i, i, i, i, i, i, i, i, rfl, i, j, j, j⟩ := aY f
     refine C [.fa 145 2 3 fP] z <| G z (aT z z bP (bh bor (jO h 3 1))) <| A z <| bq H GV (fun _ j f h => kG f j (g i f h)) z tt2 fun i H => A z <| P <| E <| D <| oPP z <| P <| cI H z ?_ ?_ <;> intro H
     ·exact D <| A z <| nT <| Z H ▸ xw z
     ·refine ai <| R <| E <| D <| oPP z <| d H fun i i H => bu z z z z z eN bp z a i fun i i i j => ?_
      obtain ⟨l, l, l, l, l, l, l, l, rfl, l, l, l, l⟩ := aY i
      refine C [.fa 145 3 4 lx] z <| G z (aT z z ty3 (bh bor (jO j 4 1))) <| oPP z <| P <| cI H z ?_ ?_ <;> intro H
      ·exact D <| A z <| nT <| Z H ▸ xw z
      ·refine ai <| R <| D <| C [.p, .p, .p] z <| nR <| oPP z <| d H fun i i H => bu z z z z z eN bp z a i fun i i i j => ?_
       obtain ⟨l, l, l, l, l, l, l, l, rfl, l, l, m, m⟩ := aY i
       refine C [.fa 145 4 5 ea, .fa 143 0 0 iu] z <| G z (aT z z bP (bh bor (jO (jO j 5 2) 0 1))) <| A z <| bq H GV (fun _ i f h => kG f i (g l f h)) z tt2 fun i H => A z <| P <| E <| D <| oPP z <| P <| cI H z ?_ ?_ <;> intro H
       ·exact D <| A z <| nT <| Z H ▸ xw z
       ·refine ai <| R <| D <| oPP z <| d H fun i i H => bu z z z z z eN bp z a i fun i i i j => ?_
        obtain ⟨l, l, l, l, l, l, l, l, rfl, l, l, l, m⟩ := aY i
        refine C [.fa 145 4 5 ea, .fa 143 1 1 eW] z <| G z (aT z z fw (bh bor (jO (jO j 5 2) 1 1))) <| A z <| bq H NC (fun _ i f h => mx f i (g l f h)) z tt2 fun i H => A z <| P <| E <| D <| oPP z <| P <| cI H z ?_ ?_ <;> intro H
        ·exact D <| A z <| nT <| Z H ▸ xw z
        ·refine ai <| R <| E <| D <| oPP z <| d H fun i i H => bu z z z z z eN bp z a i fun i i i j => ?_
         obtain ⟨l, l, l, l, l, l, l, l, rfl, l, l, l, l⟩ := aY i
         refine C [.fa 145 5 7 kw] z <| G z (aT z z ty3 (bh bor (jO j 7 1))) <| oPP z <| P <| cI H z ?_ ?_ <;> intro H
         ·exact D <| A z <| nT <| Z H ▸ xw z
         ·refine ai <| R <| D <| C [.p, .p, .p] z <| nR <| oPP z <| d H fun i i H => bu z z z z z eN bp z a i fun i i i j => ?_
          obtain ⟨l, l, l, l, l, l, l, l, rfl, l, l, l, l⟩ := aY i
          refine C [.fa 145 6 8 mv] z <| G z (aT z z bP (bh bor (jO j 8 1))) <| A z <| bq H GV (fun _ i f h => kG f i (g l f h)) z tt2 fun i H => A z <| P <| E <| D <| oPP z <| P <| cI H z ?_ ?_ <;> intro H
          ·exact D <| A z <| nT <| Z H ▸ xw z
          ·refine ai <| R <| E <| D <| oPP z <| d H fun f f H => bu z z z z z eN bp z a f fun f f f h => ?_
           obtain ⟨j, j, j, j, j, j, j, j, rfl, j, j, j, j⟩ := aY f
           refine C [.fa 145 7 9 gC] z <| G z (aT z z ty3 (bh bor (jO h 9 1))) <| oPP z <| P <| cI H z ?_ ?_ <;> intro H
           ·exact D <| A z <| nT <| Z H ▸ xw z
           ·refine ai <| R <| D <| C [.p, .p, .p] z <| P <| E <| D <| oPP z <| d H fun f f H => bu z z z z z eN bp z a f fun f f f h => ?_
            obtain ⟨j, j, j, j, j, j, j, j, rfl, j, j, j, j⟩ := aY f
            refine C [.fa 145 8 10 iW] z <| G z (aT z z ty3 (bh bor (jO h 10 1))) <| oPP z <| P <| cI H z ?_ ?_ <;> intro H
            ·exact D <| A z <| nT <| Z H ▸ xw z
            ·refine ai <| R <| D <| C [.p, .p, .p] z <| P <| E <| D <| oPP z <| d H fun f f H => bu z z z z z eN bp z a f fun a a a f => ?_
             obtain ⟨h, h, h, h, h, h, h, h, rfl, h, h, h, h⟩ := aY a
             refine C [.fa 145 9 11 iY] z <| G z (aT z z ty3 (bh bor (jO f 11 1))) <| oPP z <| P <| cI H z ?_ ?_ <;> intro H
             ·exact D <| A z <| nT <| Z H ▸ xw z
             ·exact ai <| R <| aH <| C [.p, .p, .p] z <| ay <| bR <| R <| aH <| C [.p, .p, .p] z <| ay <| bU (RW.at (k (J.wrap ((J.wrap ((J.wrap (i + 1)) + 1)) + 1)) (J.wrap (e + 1)) (H)) (ss [] z z) (c z))
 ·exact aU <| aB <| aE <| aA <| R <| D <| oPP z <| nT <| Z H ▸ xw z
theorem wl (w) {p0 p1 f a i r} (H : kE p0 p1 = U r) (h : (V (aF) 75).rd w [] p0 [S f a i]) :
    Calls Tryz.prog 75 #[S f a i, I J p1] w (fun en w' => en = .returned (I J r) ∧ Ext [] w w') := by
 obtain rfl := dc h
 unfold kE at H
 refine ar Tryz.func75 z Tryz.ntmps75 z (St.init w []) <| D <| A z <| P <| E <| D <| A z <| P <| an <| CW.at (fc (fun (e : Int) (a : Int) => Q w [] []) (fun e a => [(0, S f p0.length i), (1, I J e), (5, I J a)]) (fun kk => fun e a => fC p0 kk e a = U r) nofun (fun f k e a H => ?_) aI (p1) (0) (H)) (ss [] z z) (c z)
 unfold fC at H
 refine E <| D <| C [.p, .p, .lenS 31 75 mU, .p] z <| P <| cI H z ?_ ?_ <;> intro H
 ·refine ai <| R <| E <| an <| D <| oPP z <| d H fun e e H => bu z z z z z mU fO z h e fun e e e f => ?_
  obtain ⟨i, i, i, i, i, i, i, i, rfl, i, j, j, j⟩ := cg e
  refine C [.fa 75 0 0 tl, .fa 69 0 0 dD] z <| G z (aT z z ks (bh bor (jO (jO f 0 2) 0 1))) <| A z <| bq H OE (fun _ j e f => sB e j (g i e f)) z tt2 fun i H => A z <| P <| E <| D <| oPP z <| P <| cI H z ?_ ?_ <;> intro H
  ·exact D <| A z <| nT <| Z H ▸ xw z
  ·refine ai <| R <| E <| D <| oPP z <| d H fun i i H => bu z z z z z mU fO z h i fun i i i j => ?_
   obtain ⟨l, l, l, l, l, l, l, l, rfl, l, l, l, l⟩ := cg i
   refine C [.fa 75 0 0 tl, .fa 69 1 1 nH] z <| G z (aT z z ty3 (bh bor (jO (jO j 0 2) 1 1))) <| oPP z <| P <| cI H z ?_ ?_ <;> intro H
   ·exact D <| A z <| nT <| Z H ▸ xw z
   ·refine ai <| R <| D <| C [.p, .p, .p] z <| P <| E <| D <| oPP z <| d H fun i i H => bu z z z z z mU fO z h i fun i i i j => ?_
    obtain ⟨l, l, l, l, l, l, l, l, rfl, l, l, l, l⟩ := cg i
    refine C [.fa 75 1 2 uc] z <| G z (aT z z ty4 (bh bor (jO j 2 1))) <| C [.p, .p, .p] z <| G z (ym z z z bl4) <| P <| cI H z ?_ ?_ <;> intro H
    ·exact D <| A z <| nT <| Z H ▸ xw z
    ·refine ai <| R <| D <| C [.p, .p, .p] z <| nR <| oPP z <| d H fun i i H => bu z z z z z mU fO z h i fun i i i j => ?_
     obtain ⟨l, l, l, l, l, l, l, l, rfl, l, l, m, m⟩ := cg i
     refine C [.fa 75 2 3 pG, .fa 69 0 0 dD] z <| G z (aT z z ks (bh bor (jO (jO j 3 2) 0 1))) <| A z <| bq H OE (fun _ i e f => sB e i (g l e f)) z tt2 fun i H => A z <| P <| E <| D <| oPP z <| P <| cI H z ?_ ?_ <;> intro H
     ·exact D <| A z <| nT <| Z H ▸ xw z
     ·refine ai <| R <| E <| D <| oPP z <| d H fun i i H => bu z z z z z mU fO z h i fun i i i j => ?_
      obtain ⟨l, l, l, l, l, l, l, l, rfl, l, l, l, l⟩ := cg i
      refine C [.fa 75 2 3 pG, .fa 69 1 1 nH] z <| G z (aT z z ty3 (bh bor (jO (jO j 3 2) 1 1))) <| oPP z <| P <| cI H z ?_ ?_ <;> intro H
      ·exact D <| A z <| nT <| Z H ▸ xw z
      ·refine ai <| R <| D <| C [.p, .p, .p] z <| nR <| oPP z <| d H fun i i H => bu z z z z z mU fO z h i fun i i i j => ?_
       obtain ⟨l, l, l, l, l, l, l, l, rfl, l, l, l, m⟩ := cg i
       refine C [.fa 75 3 5 pA, .fa 73 0 0 uj, .fa 71 0 0 kF] z <| G z (aT z z fw (bh bor (jO (jO (jO j 5 2) 0 1) 0 1))) <| A z <| bq H NC (fun _ i e f => mx e i (g l e f)) z tt2 fun i H => A z <| P <| E <| D <| oPP z <| P <| cI H z ?_ ?_ <;> intro H
       ·exact D <| A z <| nT <| Z H ▸ xw z
       ·refine ai <| R <| D <| oPP z <| d H fun i i H => bu z z z z z mU fO z h i fun h h h i => ?_
        obtain ⟨j, j, j, j, j, j, j, j, rfl, j, j, j, j⟩ := cg h
        refine C [.fa 75 3 5 pA, .fa 73 1 1 uk, .fa 71 0 0 kF] z <| G z (aT z z fw (bh bor (jO (jO (jO i 5 2) 1 1) 0 1))) <| A z <| bq H NC (fun _ h e f => mx e h (g j e f)) z tt2 fun e H => A z <| nR <| oPP z <| P <| cI H z ?_ ?_ <;> intro H
        ·exact D <| A z <| nT <| Z H ▸ xw z
        ·exact ai <| bR <| R <| aH <| C [.p, .p, .p] z <| ay <| bU (RW.at (k (e) (J.wrap (a + 1)) (H)) (ss [] z z) (c z))
 ·exact aU <| aB <| aE <| aA <| R <| D <| oPP z <| nT <| Z H ▸ xw z
theorem wU (w) {p0 p1 a r} (H : me p0 p1 = U r) (e : (fj).rd w [] p0 a) :
    Calls Tryz.prog 27 #[.agg a.toArray, I J p1] w (fun en w' => en = .returned (I J r) ∧ Ext [] w w') := by
 obtain ⟨a, a, rfl, a⟩ := jn e
 unfold me at H
 refine ar Tryz.func27 z Tryz.ntmps27 z (St.init w []) <| D <| ob _ z fun e => A z <| nR <| C [.fa 33 0 0 nK] z <| G z (r1 0 0 z wi z) <| A z <| bq H Sx (fun _ e f h => wl f e (g a f h)) z tt2 fun a H => A z <| P <| E <| D <| oPP z <| P <| cI H z ?_ ?_ <;> intro H
 ·exact D <| A z <| nT <| Z H ▸ xw z
 ·exact ai <| R <| D <| oPP z <| nT <| Z H ▸ xw z
theorem xY (w) {p0 p1 i a k r} (H : na p0 p1 = U r) (l : (V (aK) 83).rd w [] p0 [S i a k]) :
    Calls Tryz.prog 77 #[S i a k, I J p1] w (fun en w' => en = .returned (I J r) ∧ Ext [] w w') := by
 obtain rfl := dc l
 unfold na at H
 refine ar Tryz.func77 z Tryz.ntmps77 z (St.init w []) <| D <| A z <| P <| E <| D <| A z <| P <| an <| CW.at (fc (fun (f : Int) (a : Int) => Q w [] []) (fun f a => [(0, S i p0.length k), (1, I J f), (5, I J a)]) (fun kk => fun f a => gr p0 kk f a = U r) nofun (fun i k f a H => ?_) aI (p1) (0) (H)) (ss [] z z) (c z)
 unfold gr at H
 refine E <| D <| C [.p, .p, .lenS 35 83 nO, .p] z <| P <| cI H z ?_ ?_ <;> intro H
 ·refine ai <| R <| E <| an <| E <| D <| oPP z <| d H fun i i H => fb (e := aK) (xs := p0) (j := a) z z z z z nO nG z (g l) i z <| C [.fa 83 0 0 tf] z <| G z (aT z z ty3 (Ai (lJ (nk (g l) i (fun _ _ h => h)) z) 0 1)) <| oPP z <| P <| cI H z ?_ ?_ <;> intro H
  ·exact D <| A z <| nT <| Z H ▸ xw z
  ·refine ai <| R <| D <| C [.p, .p, .p] z <| P <| E <| D <| oPP z <| d H fun i i H => fb (e := aK) (xs := p0) (j := a) z z z z z nO nG z (g l) i z <| C [.fa 83 1 1 rN] z <| G z (aT z z ty3 (Ai (lJ (nk (g l) i (fun _ _ h => h)) z) 1 1)) <| oPP z <| P <| cI H z ?_ ?_ <;> intro H
   ·exact D <| A z <| nT <| Z H ▸ xw z
   ·exact ai <| R <| aH <| C [.p, .p, .p] z <| ay <| bR <| R <| aH <| C [.p, .p, .p] z <| ay <| bU (RW.at (k (J.wrap ((J.wrap (f + 1)) + 1)) (J.wrap (a + 1)) (H)) (ss [] z z) (c z))
 ·exact aU <| aB <| aE <| aA <| R <| D <| oPP z <| nT <| Z H ▸ xw z
theorem xL (w) {p0 p1 a r} (H : mN p0 p1 = U r) (e : (fN).rd w [] p0 a) :
    Calls Tryz.prog 28 #[.agg a.toArray, I J p1] w (fun en w' => en = .returned (I J r) ∧ Ext [] w w') := by
 obtain ⟨a, a, a, a, rfl, f, h⟩ := jT e
 unfold mN at H
 refine ar Tryz.func28 z Tryz.ntmps28 z (St.init w []) <| D <| ob _ z fun a => A z <| nR <| C [.fa 37 0 0 kQ] z <| G z (r1 0 0 z fw z) <| A z <| bq H NC (fun _ i a e => mx a i (g f a e)) z tt2 fun f H => A z <| P <| E <| D <| oPP z <| P <| cI H z ?_ ?_ <;> intro H
 ·exact D <| A z <| nT <| Z H ▸ xw z
 ·refine ai <| R <| D <| C [.fa 37 1 1 kq] z <| G z (r1 1 0 z tt z) <| A z <| bq H SN (fun _ f a e => xY a f (g h a e)) z tt2 fun a H => A z <| P <| E <| D <| oPP z <| P <| cI H z ?_ ?_ <;> intro H
  ·exact D <| A z <| nT <| Z H ▸ xw z
  ·exact ai <| R <| D <| oPP z <| nT <| Z H ▸ xw z
theorem sZ (w) {p0 p1 a r} (H : jF p0 p1 = U r) (e : (iv).rd w [] p0 a) :
    Calls Tryz.prog 11 #[.agg a.toArray, I J p1] w (fun en w' => en = .returned (I J r) ∧ Ext [] w w') := by
 obtain ⟨a, a, a, a, a, a, a, a, a, a, rfl, f, h, i, j, k⟩ := iM e
 unfold jF at H
 refine ar Tryz.func11 z Tryz.ntmps11 z (St.init w []) <| D <| ob _ z fun a => A z <| nR <| C [.fa 39 0 0 gW] z <| G z (rx 0 0 _ z uM z) <| A z <| bq H Sp (fun _ l e a => yN e l (bx (aw (g f e a) (g h e a)) z z z z z z)) z tt2 fun f H => A z <| P <| E <| D <| oPP z <| P <| cI H z ?_ ?_ <;> intro H
 ·exact D <| A z <| nT <| Z H ▸ xw z
 ·refine ai <| R <| D <| C [.fa 39 1 14 qi] z <| G z (rx 14 0 _ z JZ z) <| A z <| bq H Sq (fun _ f e a => wU e f (ch (g i e a))) z tt2 fun f H => A z <| P <| E <| D <| oPP z <| P <| cI H z ?_ ?_ <;> intro H
  ·exact D <| A z <| nT <| Z H ▸ xw z
  ·refine ai <| R <| D <| C [.fa 39 2 15 jD] z <| G z (rx 15 0 _ z Jz z) <| A z <| bq H Tk (fun _ f e a => xL e f (ct (g j e a) (g k e a))) z tt2 fun a H => A z <| P <| E <| D <| oPP z <| P <| cI H z ?_ ?_ <;> intro H
   ·exact D <| A z <| nT <| Z H ▸ xw z
   ·exact ai <| R <| D <| oPP z <| nT <| Z H ▸ xw z
theorem uu (w) {p0 l a t r} (H : ky p0 = U r) (g0 : (V e8 5).rd w [] p0 [S l a t]) (gT : (eGl Tryz.prog).rd w [] () []) :
    Calls Tryz.prog 3 #[S l a t] w (fun en w' => en = .returned (B r) ∧ Ext [] w w') := by
 obtain rfl := dc g0
 unfold ky at H
 refine ar Tryz.func3 z Tryz.ntmps3 z (St.init w []) <| D <| A z <| P <| E <| D <| C [.p, .lenS 22 5 cC, .p] z <| P <| cI H z ?_ ?_ <;> intro H
 ·exact D <| A z <| nT <| Z H ▸ xw z
 ·refine ai <| R <| D <| A z <| d H fun a a H => aq z fn5 z z z z (fun k h => ox k a (h.carve [] z z) (g g0 k h)) fun a k w2 h f => ?_
  obtain ⟨a, a, a, a, rfl, a⟩ := f
  obtain rfl := aL (i := 0) a z
  refine ⟨Q w [] [_], h.comp [] z z a, fun _ _ => Y, ?_⟩
  refine d H fun f a H => aq z fn4 z z z z (fun k h => AF k a (h.carve [] z z) (av (e := V e8 5) (r := 0) z k h)) fun a k w2 h j => ?_
  obtain ⟨u, a, v, a, F, a, L, a, a3, a, a4, a, a5, a, a6, a, a7, a, a8, a, rfl, a⟩ := j
  obtain rfl := aL (i := 0) a z
  obtain rfl := aL (i := 1) a z
  obtain rfl := aL (i := 2) a z
  obtain rfl := aL (i := 3) a z
  obtain rfl := aL (i := 4) a z
  refine ⟨Q w [] [_, _, _, _, _, _], h.comp [] z z a, fun _ _ => Y, ?_⟩
  refine C [.p, .p, .p] z <| bn z z z z cA (fun _ => kp) fun b2 => sC 0 [S u f.1.a_.g_.d_.length v, S F f.1.a_.g_.f_.length L, I J f.1.a_.b_.L_, I J f.1.a_.b_.N_, I J f.1.a_.b_.M_, I J f.1.a_.b_.h_, I J f.1.a_.b_.e_, I J f.1.a_.b_.E_, B f.1.a_.b_.Q_, I J f.1.a_.j_, I J f.1.a_.O_, I J f.1.a_.P_, I J f.1.a_.r_, I J f.1.a_.s_, S a3 f.1.z_.j_.length a4, S a5 f.1.m_.o_.length a6, S a7 f.1.m_.n_.length a8] [_, _, _, _, _, _, _, _, _, _, _, _, _, _, _, _, _] 6 z cA z <| A z <| nR <| A z <| d H fun b3 a H => aq z fn5 z z z z (fun k h => ox k a (h.carve [] z z) (g g0 k h)) fun a k w2 h j => ?_
  obtain ⟨b4, a, b5, a, rfl, a⟩ := j
  obtain rfl := aL (i := 0) a z
  refine ⟨Q w [] [_, _, _, _, _, _, _, _], h.comp [] z z a, fun _ _ => Y, ?_⟩
  refine A z <| nR <| A z <| d H fun a j H => aq z fn6 z z z z (fun k h => uB k j (h.carve [] z z) (av (e := V e8 5) (r := 7) z k h) (g gT k h)) fun j k w2 h a9 => ?_
  obtain ⟨m, j, o, j, q, j, s, j, M, j, T, j, X, j, a0, j, a1, j, a2, j, rfl, j⟩ := a9
  obtain rfl := aL (i := 0) j z
  obtain rfl := aL (i := 1) j z
  obtain rfl := aL (i := 2) j z
  obtain rfl := aL (i := 3) j z
  obtain rfl := aL (i := 4) j z
  refine ⟨Q w [] [_, _, _, _, _, _, _, _, _, _, _, _, _], h.comp [] z z j, fun _ _ => Y, ?_⟩
  refine C [.p, .p, .p] z <| bn z z z z cA (fun _ => kp) fun c7 => sC 0 [S m a.1.a_.g_.d_.length o, S q a.1.a_.g_.f_.length s, I J a.1.a_.b_.L_, I J a.1.a_.b_.N_, I J a.1.a_.b_.M_, I J a.1.a_.b_.h_, I J a.1.a_.b_.e_, I J a.1.a_.b_.E_, B a.1.a_.b_.Q_, I J a.1.a_.j_, I J a.1.a_.O_, I J a.1.a_.P_, I J a.1.a_.r_, I J a.1.a_.s_, S M a.1.z_.j_.length T, S X a.1.m_.o_.length a0, S a1 a.1.m_.n_.length a2] [_, _, _, _, _, _, _, _, _, _, _, _, _, _, _, _, _] 13 z cA z <| A z <| P <| E <| D <| G z (rx 0 13 _ z cA z) <| G z (rx 0 6 _ z cA z) <| bq H fn7 (fun _ j k h => qU k j (dt (x := a.1) (c0 := [S m a.1.a_.g_.d_.length o, S q a.1.a_.g_.f_.length s, I J a.1.a_.b_.L_, I J a.1.a_.b_.N_, I J a.1.a_.b_.M_, I J a.1.a_.b_.h_, I J a.1.a_.b_.e_, I J a.1.a_.b_.E_, B a.1.a_.b_.Q_, I J a.1.a_.j_, I J a.1.a_.O_, I J a.1.a_.P_, I J a.1.a_.r_, I J a.1.a_.s_]) (c1 := [S M a.1.z_.j_.length T]) (c2 := [S X a.1.m_.o_.length a0, S a1 a.1.m_.n_.length a2]) (bx (x := a.1.a_) (c0 := [S m a.1.a_.g_.d_.length o, S q a.1.a_.g_.f_.length s]) (c1 := [I J a.1.a_.b_.L_, I J a.1.a_.b_.N_, I J a.1.a_.b_.M_, I J a.1.a_.b_.h_, I J a.1.a_.b_.e_, I J a.1.a_.b_.E_, B a.1.a_.b_.Q_]) (c2 := [I J a.1.a_.j_]) (c3 := [I J a.1.a_.O_]) (c4 := [I J a.1.a_.P_]) (c5 := [I J a.1.a_.r_]) (c6 := [I J a.1.a_.s_]) (aw (x := a.1.a_.g_) (c0 := [S m a.1.a_.g_.d_.length o]) (c1 := [S q a.1.a_.g_.f_.length s]) (av (e := V (aD) 123) (r := 8) z k h) (av (e := V (bC) 9) (r := 9) z k h)) z z z z z z) (ch (x := a.1.z_) (c0 := [S M a.1.z_.j_.length T]) (av (e := V (aF) 75) (r := 10) z k h)) (ct (x := a.1.m_) (c0 := [S X a.1.m_.o_.length a0]) (c1 := [S a1 a.1.m_.n_.length a2]) (av (e := V (V eI 3) 63) (r := 11) z k h) (av (e := V (aK) 83) (r := 12) z k h))) (dt (x := f.1) (c0 := [S u f.1.a_.g_.d_.length v, S F f.1.a_.g_.f_.length L, I J f.1.a_.b_.L_, I J f.1.a_.b_.N_, I J f.1.a_.b_.M_, I J f.1.a_.b_.h_, I J f.1.a_.b_.e_, I J f.1.a_.b_.E_, B f.1.a_.b_.Q_, I J f.1.a_.j_, I J f.1.a_.O_, I J f.1.a_.P_, I J f.1.a_.r_, I J f.1.a_.s_]) (c1 := [S a3 f.1.z_.j_.length a4]) (c2 := [S a5 f.1.m_.o_.length a6, S a7 f.1.m_.n_.length a8]) (bx (x := f.1.a_) (c0 := [S u f.1.a_.g_.d_.length v, S F f.1.a_.g_.f_.length L]) (c1 := [I J f.1.a_.b_.L_, I J f.1.a_.b_.N_, I J f.1.a_.b_.M_, I J f.1.a_.b_.h_, I J f.1.a_.b_.e_, I J f.1.a_.b_.E_, B f.1.a_.b_.Q_]) (c2 := [I J f.1.a_.j_]) (c3 := [I J f.1.a_.O_]) (c4 := [I J f.1.a_.P_]) (c5 := [I J f.1.a_.r_]) (c6 := [I J f.1.a_.s_]) (aw (x := f.1.a_.g_) (c0 := [S u f.1.a_.g_.d_.length v]) (c1 := [S F f.1.a_.g_.f_.length L]) (av (e := V (aD) 123) (r := 1) z k h) (av (e := V (bC) 9) (r := 2) z k h)) z z z z z z) (ch (x := f.1.z_) (c0 := [S a3 f.1.z_.j_.length a4]) (av (e := V (aF) 75) (r := 3) z k h)) (ct (x := f.1.m_) (c0 := [S a5 f.1.m_.o_.length a6]) (c1 := [S a7 f.1.m_.n_.length a8]) (av (e := V (V eI 3) 63) (r := 4) z k h) (av (e := V (aK) 83) (r := 5) z k h)))) z tt2 fun c8 H => oPP z <| cu2 [(0, S l p0.length t), (3, O (U ⟨b2, 0, N⟩)), (4, I J f.2), (5, S b4 b3.length b5), (6, O (U ⟨c7, 0, N⟩)), (7, I J a.2)] [(33, B (!c8))] 4 (37, B ((!c8) || (a.2 != f.2))) z ?_ fun key => ?_
  ·refine P <| cI H z ?_ ?_ <;> intro H
   ·exact D <| A z <| nT <| Z H ▸ xw z
   ·refine ai <| R <| E <| D <| oPP z <| d H fun j j H => aq z fn5 z z z z (fun k h => ox k j (h.carve [] z z) (g g0 k h)) fun j k w2 h a9 => ?_
    obtain ⟨j, j, j, j, rfl, j⟩ := a9
    obtain rfl := aL (i := 0) j z
    refine ⟨Q w [] [_, _, _, _, _, _, _, _, _, _, _, _, _, _, _], h.comp [] z z j, fun _ _ => Y, ?_⟩
    refine bq H fn8 (fun _ j k h => AO k j (av (e := V e8 5) (r := 7) z k h) (av (e := V e8 5) (r := 14) z k h)) z tt2 fun j H => A z <| P <| cI H z ?_ ?_ <;> intro H
    ·exact D <| A z <| nT <| Z H ▸ xw z
    ·refine ai <| R <| D <| A z <| nR <| oPP z <| d H fun d1 j H => aq z fn9 z z z z (fun k h => xG k j (h.carve [7] z z)) fun j k w2 h j => ?_
     obtain ⟨a9, rfl, a9⟩ := j
     refine ⟨Q w [] [_, _, _, _, _, _, _, _, _, _, _, _, _, _, _, _], h.comp [7] z z a9, fun _ _ => Y, ?_⟩
     refine A z <| P <| E <| D <| C [.p, .p, .p] z <| d H fun a9 c9 H => cu2 [(0, S l p0.length t), (3, O (U ⟨b2, 0, N⟩)), (4, I J f.2), (6, O (U ⟨c7, 0, N⟩)), (7, I J a.2)] [(48, B (decide (d1.1 < 0)))] 5 (53, B a9) z ?_ fun key => ?_
     ·refine A z <| cu2 [(0, S l p0.length t), (3, O (U ⟨b2, 0, N⟩)), (4, I J f.2), (6, O (U ⟨c7, 0, N⟩))] [(7, I J a.2), (54, B a9)] 4 (58, B (a9 || (a.2 != f.2))) z ?_ fun key => ?_
      ·refine P <| cI H z ?_ ?_ <;> intro H
       ·exact D <| A z <| nT <| Z H ▸ xw z
       ·refine ai <| R <| D <| A z <| nR <| G z (rx 0 13 _ z cA z) <| A z <| d H fun l j H => aq z ST z z z z (fun k h => xV k j (h.carve [8, 9, 10, 11, 12] z z)) fun j k w2 h j => ?_
        obtain ⟨t, t, t, t, t, rfl, t⟩ := j
        refine ⟨Q w [] [_, _, _, _, _, _, _, _, _, _, _, _, _, _, _, _, _, _, _, _, _], h.comp [8, 9, 10, 11, 12] z z t, fun _ _ => Y, ?_⟩
        refine A z <| P <| E <| CW.weak (C' := Q w [] [_, _, _, _, _, _, _, _, _, _, _, _, _, _, _]) ?_ (ss [0, 1, 2, 3, 4, 5, 6, 13, 14, 15, 16, 17, 18, 19, 20] z z)
        refine aH <| A z <| nR <| G z (rx 0 7 _ z cA z) <| A z <| bq H QU (fun _ j k h => sZ k j (dt (x := ({ l.2 with a_ := ({ a.1.a_ with g_ := l.2.a_.g_ }) })) (c0 := [S m a.1.a_.g_.d_.length o, S q a.1.a_.g_.f_.length s, I J a.1.a_.b_.L_, I J a.1.a_.b_.N_, I J a.1.a_.b_.M_, I J a.1.a_.b_.h_, I J a.1.a_.b_.e_, I J a.1.a_.b_.E_, B a.1.a_.b_.Q_, I J a.1.a_.j_, I J a.1.a_.O_, I J a.1.a_.P_, I J a.1.a_.r_, I J a.1.a_.s_]) (c1 := [S M a.1.z_.j_.length T]) (c2 := [S X a.1.m_.o_.length a0, S a1 a.1.m_.n_.length a2]) (bx (x := ({ a.1.a_ with g_ := l.2.a_.g_ })) (c0 := [S m a.1.a_.g_.d_.length o, S q a.1.a_.g_.f_.length s]) (c1 := [I J a.1.a_.b_.L_, I J a.1.a_.b_.N_, I J a.1.a_.b_.M_, I J a.1.a_.b_.h_, I J a.1.a_.b_.e_, I J a.1.a_.b_.E_, B a.1.a_.b_.Q_]) (c2 := [I J a.1.a_.j_]) (c3 := [I J a.1.a_.O_]) (c4 := [I J a.1.a_.P_]) (c5 := [I J a.1.a_.r_]) (c6 := [I J a.1.a_.s_]) (aw (x := l.2.a_.g_) (c0 := [S m a.1.a_.g_.d_.length o]) (c1 := [S q a.1.a_.g_.f_.length s]) (av (e := V (aD) 123) (r := 10) z k h) (av (e := V (bC) 9) (r := 11) z k h)) z z z z z z) (ch (x := l.2.z_) (c0 := [S M a.1.z_.j_.length T]) (av (e := V (aF) 75) (r := 12) z k h)) (ct (x := l.2.m_) (c0 := [S X a.1.m_.o_.length a0]) (c1 := [S a1 a.1.m_.n_.length a2]) (av (e := V (V eI 3) 63) (r := 13) z k h) (av (e := V (aK) 83) (r := 14) z k h)))) z tt2 fun j H => A z <| P <| E <| D <| oPP z <| P <| cI H z ?_ ?_ <;> intro H
        ·exact D <| A z <| nT <| Z H ▸ xw z
        ·refine ai <| R <| E <| D <| C [.p, .p, .p] z <| P <| cI H z ?_ ?_ <;> intro H
         ·exact D <| A z <| nT <| Z H ▸ xw z
         ·refine ai <| R <| D <| A z <| d H fun j j H => aq z fn5 z z z z (fun k h => ox k j (h.carve [] z z) (g g0 k h)) fun j k w2 h t => ?_
          obtain ⟨j, j, j, j, rfl, j⟩ := t
          obtain rfl := aL (i := 0) j z
          refine ⟨Q w [] [_, _, _, _, _, _, _, _, _, _, _, _, _, _, _, _], h.comp [] z z j, fun _ _ => Y, ?_⟩
          refine d H fun j t H => aq z fn6 z z z z (fun k h => uB k t (h.carve [] z z) (av (e := V e8 5) (r := 15) z k h) (g gT k h)) fun t k w2 h d0 => ?_
          obtain ⟨b0, t, b1, t, b2, t, b3, t, b4, t, b5, t, b6, t, b7, t, b8, t, b9, t, rfl, t⟩ := d0
          obtain rfl := aL (i := 0) t z
          obtain rfl := aL (i := 1) t z
          obtain rfl := aL (i := 2) t z
          obtain rfl := aL (i := 3) t z
          obtain rfl := aL (i := 4) t z
          refine ⟨Q w [] [_, _, _, _, _, _, _, _, _, _, _, _, _, _, _, _, _, _, _, _, _], h.comp [] z z t, fun _ _ => Y, ?_⟩
          refine C [.p, .p, .p] z <| bn z z z z cA (fun _ => kp) fun t => sC 0 [S b0 j.1.a_.g_.d_.length b1, S b2 j.1.a_.g_.f_.length b3, I J j.1.a_.b_.L_, I J j.1.a_.b_.N_, I J j.1.a_.b_.M_, I J j.1.a_.b_.h_, I J j.1.a_.b_.e_, I J j.1.a_.b_.E_, B j.1.a_.b_.Q_, I J j.1.a_.j_, I J j.1.a_.O_, I J j.1.a_.P_, I J j.1.a_.r_, I J j.1.a_.s_, S b4 j.1.z_.j_.length b5, S b6 j.1.m_.o_.length b7, S b8 j.1.m_.n_.length b9] [_, _, _, _, _, _, _, _, _, _, _, _, _, _, _, _, _] 21 z cA z <| A z <| P <| E <| D <| G z (rx 0 21 _ z cA z) <| G z (rx 0 6 _ z cA z) <| bq H fn7 (fun _ t k h => qU k t (dt (x := j.1) (c0 := [S b0 j.1.a_.g_.d_.length b1, S b2 j.1.a_.g_.f_.length b3, I J j.1.a_.b_.L_, I J j.1.a_.b_.N_, I J j.1.a_.b_.M_, I J j.1.a_.b_.h_, I J j.1.a_.b_.e_, I J j.1.a_.b_.E_, B j.1.a_.b_.Q_, I J j.1.a_.j_, I J j.1.a_.O_, I J j.1.a_.P_, I J j.1.a_.r_, I J j.1.a_.s_]) (c1 := [S b4 j.1.z_.j_.length b5]) (c2 := [S b6 j.1.m_.o_.length b7, S b8 j.1.m_.n_.length b9]) (bx (x := j.1.a_) (c0 := [S b0 j.1.a_.g_.d_.length b1, S b2 j.1.a_.g_.f_.length b3]) (c1 := [I J j.1.a_.b_.L_, I J j.1.a_.b_.N_, I J j.1.a_.b_.M_, I J j.1.a_.b_.h_, I J j.1.a_.b_.e_, I J j.1.a_.b_.E_, B j.1.a_.b_.Q_]) (c2 := [I J j.1.a_.j_]) (c3 := [I J j.1.a_.O_]) (c4 := [I J j.1.a_.P_]) (c5 := [I J j.1.a_.r_]) (c6 := [I J j.1.a_.s_]) (aw (x := j.1.a_.g_) (c0 := [S b0 j.1.a_.g_.d_.length b1]) (c1 := [S b2 j.1.a_.g_.f_.length b3]) (av (e := V (aD) 123) (r := 16) z k h) (av (e := V (bC) 9) (r := 17) z k h)) z z z z z z) (ch (x := j.1.z_) (c0 := [S b4 j.1.z_.j_.length b5]) (av (e := V (aF) 75) (r := 18) z k h)) (ct (x := j.1.m_) (c0 := [S b6 j.1.m_.o_.length b7]) (c1 := [S b8 j.1.m_.n_.length b9]) (av (e := V (V eI 3) 63) (r := 19) z k h) (av (e := V (aK) 83) (r := 20) z k h))) (dt (x := f.1) (c0 := [S u f.1.a_.g_.d_.length v, S F f.1.a_.g_.f_.length L, I J f.1.a_.b_.L_, I J f.1.a_.b_.N_, I J f.1.a_.b_.M_, I J f.1.a_.b_.h_, I J f.1.a_.b_.e_, I J f.1.a_.b_.E_, B f.1.a_.b_.Q_, I J f.1.a_.j_, I J f.1.a_.O_, I J f.1.a_.P_, I J f.1.a_.r_, I J f.1.a_.s_]) (c1 := [S a3 f.1.z_.j_.length a4]) (c2 := [S a5 f.1.m_.o_.length a6, S a7 f.1.m_.n_.length a8]) (bx (x := f.1.a_) (c0 := [S u f.1.a_.g_.d_.length v, S F f.1.a_.g_.f_.length L]) (c1 := [I J f.1.a_.b_.L_, I J f.1.a_.b_.N_, I J f.1.a_.b_.M_, I J f.1.a_.b_.h_, I J f.1.a_.b_.e_, I J f.1.a_.b_.E_, B f.1.a_.b_.Q_]) (c2 := [I J f.1.a_.j_]) (c3 := [I J f.1.a_.O_]) (c4 := [I J f.1.a_.P_]) (c5 := [I J f.1.a_.r_]) (c6 := [I J f.1.a_.s_]) (aw (x := f.1.a_.g_) (c0 := [S u f.1.a_.g_.d_.length v]) (c1 := [S F f.1.a_.g_.f_.length L]) (av (e := V (aD) 123) (r := 1) z k h) (av (e := V (bC) 9) (r := 2) z k h)) z z z z z z) (ch (x := f.1.z_) (c0 := [S a3 f.1.z_.j_.length a4]) (av (e := V (aF) 75) (r := 3) z k h)) (ct (x := f.1.m_) (c0 := [S a5 f.1.m_.o_.length a6]) (c1 := [S a7 f.1.m_.n_.length a8]) (av (e := V (V eI 3) 63) (r := 4) z k h) (av (e := V (aK) 83) (r := 5) z k h)))) z tt2 fun t H => oPP z <| cu2 [(6, O (U ⟨c7, 0, N⟩)), (9, I J l.1)] [(4, I J f.2), (12, I J j.2), (80, B (!t))] 4 (84, B ((!t) || (j.2 != f.2))) z ?_ fun key => ?_
          ·refine P <| cI H z ?_ ?_ <;> intro H
           ·exact D <| A z <| nT <| Z H ▸ xw z
           ·refine ai <| R <| D <| A z <| nR <| G z (rx 0 7 _ z cA z) <| A z <| bq H QU (fun _ j k h => sZ k j (dt (x := ({ l.2 with a_ := ({ a.1.a_ with g_ := l.2.a_.g_ }) })) (c0 := [S m a.1.a_.g_.d_.length o, S q a.1.a_.g_.f_.length s, I J a.1.a_.b_.L_, I J a.1.a_.b_.N_, I J a.1.a_.b_.M_, I J a.1.a_.b_.h_, I J a.1.a_.b_.e_, I J a.1.a_.b_.E_, B a.1.a_.b_.Q_, I J a.1.a_.j_, I J a.1.a_.O_, I J a.1.a_.P_, I J a.1.a_.r_, I J a.1.a_.s_]) (c1 := [S M a.1.z_.j_.length T]) (c2 := [S X a.1.m_.o_.length a0, S a1 a.1.m_.n_.length a2]) (bx (x := ({ a.1.a_ with g_ := l.2.a_.g_ })) (c0 := [S m a.1.a_.g_.d_.length o, S q a.1.a_.g_.f_.length s]) (c1 := [I J a.1.a_.b_.L_, I J a.1.a_.b_.N_, I J a.1.a_.b_.M_, I J a.1.a_.b_.h_, I J a.1.a_.b_.e_, I J a.1.a_.b_.E_, B a.1.a_.b_.Q_]) (c2 := [I J a.1.a_.j_]) (c3 := [I J a.1.a_.O_]) (c4 := [I J a.1.a_.P_]) (c5 := [I J a.1.a_.r_]) (c6 := [I J a.1.a_.s_]) (aw (x := l.2.a_.g_) (c0 := [S m a.1.a_.g_.d_.length o]) (c1 := [S q a.1.a_.g_.f_.length s]) (av (e := V (aD) 123) (r := 10) z k h) (av (e := V (bC) 9) (r := 11) z k h)) z z z z z z) (ch (x := l.2.z_) (c0 := [S M a.1.z_.j_.length T]) (av (e := V (aF) 75) (r := 12) z k h)) (ct (x := l.2.m_) (c0 := [S X a.1.m_.o_.length a0]) (c1 := [S a1 a.1.m_.n_.length a2]) (av (e := V (V eI 3) 63) (r := 13) z k h) (av (e := V (aK) 83) (r := 14) z k h)))) z tt2 fun j H => A z <| P <| E <| D <| oPP z <| P <| cI H z ?_ ?_ <;> intro H
            ·exact D <| A z <| nT <| Z H ▸ xw z
            ·refine ai <| R <| E <| D <| C [.p, .p, .p] z <| P <| cI H z ?_ ?_ <;> intro H
             ·exact D <| A z <| nT <| Z H ▸ xw z
             ·exact ai <| R <| D <| A z <| nT <| Z H ▸ xw z
          ·generalize (!t) = j at key ⊢
           cases j
           ·exact C [.p, .p, .p] z <| A z <| OW.sub key (c z)
           ·exact C [.p, .p, .p, .p] z <| OW.sub key (c z)
      ·generalize a9 = j at key ⊢
       cases j
       ·exact C [.p, .p, .p] z <| A z <| OW.sub key (c z)
       ·exact C [.p, .p, .p, .p] z <| OW.sub key (c z)
     ·have H := c9
      generalize (decide (d1.1 < 0)) = j at H key ⊢
      cases j
      ·have H := aN z H
       refine G z (rx 0 13 _ z cA z) <| G z (rx 0 6 _ z cA z) <| bq H fn7 (fun _ j k h => qU k j (dt (x := a.1) (c0 := [S m a.1.a_.g_.d_.length o, S q a.1.a_.g_.f_.length s, I J a.1.a_.b_.L_, I J a.1.a_.b_.N_, I J a.1.a_.b_.M_, I J a.1.a_.b_.h_, I J a.1.a_.b_.e_, I J a.1.a_.b_.E_, B a.1.a_.b_.Q_, I J a.1.a_.j_, I J a.1.a_.O_, I J a.1.a_.P_, I J a.1.a_.r_, I J a.1.a_.s_]) (c1 := [S M a.1.z_.j_.length T]) (c2 := [S X a.1.m_.o_.length a0, S a1 a.1.m_.n_.length a2]) (bx (x := a.1.a_) (c0 := [S m a.1.a_.g_.d_.length o, S q a.1.a_.g_.f_.length s]) (c1 := [I J a.1.a_.b_.L_, I J a.1.a_.b_.N_, I J a.1.a_.b_.M_, I J a.1.a_.b_.h_, I J a.1.a_.b_.e_, I J a.1.a_.b_.E_, B a.1.a_.b_.Q_]) (c2 := [I J a.1.a_.j_]) (c3 := [I J a.1.a_.O_]) (c4 := [I J a.1.a_.P_]) (c5 := [I J a.1.a_.r_]) (c6 := [I J a.1.a_.s_]) (aw (x := a.1.a_.g_) (c0 := [S m a.1.a_.g_.d_.length o]) (c1 := [S q a.1.a_.g_.f_.length s]) (av (e := V (aD) 123) (r := 8) z k h) (av (e := V (bC) 9) (r := 9) z k h)) z z z z z z) (ch (x := a.1.z_) (c0 := [S M a.1.z_.j_.length T]) (av (e := V (aF) 75) (r := 10) z k h)) (ct (x := a.1.m_) (c0 := [S X a.1.m_.o_.length a0]) (c1 := [S a1 a.1.m_.n_.length a2]) (av (e := V (V eI 3) 63) (r := 11) z k h) (av (e := V (aK) 83) (r := 12) z k h))) (dt (x := f.1) (c0 := [S u f.1.a_.g_.d_.length v, S F f.1.a_.g_.f_.length L, I J f.1.a_.b_.L_, I J f.1.a_.b_.N_, I J f.1.a_.b_.M_, I J f.1.a_.b_.h_, I J f.1.a_.b_.e_, I J f.1.a_.b_.E_, B f.1.a_.b_.Q_, I J f.1.a_.j_, I J f.1.a_.O_, I J f.1.a_.P_, I J f.1.a_.r_, I J f.1.a_.s_]) (c1 := [S a3 f.1.z_.j_.length a4]) (c2 := [S a5 f.1.m_.o_.length a6, S a7 f.1.m_.n_.length a8]) (bx (x := f.1.a_) (c0 := [S u f.1.a_.g_.d_.length v, S F f.1.a_.g_.f_.length L]) (c1 := [I J f.1.a_.b_.L_, I J f.1.a_.b_.N_, I J f.1.a_.b_.M_, I J f.1.a_.b_.h_, I J f.1.a_.b_.e_, I J f.1.a_.b_.E_, B f.1.a_.b_.Q_]) (c2 := [I J f.1.a_.j_]) (c3 := [I J f.1.a_.O_]) (c4 := [I J f.1.a_.P_]) (c5 := [I J f.1.a_.r_]) (c6 := [I J f.1.a_.s_]) (aw (x := f.1.a_.g_) (c0 := [S u f.1.a_.g_.d_.length v]) (c1 := [S F f.1.a_.g_.f_.length L]) (av (e := V (aD) 123) (r := 1) z k h) (av (e := V (bC) 9) (r := 2) z k h)) z z z z z z) (ch (x := f.1.z_) (c0 := [S a3 f.1.z_.j_.length a4]) (av (e := V (aF) 75) (r := 3) z k h)) (ct (x := f.1.m_) (c0 := [S a5 f.1.m_.o_.length a6]) (c1 := [S a7 f.1.m_.n_.length a8]) (av (e := V (V eI 3) 63) (r := 4) z k h) (av (e := V (aK) 83) (r := 5) z k h)))) z tt2 fun a H => A z <| A z <| ?_
       obtain rfl := Z H
       exact OW.sub key (c z)
      ·have H := aO z H
       refine C [.p, .p, .p, .p, .p] z ?_
       obtain rfl := Z H
       exact OW.sub key (c z)
  ·generalize (!c8) = a at key ⊢
   cases a
   ·exact C [.p, .p, .p] z <| A z <| OW.sub key (c z)
   ·exact C [.p, .p, .p, .p] z <| OW.sub key (c z)
end Go.Vk
