/- The code does what the functions of data say. Printed by program. -/
import Derived.Test.YtckmlpmehdpmiaaGreatDoorWSoD
namespace Go.Vk
open Go.Vk renaming oP → A, aa → C, sR → D, o1 → G, nQ → P, St → Q, ae → V, ab → Z, ah → E, am → R, sb → c, bE → d, af → g
open Value renaming int → I, slice → S, pointer → O, bool → B
open IntKind renaming i64 → J, u8 → K
open Bool renaming true → y, false → n
open Option renaming some → U, none → N
open Res renaming box → b, own → W
open Go.Proofs Go.RowKit
set_option maxHeartbeats 4000000
set_option maxRecDepth 100000
theorem fS (w) {p0 p1_0 a e f q_1_0 cs_1_0 r} (H : bQ p0 p1_0 = U r) (i : (V (aF) 75).rd w [] p0 [S a e f]) (g_1_0 : (dA).rd w [] p1_0 cs_1_0) (hA_1_0 : At w [] q_1_0 cs_1_0) :
    Calls Tryz.prog 161 #[S a e f, .func (.func 137) #[] #[O (U q_1_0)]] w (fun en w' => en = .returned (I J r) ∧ Ext [] w w') := by
 obtain rfl := dc i
 obtain ⟨j, k, l, m, rfl, o, q⟩ := dV g_1_0
 unfold bQ at H
 refine ar Tryz.func161 z Tryz.ntmps161 z (St.init w []) <| D <| A z <| P <| E <| D <| C [.p, .lenS 31 75 mU, .p] z <| P <| an <| CW.at (dq (fun (e : Int) => Q w [] []) (fun e => [(0, S a p0.length f), (1, .func (.func 137) #[] #[O (U q_1_0)]), (7, I J (p0.length : Int)), (8, I J e)]) (fun kk => fun e => bd p0 p1_0 kk e = U r) nofun (fun a h e H => ?_) aI (0) (H)) (ss [] z z) (c z)
 unfold bd at H
 refine D <| A z <| P <| E <| cI H z ?_ ?_ <;> intro H
 ·refine ai <| R <| E <| an <| D <| oPP z <| nR <| C [.p, .p, .p] z <| d H fun a f H => bu z z z z z mU fO z i f fun f f f i => ?_
  obtain ⟨s, t, u, v, x, F, L, M, rfl, T, X, a0, a1⟩ := cg f
  refine G z (cT (cs := [S s a.H_.e_.length t, I J a.H_.y_, B a.T_, S u a.w_.e_.length v, I J a.w_.y_, S x a.K_.r_.p_.length F, S L a.K_.s_.p_.length M]) z z fO (bh bor i) z) <| d H fun a i H => Dw z z (aV z) (qI (cap := [O (U q_1_0)]) z Se z z (fun f a => xj f (cs_1 := [S j p1_0.g_.d_.length k, S l p1_0.g_.f_.length m, I J p1_0.b_.L_, I J p1_0.b_.N_, I J p1_0.b_.M_, I J p1_0.b_.h_, I J p1_0.b_.e_, I J p1_0.b_.E_, B p1_0.b_.Q_, I J p1_0.j_, I J p1_0.O_, I J p1_0.P_, I J p1_0.r_, I J p1_0.s_]) i (kD (bg (g T f a) z) z (bg (g X f a) z) (io (bf (g a0 f a)) (bf (g a1 f a)))) (bx (aw (g o f a) (g q f a)) z z z z z z) (bh bor hA_1_0 f a))) (fun _ _ => Y) <| P <| cI H z ?_ ?_ <;> intro H
  ·exact D <| oPP z <| nT <| Z H ▸ xw z
  ·exact ai <| bR <| R <| aH <| oPP z <| ay <| bU (RW.at (h (J.wrap (e + 1)) (H)) (ss [] z z) (c z))
 ·exact aU <| aB <| aE <| aA <| R <| D <| A z <| nT <| Z H ▸ xw z
theorem fF (w) {p0 p1_0 a e f q_1_0 cs_1_0 r} (H : br p0 p1_0 = U r) (h : (V (aF) 75).rd w [] p0 [S a e f]) (g_1_0 : (dA).rd w [] p1_0 cs_1_0) (hA_1_0 : At w [] q_1_0 cs_1_0) :
    Calls Tryz.prog 136 #[S a e f, .func (.func 137) #[] #[O (U q_1_0)]] w (fun en w' => en = .returned (B r) ∧ Ext [] w w') := by
 obtain rfl := dc h
 obtain ⟨f, i, j, k, rfl, l, m⟩ := dV g_1_0
 unfold br at H
 exact ar Tryz.func136 z Tryz.ntmps136 z (St.init w []) <| D <| A z <| nR <| oPP z <| bq H Qw (fun _ o e a => fS e (cs_1_0 := [S f p1_0.g_.d_.length i, S j p1_0.g_.f_.length k, I J p1_0.b_.L_, I J p1_0.b_.N_, I J p1_0.b_.M_, I J p1_0.b_.h_, I J p1_0.b_.e_, I J p1_0.b_.E_, B p1_0.b_.Q_, I J p1_0.j_, I J p1_0.O_, I J p1_0.P_, I J p1_0.r_, I J p1_0.s_]) o (g h e a) (bx (aw (g l e a) (g m e a)) z z z z z z) (bh bor hA_1_0 e a)) z tt2 fun a H => oPP z <| nT <| Z H ▸ xw z
theorem zl (w) {p0 p1 a e r} (H : nV p0 p1 = U r) (f : (dA).rd w [] p0 a) (k : (fj).rd w [] p1 e) :
    Calls Tryz.prog 105 #[.agg a.toArray, .agg e.toArray] w (fun en w' => en = .returned (B r) ∧ Ext [] w w') := by
 obtain ⟨o, q, s, t, rfl, h, j⟩ := dV f
 obtain ⟨a, a, rfl, u⟩ := jn k
 unfold nV at H
 refine ar Tryz.func105 z Tryz.ntmps105 z (St.init w []) <| D <| ob _ z fun k => ob _ z fun l => A z <| nR <| G z (rx 0 0 _ z uM z) <| bq H OM (fun _ f e a => sv e f (bx (aw (g h e a) (g j e a)) z z z z z z)) z tt2 fun f H => A z <| cu2 [(2, O (U ⟨k, 0, N⟩)), (3, O (U ⟨l, 0, N⟩)), (4, B n)] [(7, B f)] 7 (14, B (f && ((p1.j_.length : Int) == p0.j_))) z ?_ fun key => ?_
 ·refine A z <| d H fun v m H => cu2 [(4, B n)] [(2, O (U ⟨k, 0, N⟩)), (3, O (U ⟨l, 0, N⟩)), (15, B (f && ((p1.j_.length : Int) == p0.j_)))] 6 (21, B v) z ?_ fun key => ?_
  ·exact A z <| nT <| Z H ▸ xw z
  ·have H := m
   generalize (f && ((p1.j_.length : Int) == p0.j_)) = k at H key ⊢
   cases k
   ·have H := aN z H
    refine C [.p, .p, .p, .p, .p, .p] z ?_
    obtain rfl := Z H
    exact OW.sub key (c z)
   ·have H := aO z H
    refine C [.fa 33 0 0 nK] z <| G z (r1 0 1 z wi z) <| G z (vk z z) <| bq H Qg (fun _ k e a => fF e (cs_1_0 := [S o p0.g_.d_.length q, S s p0.g_.f_.length t, I J p0.b_.L_, I J p0.b_.N_, I J p0.b_.M_, I J p0.b_.h_, I J p0.b_.e_, I J p0.b_.E_, B p0.b_.Q_, I J p0.j_, I J p0.O_, I J p0.P_, I J p0.r_, I J p0.s_]) k (g u e a) (bx (aw (g h e a) (g j e a)) z z z z z z) (wZ (T := 30) 0 (Cy (i := 0) z) z e a)) z tt2 fun a H => A z <| A z <| ?_
    obtain rfl := Z H
    exact OW.sub key (c z)
 ·generalize f = a at key ⊢
  cases a
  ·exact C [.p, .p, .p, .p, .p, .p, .p] z <| OW.sub key (c z)
  ·exact C [.fa 33 0 0 nK] z <| G z (r1 0 1 z wi z) <| C [.lenS 31 75 mU, .fa 30 2 9 rV] z <| G z (r1 9 0 z ty3 z) <| A z <| A z <| OW.sub key (c z)
theorem xu (w) {p0 r} (H : pK p0 = U r) :
    Calls Tryz.prog 140 #[I J p0] w (fun en w' => en = .returned (B r) ∧ Ext [] w w') := by
 unfold pK at H
 exact ar Tryz.func140 z Tryz.ntmps140 z (St.init w []) <| D <| A z <| nR <| A z <| bq H gQ (fun _ a e f => bc e a) z tt2 fun a H => oPP z <| nT <| Z H ▸ xw z
theorem zC (w) {p0 f a h r} (H : nZ p0 = U r) (i : (V (V eI 3) 63).rd w [] p0 [S f a h]) :
    Calls Tryz.prog 141 #[S f a h] w (fun en w' => en = .returned (I J r) ∧ Ext [] w w') := by
 obtain rfl := dc i
 unfold nZ at H
 refine ar Tryz.func141 z Tryz.ntmps141 z (St.init w []) <| D <| A z <| nR <| A z <| P <| E <| D <| C [.p, .lenS 34 63 eg, .p] z <| P <| an <| CW.at (fc (fun (a : Int) (e : Int) => Q w [] []) (fun a e => [(3, I J a), (6, S f p0.length h), (7, I J (p0.length : Int)), (8, I J e)]) (fun kk => fun a e => fm p0 kk a e = U r) nofun (fun f h a e H => ?_) aI (0) (0) (H)) (ss [] z z) (c z)
 unfold fm at H
 refine D <| A z <| P <| E <| cI H z ?_ ?_ <;> intro H
 ·refine ai <| R <| E <| an <| D <| d H fun f f H => bu z z z z z eg bP z i f fun f f f i => ?_
  obtain ⟨j, j, rfl⟩ := dz f
  exact G z (aT z z bP (bh bor i)) <| A z <| P <| aH <| oPP z <| bq H KR (fun _ i j k => th j i (g f j k)) z tt2 fun f H => oPP z <| ay <| bR <| R <| aH <| oPP z <| ay <| bU (RW.at (h (J.wrap (a + f)) (J.wrap (e + 1)) (H)) (ss [] z z) (c z))
 ·exact aU <| aB <| aE <| aA <| R <| D <| oPP z <| nT <| Z H ▸ xw z
theorem jA (w) {p0 e a f r} (H : cE p0 = U r) (h : (V eI 3).rd w [] p0 [S e a f]) :
    Calls Tryz.prog 165 #[S e a f, .func (.func 140) #[] #[]] w (fun en w' => en = .returned (I J r) ∧ Ext [] w w') := by
 obtain rfl := dc h
 unfold cE at H
 refine ar Tryz.func165 z Tryz.ntmps165 z (St.init w []) <| D <| A z <| P <| E <| D <| C [.p, .lenS 63 3 bB, .p] z <| P <| an <| CW.at (dq (fun (a : Int) => Q w [] []) (fun a => [(0, S e p0.length f), (1, .func (.func 140) #[] #[]), (7, I J (p0.length : Int)), (8, I J a)]) (fun kk => fun a => bK p0 kk a = U r) nofun (fun e e a H => ?_) aI (0) (H)) (ss [] z z) (c z)
 unfold bK at H
 refine D <| A z <| P <| E <| cI H z ?_ ?_ <;> intro H
 ·refine ai <| R <| E <| an <| D <| oPP z <| nR <| C [.p, .p, .p] z <| d H fun f f H => ix1 bB ty3 (g h) f z z <| d H fun f f H => Dw z z (aV z) (qI (cap := []) z RB z z (fun h i => xu h f)) (fun _ _ => Y) <| P <| cI H z ?_ ?_ <;> intro H
  ·exact D <| oPP z <| nT <| Z H ▸ xw z
  ·exact ai <| bR <| R <| aH <| oPP z <| ay <| bU (RW.at (e (J.wrap (a + 1)) (H)) (ss [] z z) (c z))
 ·exact aU <| aB <| aE <| aA <| R <| D <| A z <| nT <| Z H ▸ xw z
theorem iR (w) {p0 a e f r} (H : bY p0 = U r) (h : (V eI 3).rd w [] p0 [S a e f]) :
    Calls Tryz.prog 139 #[S a e f, .func (.func 140) #[] #[]] w (fun en w' => en = .returned (B r) ∧ Ext [] w w') := by
 obtain rfl := dc h
 unfold bY at H
 exact ar Tryz.func139 z Tryz.ntmps139 z (St.init w []) <| D <| A z <| nR <| oPP z <| bq H Hq (fun _ a e f => jA e a (g h e f)) z tt2 fun a H => oPP z <| nT <| Z H ▸ xw z
theorem AJ (w) {p0 p1 a r} (H : pO p0 p1 = U r) (l : (fN).rd w [] p1 a) :
    Calls Tryz.prog 106 #[I J p0, .agg a.toArray] w (fun en w' => en = .returned (B r) ∧ Ext [] w w') := by
 obtain ⟨x, F, s, t, rfl, T, a0⟩ := jT l
 unfold pO at H
 refine ar Tryz.func106 z Tryz.ntmps106 z (St.init w []) <| D <| ob _ z fun m => A z <| P <| E <| D <| A z <| bq H gQ (fun _ a q u => bc q a) z tt2 fun X H => oPP z <| cu2 [(0, I J p0), (3, O (U ⟨m, 0, N⟩))] [(14, B (!X))] 6 (20, B ((!X) || ((p1.o_.length : Int) != p0))) z ?_ fun key => ?_
 ·refine P <| cI H z ?_ ?_ <;> intro H
  ·exact D <| A z <| nT <| Z H ▸ xw z
  ·refine ai <| R <| E <| D <| C [.fa 37 0 0 kQ] z <| G z (r1 0 0 z fw z) <| C [.lenS 34 63 eg, .p] z <| P <| an <| CW.at (dq (fun (a : Int) => Q w [] [b m 37 [S x p1.o_.length F, S s p1.n_.length t]]) (fun a => [(0, I J p0), (3, O (U ⟨m, 0, N⟩)), (22, S x p1.o_.length F), (23, I J (p1.o_.length : Int)), (24, I J a)]) (fun kk => fun a => eC p1 p0 kk a = U r) nofun (fun l v a H => ?_) aI (0) (H)) (ss [0] z z) (c z)
   unfold eC at H
   refine D <| A z <| P <| E <| cI H z ?_ ?_ <;> intro H
   ·refine ai <| R <| E <| an <| D <| d H fun l o H => bu z z z z z eg bP z T o fun o o o L => ?_
    obtain ⟨M, a1, rfl⟩ := dz o
    refine G z (aT z z bP (bh bor L)) <| A z <| nR <| C [.p, .lenS 63 3 bB, .p, .p, .p] z <| d H fun a2 L H => cu2 [(0, I J p0), (3, O (U ⟨m, 0, N⟩)), (22, S x p1.o_.length F), (23, I J (p1.o_.length : Int)), (24, I J a)] [(6, S M l.length a1), (32, B ((l.length : Int) != p0))] 3 (35, B a2) z ?_ fun key => ?_
    ·refine P <| cI H z ?_ ?_ <;> intro H
     ·exact D <| A z <| nT <| Z H ▸ xw z
     ·exact ai <| bR <| R <| aH <| oPP z <| ay <| bU (RW.at (v (J.wrap (a + 1)) (H)) (ss [0] z z) (c z))
    ·have H := L
     generalize ((l.length : Int) != p0) = a at H key ⊢
     cases a
     ·have H := aN z H
      refine A z <| bq H Gh (fun _ a q u => iR q a (g o q u)) z tt2 fun a H => A z <| ?_
      obtain rfl := Z H
      exact OW.sub key (c z)
     ·have H := aO z H
      refine C [.p, .p, .p] z ?_
      obtain rfl := Z H
      exact OW.sub key (c z)
   ·refine aU <| aB <| aE <| aA <| R <| D <| C [.fa 37 0 0 kQ] z <| G z (r1 0 0 z fw z) <| bq H RC (fun _ a q u => zC q a (g T q u)) z tt2 fun v H => A z <| P <| E <| D <| C [.p, .p, .p] z <| cu2 [(0, I J p0), (3, O (U ⟨m, 0, N⟩))] [(7, I J v), (42, B (decide (v > 9999)))] 7 (49, B ((decide (v > 9999)) || ((p1.n_.length : Int) != (if 20 < v then 20 else v)))) z ?_ fun key => ?_
    ·refine P <| cI H z ?_ ?_ <;> intro H
     ·exact D <| A z <| nT <| Z H ▸ xw z
     ·refine ai <| R <| D <| HL (κ := aC) gm z z z z (fun _ => kp) fun L => A z <| P <| E <| D <| C [.fa 37 1 1 kq] z <| G z (r1 1 0 z tt z) <| C [.lenS 35 83 nO, .p] z <| P <| an <| CW.at (fc (fun (o : Int) (l : List (aC × Int)) => Q w [] [b m 37 [S x p1.o_.length F, S s p1.n_.length t], Res.map gm L l]) (fun o l => [(0, I J p0), (3, O (U ⟨m, 0, N⟩)), (8, .map (U L)), (52, S s p1.n_.length t), (53, I J (p1.n_.length : Int)), (54, I J o)]) (fun kk => fun o l => dN p1 p0 kk o l = U r) nofun (fun a a2 o l H => ?_) aI (0) (([] : List (aC × Int))) (H)) (ss [0, 1] z z) (c z)
      unfold dN at H
      refine D <| A z <| P <| E <| cI H z ?_ ?_ <;> intro H
      ·refine ai <| R <| E <| an <| D <| d H fun a M H => fb (e := aK) (xs := p1.n_) (j := o) z z z z z nO nG z (g a0) M z <| G z (cT (cs := [I J a.R_, I J a.S_]) z z nG (lJ (nk (g a0) M (fun _ _ h => h)) z) z) <| bn z z z z nG (fun _ => kp) fun M => sC 0 [I J a.R_, I J a.S_] [_, _] 2 z nG z <| P <| E <| lu 6 [(0, y), (1, y), (2, y), (3, y), (4, n), (5, y)] (Q w [] [b m 37 [S x p1.o_.length F, S s p1.n_.length t], Res.mapG gm L l, b M 83 [I J a.R_, I J a.S_]]) dC (by kernel_rfl) (cr (fT (cr (oG (fT (cr dx)))))) (fun _ h => St.mask [y, y, y] z (St.toG 1 z (fun _ => z) h)) <| A z <| ek z (aV z) (rx 0 2 _ z nG z) <| ek z (aV z) (El (f := gm) (es := l) (k := a) z z z Mc iz3 Pj (OX (i := 1) z)) <| A z <| GR (f := gm) (r := 1) (es := l) (k := a) z z z z z z Mc iz3 Pj z (fun _ h => St.mask [y, y, y] z (St.toG 1 z (by first | exact fun _ => z | exact LK _ _) h)) <| A z <| jI <| we <| Do (f := gm) (r := 1) (es := l) (k := a) z z z z z z z z kp <| P <| E <| dP dC (by kernel_rfl) <| C [.fa 83 0 0 tf] z <| G z (r1 0 2 z ty3 z) <| oPP z <| bq H gQ (fun _ x q u => bc q x) z tt2 fun F H => oPP z <| d H fun x a0 H => cu2 [(0, I J p0), (3, O (U ⟨m, 0, N⟩)), (8, .map (U L)), (10, O (U ⟨M, 0, N⟩)), (52, S s p1.n_.length t), (53, I J (p1.n_.length : Int)), (54, I J o)] [(70, B (!F))] 7 (77, B x) z ?_ fun key => ?_
       ·refine A z <| d H fun a3 a1 H => cu2 [(0, I J p0), (3, O (U ⟨m, 0, N⟩)), (8, .map (U L)), (52, S s p1.n_.length t), (53, I J (p1.n_.length : Int)), (54, I J o)] [(10, O (U ⟨M, 0, N⟩)), (78, B x)] 15 (93, B a3) z ?_ fun key => ?_
        ·refine cQ <| R <| cI H z ?_ ?_ <;> intro H
         ·exact D <| A z <| nT <| Z H ▸ xw z
         ·exact ai <| bR <| R <| aH <| oPP z <| ay <| bU (RW.at (a2 (J.wrap (o + 1)) ((wK l a (J.wrap ((ik l a) + 1)))) (H)) (ss [0, 1] z z) (c z))
        ·have H := a1
         generalize x = m at H key ⊢
         cases m
         ·have H := aN z H
          refine A z <| G z (rx 0 2 _ z nG z) <| G z (El (f := gm) (es := (wK l a (J.wrap ((ik l a) + 1)))) (k := a) z z z Mc iz3 Pj (OY (i := 1) z)) <| C [.fa 37 0 0 kQ] z <| G z (r1 0 0 z fw z) <| C [.fa 83 0 0 tf] z <| G z (r1 0 2 z ty3 z) <| d H fun a a H => bu z z z z z eg bP z T a fun a a a l => ?_
          obtain ⟨m, m, rfl⟩ := dz a
          refine G z (aT z z bP (bh bor l)) <| C [.fa 83 1 1 rN] z <| G z (r1 1 2 z ty3 z) <| d H fun l l H => ix1 bB ty3 (g a) l z z <| A z <| A z <| ?_
          obtain rfl := Z H
          exact OW.sub key (c z)
         ·have H := aO z H
          refine C [.p, .p, .p, .p, .p, .p, .p, .p, .p, .p, .p, .p, .p, .p, .p] z ?_
          obtain rfl := Z H
          exact OW.sub key (c z)
       ·have H := a0
        generalize (!F) = a at H key ⊢
        cases a
        ·have H := aN z H
         refine C [.fa 83 1 1 rN] z <| G z (r1 1 2 z ty3 z) <| oPP z <| bq H gQ (fun _ a q u => bc q a) z tt2 fun a H => A z <| A z <| ?_
         obtain rfl := Z H
         exact OW.sub key (c z)
        ·have H := aO z H
         refine C [.p, .p, .p, .p, .p, .p, .p] z ?_
         obtain rfl := Z H
         exact OW.sub key (c z)
      ·exact aU <| aB <| aE <| aA <| R <| D <| A z <| nT <| Z H ▸ xw z
    ·generalize (decide (v > 9999)) = a at key ⊢
     cases a
     ·exact C [.fa 37 1 1 kq] z <| G z (r1 1 0 z tt z) <| C [.lenS 35 83 nO, .p] z <| G z (OS z z z) <| A z <| A z <| OW.sub key (c z)
     ·exact C [.p, .p, .p, .p, .p, .p, .p] z <| OW.sub key (c z)
 ·generalize (!X) = a at key ⊢
  cases a
  ·exact C [.fa 37 0 0 kQ] z <| G z (r1 0 0 z fw z) <| C [.lenS 34 63 eg, .p, .p] z <| A z <| OW.sub key (c z)
  ·exact C [.p, .p, .p, .p, .p, .p] z <| OW.sub key (c z)
theorem AP (w) {p0 a r} (H : nw p0 = U r) (e : (iv).rd w [] p0 a) :
    Calls Tryz.prog 57 #[.agg a.toArray] w (fun en w' => en = .returned (B r) ∧ Ext [] w w') := by
 obtain ⟨a, a, a, a, a, a, a, a, a, a, rfl, f, h, i, j, k⟩ := iM e
 unfold nw at H
 refine ar Tryz.func57 z Tryz.ntmps57 z (St.init w []) <| D <| ob _ z fun l => A z <| nR <| C [.fa 39 0 0 gW] z <| G z (rx 0 0 _ z uM z) <| C [.fa 39 1 14 qi] z <| G z (rx 14 0 _ z JZ z) <| bq H Qf (fun _ m e a => zl e m (bx (aw (g f e a) (g h e a)) z z z z z z) (ch (g i e a))) z tt2 fun f H => A z <| d H fun i h H => cu2 [(2, B n)] [(1, O (U ⟨l, 0, N⟩)), (8, B f)] 9 (17, B i) z ?_ fun key => ?_
 ·exact A z <| nT <| Z H ▸ xw z
 ·have H := h
  generalize f = f at H key ⊢
  cases f
  ·have H := aN z H
   refine C [.p, .p, .p, .p, .p, .p, .p, .p, .p] z ?_
   obtain rfl := Z H
   exact OW.sub key (c z)
  ·have H := aO z H
   refine C [.fa 39 0 0 gW, .fa 30 0 0 mr, .fa 26 1 1 lz] z <| G z (r1 1 0 z mZ z) <| C [.lenS 24 9 eo, .fa 39 2 15 jD] z <| G z (rx 15 0 _ z Jz z) <| bq H Ro (fun _ f e a => AJ e f (ct (g j e a) (g k e a))) z tt2 fun a H => A z <| ?_
   obtain rfl := Z H
   exact OW.sub key (c z)
theorem xf (w) {p0 a r} (H : lV p0 = U r) (f : (bH).rd w [] p0 a) (gT : (eGl Tryz.prog).rd w [] () []) :
    Calls Tryz.prog 59 #[.agg a.toArray] w (fun en w' => en = .returned (vS r) ∧ Ext [] w w') := by
 obtain ⟨o, q, x, F, rfl, s, t⟩ := bA f
 unfold lV at H
 refine ar Tryz.func59 z Tryz.ntmps59 z (St.init w []) <| D <| ob _ z fun u => A z <| P <| E <| D <| G z (rx 0 0 _ z el z) <| bq H BB (fun _ h f a => hY f h (aw (g s f a) (g t f a))) z tt2 fun h H => A z <| P <| cI H z ?_ ?_ <;> intro H
 ·exact D <| A z <| nT <| Z H ▸ xw z
 ·refine ai <| R <| D <| eS (e := bC) z z z z eo ty9 (fun _ => kp) fun v => A z <| P <| E <| D <| C [.fa 26 0 0 fu] z <| G z (r1 0 0 z nv z) <| C [.lenS 23 123 jN, .p] z <| P <| an <| CW.at (lq (fun (j : Int) (h : List (List UInt8)) (k : Option Addr) (l : Nat) (m : List Nat) => Q w [] [b u 26 [S o p0.d_.length q, S x p0.f_.length F], W (V (bC) 9) m h [S k h.length l]]) (fun j h k l m => [(1, O (U ⟨u, 0, N⟩)), (3, S k h.length l), (11, S o p0.d_.length q), (12, I J (p0.d_.length : Int)), (13, I J j)]) (fun kk => fun j h k l m => k.isNone = n ∧ ej p0 kk j h = U r) (fun _ _ _ _ _ H => nomatch H.2) (fun o q j h k l m ⟨h, H⟩ => ?_) aI (0) (([] : List (List UInt8))) ((U ⟨v, 0, N⟩)) (0) ([v]) (⟨z, H⟩)) (ss [0, 1] z z) (c z)
  unfold ej at H
  refine D <| A z <| P <| E <| cI H z ?_ ?_ <;> intro H
  ·refine ai <| R <| E <| an <| D <| d H fun h k H => bu z z z z z jN cf z s k fun k k s u => ?_
   obtain ⟨k, l, m, o, rfl, v, x⟩ := bJ s
   exact G z (cT (cs := [vS h.D_, S k h.x_.length l, S m h.F_.length o]) z z cf (bh bor u) z) <| bn z z z z cf (fun _ => kp) fun s => sC 0 [vS h.D_, S k h.x_.length l, S m h.F_.length o] [_, _, _] 2 z cf z <| P <| aH <| A z <| G z (rx 0 2 _ z cf z) <| bq H Of (fun _ h f a => tz f h (co z (g v f a) (g x f a)) (g gT f a)) z tt2 fun h H => cF (val := vS) (h1 := fun _ => z) [h] [(0, [vS h])] z z z z z eo ty9 z z z ⟨z, z, nl z, Y⟩ z z (fun _ => kp) fun k => d H fun s k H => cq (r := 1) (ys := ([h] : List (List UInt8))) z z z z z z eo ty9 z z z (fun f a => av (e := V (bC) 9) (r := 3) z f a) k (fun _ _ _ => kp) fun l m o => eF z (fun f a => kK (i := 1) a z (kC k)) fun h => A z <| ay <| bR <| R <| aH <| oPP z <| ay <| bU (RW.at (q (J.wrap (j + 1)) (s) (l) (m) (o) (⟨h, H⟩)) (ss [0, 1] z z) (c z))
  ·exact aU <| aB <| aE <| aA <| R <| E <| dP dC (by kernel_rfl) <| A z <| bq H II (fun _ h f a => AY (T := 9) Tryz.lays156 Tryz.Builder_Extra_156 f h (av (e := V (bC) 9) (r := 1) z f a)) z tt2 fun h H => d H fun h h H => G z (jH z z z h) <| C [.fa 26 1 1 lz] z <| G z (r1 1 0 z mZ z) <| bq H II (fun _ h f a => AY (T := 9) Tryz.lays156 Tryz.Builder_Extra_156 f h (g t f a)) z tt2 fun a H => d H fun a a H => G z (jH z z z a) <| A z <| cQ <| R <| sG <| Z H ▸ xw z
theorem sa (w) {q p0 r} (H : mP p0 = U r) (HS : Q w q [] w) :
    Calls Tryz.prog 107 #[I J p0] w (fun en w' => ∃ v, en = .returned v ∧ ∃ a f c0 j, v = S a f c0 ∧ a.isNone = r.2 ∧ Q w q [W (V e8 5) j r.1 [S a f c0]] w') := by
 unfold mP at H
 refine ar Tryz.func107 z Tryz.ntmps107 z (HS) <| D <| A z <| P <| E <| D <| A z <| bq H gQ (fun _ a s l => bc s a) z tt2 fun a H => A z <| P <| cI H z ?_ ?_ <;> intro H
 ·exact D <| A z <| nT <| aS <| aP (fun _ h => St.pushNil (e := e8) (T := 5) h) <| Z H ▸ xo z fun w' hw' => ⟨_, z, N, 0, 0, [], z, z, hw'.sel [0] z z⟩
 ·refine ai <| R <| D <| eS (e := e8) z z z z cC ty5 (fun _ => kp) fun o => A z <| P <| E <| an <| CW.at (lq (fun (a : Int) (f : List Int) (j : Option Addr) (k : Nat) (m : List Nat) => Q w q [W (V e8 5) m f [S j f.length k]]) (fun a f j k m => [(0, I J a), (3, S j f.length k)]) (fun kk => fun a f j k m => j.isNone = n ∧ jB kk a f = U r) (fun _ _ _ _ _ H => nomatch H.2) (fun q q a f j k m ⟨f, H⟩ => ?_) aI (p0) (([] : List Int)) ((U ⟨o, 0, N⟩)) (0) ([o]) (⟨z, H⟩)) (ss [0] z z) (c z)
  unfold jB at H
  refine E <| D <| oPP z <| P <| cI H z ?_ ?_ <;> intro H
  ·exact ai <| R <| an <| D <| C [.p, .p, .p, .p, .cv 3 5 K us3 in5] z <| cF (val := I K) (h1 := fun _ => z) [K.wrap (eK .or J (eK .and J a 127) 128)] [(0, [I K (K.wrap (eK .or J (eK .and J a 127) 128))])] z z z z z cC ty5 z z z ⟨z, z, nl z, Y⟩ z z (fun _ => kp) fun f => d H fun j f H => cq (r := 0) (ys := ([K.wrap (eK .or J (eK .and J a 127) 128)] : List Int)) z z z z z z cC ty5 z z z (av (e := V e8 5) (r := 1) z) f (fun _ _ _ => kp) fun k m o => eF z (fun s l => kK (i := 0) l z (kC f)) fun f => A z <| P <| aH <| C [.p, .p, .p] z <| ay <| bR <| bU (RW.at (q (qg J a 7) (j) (k) (m) (o) (⟨f, H⟩)) (ss [0] z z) (c z))
  ·exact aU <| aB <| aE <| aA <| R <| D <| C [.p, .p, .cv 3 5 K us3 in5] z <| cF (val := I K) (h1 := fun _ => z) [K.wrap a] [(0, [I K (K.wrap a)])] z z z z z cC ty5 z z z ⟨z, z, nl z, Y⟩ z z (fun _ => kp) fun f => d H fun j f H => cq (r := 0) (ys := ([K.wrap a] : List Int)) z z z z z z cC ty5 z z z (av (e := V e8 5) (r := 1) z) f (fun _ _ _ => kp) fun k m o => eF z (fun s l => kK (i := 0) l z (kC f)) fun a => A z <| nT <| Z H ▸ xo z fun w' hw' => ⟨_, z, k, j.length, m, o, z, a, hw'.sel [0] z z⟩
theorem AD (w) {f p0 r} (H : pr p0 = U r) (HS : Q w f [] w) :
    Calls Tryz.prog 58 #[vS p0] w (fun en w' => ∃ v, en = .returned v ∧ ∃ a e c0 h, v = S a e c0 ∧ Q w f [W (V e8 5) h r [S a e c0]] w') := by
 unfold pr at H
 refine ar Tryz.func58 z Tryz.ntmps58 z (HS) <| D <| A z <| nR <| C [.p, .lenT 9 st9] z <| d H fun a e H => aq z LO z z z z (fun h a => sa h e (a.carve [] z z)) fun e h e a h => ?_
 obtain ⟨e, e, e, e, rfl, e, e⟩ := h
 obtain rfl := aL (i := 0) e z
 refine ⟨Q w f [_], a.comp [] z z e, fun _ _ => Y, ?_⟩
 exact A z <| d H fun a a H => d H fun e f H => ND (r := 0) z z z z z z cC st9 SV z a f (fun _ _ _ => kp) fun a f h => A z <| nT <| Z H ▸ xo z fun w' hw' => ⟨_, z, a, e.length, f, h, z, hw'.sel [0] z z⟩
theorem ug (w) {p0 r} (H : rC p0 = U r) :
    Calls Tryz.prog 61 #[B p0] w (fun en w' => en = .returned (I J r) ∧ Ext [] w w') := by
 unfold rC at H
 refine ar Tryz.func61 z Tryz.ntmps61 z (St.init w []) <| D <| A z <| P <| E <| D <| A z <| P <| cI H z ?_ ?_ <;> intro H
 ·exact D <| A z <| nT <| Z H ▸ xw z
 ·exact ai <| R <| D <| A z <| nT <| Z H ▸ xw z
theorem BM (w) {k p0 r} (H : qM p0 = U r) (HS : Q w k [] w) :
    Calls Tryz.prog 110 #[I J p0] w (fun en w' => ∃ v, en = .returned v ∧ ∃ a f c0 j, v = S a f c0 ∧ a.isNone = r.2 ∧ Q w k [W (V e8 5) j r.1 [S a f c0]] w') := by
 unfold qM at H
 refine ar Tryz.func110 z Tryz.ntmps110 z (HS) <| D <| A z <| P <| E <| an <| D <| A z <| bq H gQ (fun _ j f a => bc f j) z tt2 fun j H => oPP z <| P <| cI H z ?_ ?_ <;> intro H
 ·exact D <| A z <| nT <| cR <| aS <| aP (fun _ h => St.pushNil (e := e8) (T := 5) h) <| Z H ▸ xo z fun w' hw' => ⟨_, z, N, 0, 0, [], z, z, hw'.sel [0] z z⟩
 ·refine D <| C [.p, .p, .p] z <| P <| cI H z ?_ ?_ <;> intro H
  ·refine D <| C [.p, .p, .p] z <| d H fun o j H => aq z LO z z z z (fun f a => sa f j (a.carve [] z z)) fun j f u a l => ?_
   obtain ⟨q, j, s, t, rfl, m, j⟩ := l
   obtain rfl := aL (i := 0) j z
   refine ⟨Q w k [_], a.comp [] z z j, fun _ _ => Y, ?_⟩
   exact A z <| nT <| cR <| aS <| Z H ▸ xo z fun w' hw' => ⟨_, z, q, o.1.length, s, t, z, m, hw'.sel [0] z z⟩
  ·refine ai <| bR <| R <| D <| oPP z <| d H fun m j H => aq z LO z z z z (fun f a => sa f j (a.carve [] z z)) fun j f u a j => ?_
   obtain ⟨o, f, q, s, rfl, l, f⟩ := j
   obtain rfl := aL (i := 0) f z
   refine ⟨Q w k [_], a.comp [] z z f, fun _ _ => Y, ?_⟩
   exact A z <| nT <| Z H ▸ xo z fun w' hw' => ⟨_, z, o, m.1.length, q, s, z, l, hw'.sel [0] z z⟩
theorem cn (w) {t p0 p1 h a_0_1 n_0_1 c_0_1 F_0_1 q a s r} (H : bO p0 p1 = U r) (HS : Q w t [b h 107 [S a_0_1 n_0_1 c_0_1, B p0.C_], W (V e8 5) F_0_1 p0.U_ [S a_0_1 n_0_1 c_0_1]] w) (o : (V eI 3).rd w t p1 [S q a s]) :
    Calls Tryz.prog 60 #[O (U ⟨h, 0, N⟩), S q a s] w (fun en w' => ∃ v, en = .returned v ∧ ∃ a f c0 j, v = .tuple #[] ∧ Q w t [b h 107 [S a f c0, B r.C_], W (V e8 5) j r.U_ [S a f c0]] w') := by
 obtain rfl := aL (i := 1) HS z
 obtain rfl := dc o
 unfold bO at H
 refine ar Tryz.func60 z Tryz.ntmps60 z (HS) <| D <| C [.p, .lenS 63 3 bB, .p] z <| P <| an <| CW.at (oD (fun (f : List Int) (k : Option Addr) (l : Nat) (m : List Nat) (a : Bool) (j : Int) => Q w t [b h 107 [S k f.length l, B a], W (V e8 5) m f [S k f.length l]]) (fun f k l m a j => [(0, O (U ⟨h, 0, N⟩)), (7, S q p1.length s), (8, I J (p1.length : Int)), (9, I J j)]) (fun kk => fun f k l m a j => fy p1 kk f a j = U r) nofun (fun u F f k l m a j H => ?_) aI (p0.U_) (a_0_1) (c_0_1) (F_0_1) (p0.C_) (0) (H)) (ss [0, 1] z z) (c z)
 unfold fy at H
 refine D <| A z <| P <| E <| cI H z ?_ ?_ <;> intro H
 ·refine ai <| R <| E <| an <| D <| d H fun u u H => ix1 bB ty3 (g o) u z z <| A z <| nR <| A z <| d H fun o x H => aq z Qs z z z z (fun L u => BM L x (u.carve [] z z)) fun x L x u L => ?_
  obtain ⟨T, x, X, x, rfl, M, x⟩ := L
  obtain rfl := aL (i := 0) x z
  refine ⟨Q w t [_, _, _], u.comp [] z z x, fun _ _ => Y, ?_⟩
  refine A z <| nR <| C [.p, .p, .p, .fa 107 1 1 IV] z <| G z (r1 1 0 z ty4 z) <| A z <| cu2 [(0, O (U ⟨h, 0, N⟩)), (6, S T o.1.length X), (7, S q p1.length s), (8, I J (p1.length : Int)), (9, I J j), (15, O (U ⟨h, 0, N⟩))] [(20, B a)] 3 (23, B (a || o.2)) z ?_ fun key => ?_
  ·exact C [.p, .fa 107 1 1 IV] z <| sC 1 [B (a || o.2)] [_, _] 0 z ty4 z <| P <| aH <| C [.p, .p, .p, .fa 107 0 0 vN] z <| G z (r1 0 0 z GK z) <| A z <| d H fun h q H => cq (r := 1) (ys := o.1) z z z z z z cC ty5 z z z (av (e := V e8 5) (r := 2) z) q (fun _ _ _ => kp) fun q s t => C [.p, .fa 107 0 0 vN] z <| sC 0 [S q h.length s] [_, _] 0 z GK z <| ay <| bR <| R <| aH <| oPP z <| ay <| bU (RW.at (F (h) (q) (s) (t) ((a || o.2)) (J.wrap (j + 1)) (H)) (ss [0, 1] z z) (c z))
  ·generalize a = a at key ⊢
   cases a
   ·exact A z <| G z (Nt z z cC M) <| A z <| OW.sub key (c z)
   ·exact C [.p, .p, .p] z <| OW.sub key (c z)
 ·exact aU <| aB <| aE <| aA <| EC (rs := []) (vs := []) z Y (fun w' hw' => by
   obtain rfl := Z H
   exact ⟨_, z, k, f.length, l, m, z, hw'.sel [0, 1] z z⟩)
theorem gK (w) {e p0 p1 a a_0_1 n_0_1 c_0_1 F_0_1 f h j r} (H : dr p0 p1 = U r) (HS : Q w e [b a 107 [S a_0_1 n_0_1 c_0_1, B p0.C_], W (V e8 5) F_0_1 p0.U_ [S a_0_1 n_0_1 c_0_1]] w) (k : (V eI 3).rd w e p1 [S f h j]) :
    Calls Tryz.prog 64 #[O (U ⟨a, 0, N⟩), S f h j] w (fun en w' => ∃ v, en = .returned v ∧ ∃ f h c0 j, v = .tuple #[] ∧ Q w e [b a 107 [S f h c0, B r.C_], W (V e8 5) j r.U_ [S f h c0]] w') := by
 obtain rfl := aL (i := 1) HS z
 obtain rfl := dc k
 unfold dr at H
 refine ar Tryz.func64 z Tryz.ntmps64 z (HS) <| D <| C [.p, .p, .lenS 63 3 bB] z <| cF (val := I J) (h1 := fun _ => z) [(p1.length : Int)] [(0, [I J (p1.length : Int)])] z z z z z bB ty3 z z z ⟨z, z, nl z, Y⟩ z z (fun _ => kp) fun a => d H fun a h H => aq z yH z z z z (fun f a => cn f h (a.carve [0, 1] z z) (rdO 2 [0, 1] z a z z)) fun h f l a j => ?_
 obtain ⟨h, h, h, h, rfl, h⟩ := j
 obtain rfl := aL (i := 1) h z
 refine ⟨Q w e [_, _, _, _, _], a.comp [0, 1] z z h, fun _ _ => Y, ?_⟩
 refine P <| CW.weak (C' := Q w e [_, _, _]) ?_ (ss [2, 3, 4] z z)
 refine aH <| oPP z <| d H fun j h H => aq z yH z z z z (fun f a => cn f h (a.carve [1, 2] z z) (rdB [1, 2] z z a k)) fun h f l a h => ?_
 obtain ⟨k, f, l, m, rfl, f⟩ := h
 obtain rfl := aL (i := 1) f z
 refine ⟨Q w e [_, _, _, _, _], a.comp [1, 2] z z f, fun _ _ => Y, ?_⟩
 exact ay <| EC (rs := []) (vs := []) z Y (fun w' hw' => by
  obtain rfl := Z H
  exact ⟨_, z, k, j.U_.length, l, m, z, hw'.sel [3, 4] z z⟩)
theorem qX (w) {h p0 p1 t a_0_1 n_0_1 c_0_1 F_0_1 a r} (H : jk p0 p1 = U r) (HS : Q w h [b t 107 [S a_0_1 n_0_1 c_0_1, B p0.C_], W (V e8 5) F_0_1 p0.U_ [S a_0_1 n_0_1 c_0_1]] w) (f : (bz).rd w h p1 a) :
    Calls Tryz.prog 62 #[O (U ⟨t, 0, N⟩), .agg a.toArray] w (fun en w' => ∃ v, en = .returned v ∧ ∃ a e c0 j, v = .tuple #[] ∧ Q w h [b t 107 [S a e c0, B r.C_], W (V e8 5) j r.U_ [S a e c0]] w') := by
 obtain rfl := aL (i := 1) HS z
 obtain ⟨a9, b0, rfl, u⟩ := cj f
 unfold jk at H
 refine ar Tryz.func62 z Tryz.ntmps62 z (HS) <| D <| ob _ z fun a => nR <| C [.p, .fa 69 1 1 nH] z <| G z (r1 1 2 z ty3 z) <| C [.fa 69 0 0 dD] z <| G z (r1 0 2 z ks z) <| C [.lenS 67 145 eN] z <| cF (val := I J) (h1 := fun _ => z) [p1.y_, (p1.e_.length : Int)] [(0, [I J p1.y_]), (1, [I J (p1.e_.length : Int)])] z z z z z bB ty3 z z z ⟨z, z, nl z, z, z, nl z, Y⟩ z z (fun _ => kp) fun a => d H fun s a H => aq z yH z z z z (fun f e => cn f a (e.carve [0, 1] z z) (rdO 3 [0, 1] z e z z)) fun a f T e j => ?_
 obtain ⟨x, a, F, L, rfl, a⟩ := j
 obtain rfl := aL (i := 1) a z
 refine ⟨Q w h [_, _, _, _, _, _], e.comp [0, 1] z z a, fun _ _ => Y, ?_⟩
 refine P <| E <| CW.weak (C' := Q w h [_, _, _, _]) ?_ (ss [2, 3, 4, 5] z z)
 refine aH <| C [.fa 69 0 0 dD] z <| G z (r1 0 0 z ks z) <| C [.lenS 67 145 eN, .p] z <| P <| an <| CW.at (oD (fun (j : List Int) (k : Option Addr) (l : Nat) (q : List Nat) (o : Bool) (m : Int) => Q w h [b t 107 [S k j.length l, B o], W (V e8 5) q j [S k j.length l]]) (fun j k l q o m => [(0, O (U ⟨t, 0, N⟩)), (17, S a9 p1.e_.length b0), (18, I J (p1.e_.length : Int)), (19, I J m)]) (fun kk => fun j k l q o m => dJ p1 kk j o m = U r) nofun (fun k1 b1 j k l q o m H => ?_) aI (s.U_) (x) (F) (L) (s.C_) (0) (H)) (ss [2, 3] z z) (c z)
 unfold dJ at H
 refine D <| A z <| P <| E <| cI H z ?_ ?_ <;> intro H
 ·refine ai <| R <| E <| an <| D <| d H fun a s H => bu z z z z z eN bp z u s fun s s s F => ?_
  obtain ⟨X, a1, a2, a3, u, x, a4, a5, rfl, L, M, b2, b3⟩ := aY s
  refine G z (cT (cs := [B a.B_, I J a.i_.t_, I J a.i_.u_, S X a.v_.length a1, I J a.I_, S a2 a.k_.q_.length a3, S u a.k_.l_.length x, I J a.J_, S a4 a.d_.length a5, I J a.h_, I J a.A_, I J a.G_]) z z bp (bh bor F) z) <| bn z z z z bp (fun _ => kp) fun a7 => sC 0 [B a.B_, I J a.i_.t_, I J a.i_.u_, S X a.v_.length a1, I J a.I_, S a2 a.k_.q_.length a3, S u a.k_.l_.length x, I J a.J_, S a4 a.d_.length a5, I J a.h_, I J a.A_, I J a.G_] [_, _, _, _, _, _, _, _, _, _, _, _] 2 z bp z <| P <| E <| lu 11 [(0, y), (1, y), (2, y), (4, y), (5, y), (6, y), (7, y), (8, y), (9, y), (3, n), (10, n)] (Q w h [b t 107 [S k j.length l, B o], W (V e8 5) q j [S k j.length l], b a7 145 [B a.B_, I J a.i_.t_, I J a.i_.u_, S X a.v_.length a1, I J a.I_, S a2 a.k_.q_.length a3, S u a.k_.l_.length x, I J a.J_, S a4 a.d_.length a5, I J a.h_, I J a.A_, I J a.G_]]) dC (by kernel_rfl) (cr (fT (cr (oG (fT dx))))) (tk 3 z) <| C [.p, .fa 145 0 0 ln] z <| ek z (aV z) (r1 0 2 z ty4 z) <| C [.fa 145 1 1 ip, .fa 141 0 0 kx] z <| ek z (aV z) (r1 1 2 z ty3 z) <| C [.fa 145 1 1 ip, .fa 141 1 1 mw] z <| ek z (aV z) (r1 2 2 z ty3 z) <| d H fun o s H => oq z (qc z Pa (fun f e => ug f s)) (tk 3 z) <| cF (val := I J) (h1 := fun _ => z) [o, a.i_.t_, a.i_.u_] [(0, [I J o]), (1, [I J a.i_.t_]), (2, [I J a.i_.u_])] z z z z z bB ty3 z z z ⟨z, z, nl z, z, z, nl z, z, z, nl z, Y⟩ z z (fun _ => (tk 3 z)) fun o => jI <| we <| d H fun o o H => aq z yH z z z z (fun f e => cn f o (e.carve [0, 1] z z) (rdO 3 [0, 1] z e z z)) fun o f T e s => ?_
  obtain ⟨o, o, o, o, rfl, o⟩ := s
  obtain rfl := aL (i := 1) o z
  refine ⟨Q w h [_, _, _, _, _, _], e.comp [0, 1] z z o, fun _ _ => Y, ?_⟩
  refine P <| E <| CW.weak (C' := Q w h [_, _, _, _]) ?_ (ss [2, 3, 4, 5] z z)
  refine aH <| C [.p, .fa 145 2 3 fP] z <| G z (r1 3 0 z bP z) <| d H fun o o H => aq z Ka z z z z (fun f e => gK f o (e.carve [2, 3] z z) (rdB [2, 3] z z e L)) fun o f T e s => ?_
  obtain ⟨o, o, o, o, rfl, o⟩ := s
  obtain rfl := aL (i := 1) o z
  refine ⟨Q w h [_, _, _, _, _, _], e.comp [2, 3] z z o, fun _ _ => Y, ?_⟩
  refine P <| E <| CW.weak (C' := Q w h [_, _, _, _]) ?_ (ss [0, 1, 4, 5] z z)
  refine aH <| C [.p, .fa 145 3 4 lx] z <| G z (r1 4 0 z ty3 z) <| cF (val := I J) (h1 := fun _ => z) [a.I_] [(0, [I J a.I_])] z z z z z bB ty3 z z z ⟨z, z, nl z, Y⟩ z z (fun _ => kp) fun o => d H fun o o H => aq z yH z z z z (fun f e => cn f o (e.carve [2, 3] z z) (rdO 4 [2, 3] z e z z)) fun o f T e s => ?_
  obtain ⟨o, o, o, o, rfl, o⟩ := s
  obtain rfl := aL (i := 1) o z
  refine ⟨Q w h [_, _, _, _, _, _, _], e.comp [2, 3] z z o, fun _ _ => Y, ?_⟩
  refine P <| E <| CW.weak (C' := Q w h [_, _, _, _, _]) ?_ (ss [0, 1, 4, 5, 6] z z)
  refine aH <| C [.p, .fa 145 4 5 ea, .fa 143 0 0 iu] z <| G z (r1 5 0 z bP z) <| d H fun o o H => aq z Ka z z z z (fun f e => gK f o (e.carve [3, 4] z z) (rdB [3, 4] z z e M)) fun o f T e s => ?_
  obtain ⟨o, o, o, o, rfl, o⟩ := s
  obtain rfl := aL (i := 1) o z
  refine ⟨Q w h [_, _, _, _, _, _, _], e.comp [3, 4] z z o, fun _ _ => Y, ?_⟩
  refine P <| E <| CW.weak (C' := Q w h [_, _, _, _, _]) ?_ (ss [0, 1, 2, 5, 6] z z)
  refine aH <| C [.p, .fa 145 4 5 ea, .fa 143 1 1 eW] z <| G z (r1 6 0 z fw z) <| C [.lenS 34 63 eg] z <| cF (val := I J) (h1 := fun _ => z) [(a.k_.l_.length : Int)] [(0, [I J (a.k_.l_.length : Int)])] z z z z z bB ty3 z z z ⟨z, z, nl z, Y⟩ z z (fun _ => kp) fun o => d H fun a8 o H => aq z yH z z z z (fun f e => cn f o (e.carve [3, 4] z z) (rdO 5 [3, 4] z e z z)) fun o f T e s => ?_
  obtain ⟨b4, o, b5, b6, rfl, o⟩ := s
  obtain rfl := aL (i := 1) o z
  refine ⟨Q w h [_, _, _, _, _, _, _, _], e.comp [3, 4] z z o, fun _ _ => Y, ?_⟩
  refine P <| E <| E <| CW.weak (C' := Q w h [_, _, _, _, _, _]) ?_ (ss [0, 1, 2, 5, 6, 7] z z)
  refine aH <| C [.fa 145 4 5 ea, .fa 143 1 1 eW] z <| G z (r1 6 0 z fw z) <| C [.lenS 34 63 eg, .p] z <| P <| an <| CW.at (oD (fun (o : List Int) (F : Option Addr) (L : Nat) (a6 : List Nat) (M : Bool) (s : Int) => Q w h [b t 107 [S F o.length L, B M], W (V e8 5) a6 o [S F o.length L], b a7 145 [B a.B_, I J a.i_.t_, I J a.i_.u_, S X a.v_.length a1, I J a.I_, S a2 a.k_.q_.length a3, S u a.k_.l_.length x, I J a.J_, S a4 a.d_.length a5, I J a.h_, I J a.A_, I J a.G_]]) (fun o F L a6 M s => [(0, O (U ⟨t, 0, N⟩)), (5, O (U ⟨a7, 0, N⟩)), (17, S a9 p1.e_.length b0), (18, I J (p1.e_.length : Int)), (19, I J m), (58, S u a.k_.l_.length x), (59, I J (a.k_.l_.length : Int)), (60, I J s)]) (fun kk => fun o F L a6 M s => iT a (dJ p1 k1) m kk o M s = U r) nofun (fun t x o F L a6 M s H => ?_) aI (a8.U_) (b4) (b5) (b6) (a8.C_) (0) (H)) (ss [4, 5, 0] z z) (c z)
  unfold iT at H
  refine D <| A z <| P <| E <| cI H z ?_ ?_ <;> intro H
  ·refine ai <| R <| E <| an <| D <| d H fun o o H => bu z z z z z eg bP z b2 o fun o o o t => ?_
   obtain ⟨u, u, rfl⟩ := dz o
   refine G z (aT z z bP (bh bor t)) <| A z <| P <| aH <| oPP z <| d H fun t u H => aq z Ka z z z z (fun f e => gK f u (e.carve [0, 1] z z) (rdB [0, 1] z z e o)) fun o f T e u => ?_
   obtain ⟨F, o, L, M, rfl, o⟩ := u
   obtain rfl := aL (i := 1) o z
   refine ⟨Q w h [_, _, _, _, _], e.comp [0, 1] z z o, fun _ _ => Y, ?_⟩
   refine ay <| bR <| R <| CW.weak (C' := Q w h [_, _, _]) ?_ (ss [2, 3, 4] z z)
   exact aH <| oPP z <| ay <| bU (RW.at (x (t.U_) (F) (L) (M) (t.C_) (J.wrap (s + 1)) (H)) (ss [1, 2, 0] z z) (c z))
  ·refine aU <| aB <| aE <| aA <| R <| D <| C [.p, .fa 145 5 7 kw] z <| G z (r1 7 2 z ty3 z) <| cF (val := I J) (h1 := fun _ => z) [a.J_] [(0, [I J a.J_])] z z z z z bB ty3 z z z ⟨z, z, nl z, Y⟩ z z (fun _ => kp) fun o => d H fun o o H => aq z yH z z z z (fun f e => cn f o (e.carve [0, 1] z z) (rdO 3 [0, 1] z e z z)) fun o f T e s => ?_
   obtain ⟨o, o, o, o, rfl, o⟩ := s
   obtain rfl := aL (i := 1) o z
   refine ⟨Q w h [_, _, _, _, _, _], e.comp [0, 1] z z o, fun _ _ => Y, ?_⟩
   refine P <| E <| CW.weak (C' := Q w h [_, _, _, _]) ?_ (ss [2, 3, 4, 5] z z)
   refine aH <| C [.p, .fa 145 6 8 mv] z <| G z (r1 8 0 z bP z) <| d H fun o o H => aq z Ka z z z z (fun f e => gK f o (e.carve [2, 3] z z) (rdB [2, 3] z z e b3)) fun o f T e s => ?_
   obtain ⟨o, o, o, o, rfl, o⟩ := s
   obtain rfl := aL (i := 1) o z
   refine ⟨Q w h [_, _, _, _, _, _], e.comp [2, 3] z z o, fun _ _ => Y, ?_⟩
   refine P <| CW.weak (C' := Q w h [_, _, _, _]) ?_ (ss [0, 1, 4, 5] z z)
   refine aH <| C [.p, .fa 145 7 9 gC] z <| G z (r1 9 0 z ty3 z) <| C [.fa 145 8 10 iW] z <| G z (r1 10 0 z ty3 z) <| C [.fa 145 9 11 iY] z <| G z (r1 11 0 z ty3 z) <| cF (val := I J) (h1 := fun _ => z) [a.h_, a.A_, a.G_] [(0, [I J a.h_]), (1, [I J a.A_]), (2, [I J a.G_])] z z z z z bB ty3 z z z ⟨z, z, nl z, z, z, nl z, z, z, nl z, Y⟩ z z (fun _ => kp) fun a => d H fun o a H => aq z yH z z z z (fun f e => cn f a (e.carve [2, 3] z z) (rdO 4 [2, 3] z e z z)) fun a f T e f => ?_
   obtain ⟨s, a, t, u, rfl, a⟩ := f
   obtain rfl := aL (i := 1) a z
   refine ⟨Q w h [_, _, _, _, _, _, _], e.comp [2, 3] z z a, fun _ _ => Y, ?_⟩
   refine ay <| bR <| R <| CW.weak (C' := Q w h [_, _, _, _, _]) ?_ (ss [0, 1, 4, 5, 6] z z)
   exact aH <| oPP z <| ay <| bU (RW.at (b1 (o.U_) (s) (t) (u) (o.C_) (J.wrap (m + 1)) (H)) (ss [3, 4] z z) (c z))
 ·exact aU <| aB <| aE <| aA <| EC (rs := []) (vs := []) z Y (fun w' hw' => by
   obtain rfl := Z H
   exact ⟨_, z, k, j.length, l, q, z, hw'.sel [0, 1] z z⟩)
theorem pY (w) {k p0 p1 l a_0_1 n_0_1 c_0_1 F_0_1 a r} (H : ij p0 p1 = U r) (HS : Q w k [b l 107 [S a_0_1 n_0_1 c_0_1, B p0.C_], W (V e8 5) F_0_1 p0.U_ [S a_0_1 n_0_1 c_0_1]] w) (f : (cd).rd w k p1 a) :
    Calls Tryz.prog 63 #[O (U ⟨l, 0, N⟩), .agg a.toArray] w (fun en w' => ∃ v, en = .returned v ∧ ∃ a e c0 h, v = .tuple #[] ∧ Q w k [b l 107 [S a e c0, B r.C_], W (V e8 5) h r.U_ [S a e c0]] w') := by
 obtain rfl := aL (i := 1) HS z
 obtain ⟨t, u, rfl, x⟩ := gb f
 unfold ij at H
 refine ar Tryz.func63 z Tryz.ntmps63 z (HS) <| D <| ob _ z fun a => nR <| C [.p, .fa 71 0 0 kF] z <| G z (r1 0 2 z fw z) <| C [.lenS 34 63 eg] z <| cF (val := I J) (h1 := fun _ => z) [(p1.p_.length : Int)] [(0, [I J (p1.p_.length : Int)])] z z z z z bB ty3 z z z ⟨z, z, nl z, Y⟩ z z (fun _ => kp) fun a => d H fun s e H => aq z yH z z z z (fun q a => cn q e (a.carve [0, 1] z z) (rdO 3 [0, 1] z a z z)) fun e q T a f => ?_
 obtain ⟨F, e, L, M, rfl, e⟩ := f
 obtain rfl := aL (i := 1) e z
 refine ⟨Q w k [_, _, _, _, _, _], a.comp [0, 1] z z e, fun _ _ => Y, ?_⟩
 refine P <| E <| CW.weak (C' := Q w k [_, _, _, _]) ?_ (ss [2, 3, 4, 5] z z)
 refine aH <| C [.fa 71 0 0 kF] z <| G z (r1 0 0 z fw z) <| C [.lenS 34 63 eg, .p] z <| P <| an <| CW.at (oD (fun (e : List Int) (f : Option Addr) (h : Nat) (m : List Nat) (o : Bool) (j : Int) => Q w k [b l 107 [S f e.length h, B o], W (V e8 5) m e [S f e.length h]]) (fun e f h m o j => [(0, O (U ⟨l, 0, N⟩)), (13, S t p1.p_.length u), (14, I J (p1.p_.length : Int)), (15, I J j)]) (fun kk => fun e f h m o j => gX p1 kk e o j = U r) nofun (fun l t e f h m o j H => ?_) aI (s.U_) (F) (L) (M) (s.C_) (0) (H)) (ss [2, 3] z z) (c z)
 unfold gX at H
 refine D <| A z <| P <| E <| cI H z ?_ ?_ <;> intro H
 ·refine ai <| R <| E <| an <| D <| d H fun l l H => bu z z z z z eg bP z x l fun l l l o => ?_
  obtain ⟨s, s, rfl⟩ := dz l
  refine G z (aT z z bP (bh bor o)) <| A z <| P <| aH <| oPP z <| d H fun o s H => aq z Ka z z z z (fun q a => gK q s (a.carve [0, 1] z z) (rdB [0, 1] z z a l)) fun l q T a q => ?_
  obtain ⟨s, l, u, x, rfl, l⟩ := q
  obtain rfl := aL (i := 1) l z
  refine ⟨Q w k [_, _, _, _], a.comp [0, 1] z z l, fun _ _ => Y, ?_⟩
  refine ay <| bR <| R <| CW.weak (C' := Q w k [_, _]) ?_ (ss [2, 3] z z)
  exact aH <| oPP z <| ay <| bU (RW.at (t (o.U_) (s) (u) (x) (o.C_) (J.wrap (j + 1)) (H)) (ss [0, 1] z z) (c z))
 ·exact aU <| aB <| aE <| aA <| EC (rs := []) (vs := []) z Y (fun w' hw' => by
   obtain rfl := Z H
   exact ⟨_, z, f, e.length, h, m, z, hw'.sel [0, 1] z z⟩)
theorem wJ (w) {k p0 a r} (H : fi p0 = U r) (HS : Q w k [] w) (l : (iv).rd w k p0 a) (gT : (eGl Tryz.prog).rd w k () []) :
    Calls Tryz.prog 19 #[.agg a.toArray] w (fun en w' => ∃ v, en = .returned v ∧ ∃ a f c0 m, v = S a f c0 ∧ Q w k [W (V e8 5) m r [S a f c0]] w') := by
 obtain ⟨x, F, L, M, a7, a8, a9, b0, b1, b2, rfl, s, u, a2, c1, b3⟩ := iM l
 unfold fi at H
 refine ar Tryz.func19 z Tryz.ntmps19 z (HS) <| D <| ob _ z fun a5 => A z <| P <| E <| D <| G z (rx 0 0 _ z cA z) <| bq H SC (fun _ l f a => AP f l (dt (bx (aw (g s f a) (g u f a)) z z z z z z) (ch (g a2 f a)) (ct (g c1 f a) (g b3 f a)))) z tt2 fun l H => A z <| P <| cI H z ?_ ?_ <;> intro H
 ·exact D <| A z <| nT <| aS <| aP (fun _ h => St.pushNil (e := e8) (T := 5) h) <| Z H ▸ xo z fun w' hw' => ⟨_, z, N, 0, 0, [], z, hw'.sel [1] z z⟩
 ·refine ai <| R <| D <| C [.fa 39 0 0 gW] z <| G z (rx 0 0 _ z uM z) <| bn z z z z uM (fun _ => kp) fun a1 => sC 0 [S x p0.a_.g_.d_.length F, S L p0.a_.g_.f_.length M, I J p0.a_.b_.L_, I J p0.a_.b_.N_, I J p0.a_.b_.M_, I J p0.a_.b_.h_, I J p0.a_.b_.e_, I J p0.a_.b_.E_, B p0.a_.b_.Q_, I J p0.a_.j_, I J p0.a_.O_, I J p0.a_.P_, I J p0.a_.r_, I J p0.a_.s_] [_, _, _, _, _, _, _, _, _, _, _, _, _, _] 1 z uM z <| nR <| cF (val := I K) (h1 := fun _ => z) [83, 80, 78] [(0, [I K 83]), (1, [I K 80]), (2, [I K 78])] z z z z z cC ty5 z z z ⟨z, z, nl z, z, z, nl z, z, z, nl z, Y⟩ z z (fun _ => kp) fun l => Ng (r := 2) z z z z z cC in5 z kp <| cF (val := I K) (h1 := fun _ => z) [1] [(0, [I K 1])] z z z z z cC ty5 z z z ⟨z, z, nl z, Y⟩ z z (fun _ => kp) fun l => d H fun m t H => cq (r := 2) (ys := ([1] : List Int)) z z z z z z cC ty5 z z z (av (e := V e8 5) (r := 3) z) t (fun _ _ _ => kp) fun o q X => eF z (fun f a => kK (i := 2) a z (kC t)) fun t => G z (bv [(0, [S o m.length q])] [S o m.length q, B n] z z RN Qn z ⟨z, z, nl z, Y⟩ z) <| ob _ z fun t => A z <| P <| E <| lu 10 [(0, y), (1, y), (2, y), (3, y), (4, y), (5, y), (6, y), (7, n), (8, n), (9, n)] (Q w k [b a5 39 [S x p0.a_.g_.d_.length F, S L p0.a_.g_.f_.length M, I J p0.a_.b_.L_, I J p0.a_.b_.N_, I J p0.a_.b_.M_, I J p0.a_.b_.h_, I J p0.a_.b_.e_, I J p0.a_.b_.E_, B p0.a_.b_.Q_, I J p0.a_.j_, I J p0.a_.O_, I J p0.a_.P_, I J p0.a_.r_, I J p0.a_.s_, S a7 p0.z_.j_.length a8, S a9 p0.m_.o_.length b0, S b1 p0.m_.n_.length b2], b a1 30 [S x p0.a_.g_.d_.length F, S L p0.a_.g_.f_.length M, I J p0.a_.b_.L_, I J p0.a_.b_.N_, I J p0.a_.b_.M_, I J p0.a_.b_.h_, I J p0.a_.b_.e_, I J p0.a_.b_.E_, B p0.a_.b_.Q_, I J p0.a_.j_, I J p0.a_.O_, I J p0.a_.P_, I J p0.a_.r_, I J p0.a_.s_], Res.nil, W (V e8 5) [l] ([1] : List Int) [S (U ⟨l, 0, N⟩) (([1] : List Int).length) 1], b t 107 [S o m.length q, B n]]) dC (by kernel_rfl) (cr dx) (sm [y, y, n, y, y] z) <| C [.p, .p, .p, .fa 107 0 0 vN] z <| ek z (aV z) (r1 0 4 z GK z) <| C [.fa 30 0 0 mr] z <| ek z (aV z) (rx 0 1 _ z el z) <| d H fun m m H => oq z (qc z SU (fun f a => xf f m (aw (g s f a) (g u f a)) (g gT f a))) (sm [y, y, n, y, y] z) <| d H fun o m H => aq z Tp z z z z (fun f a => AD f m (a.carve [] z z)) fun m f X a q => ?_
  obtain ⟨u, m, a3, a4, rfl, m⟩ := q
  obtain rfl := aL (i := 0) m z
  refine ⟨Q w k [_, _, _, _, _, _], a.comp [] z z m, (sm [y, y, n, y, y] z), ?_⟩
  refine d H fun m q H => cq (r := 2) (ys := o) z z z z z z cC ty5 z z z (av (e := V e8 5) (r := 5) z) q (fun _ _ _ => (sm [y, y, n, y, y] z)) fun q s a6 => jI <| we <| C [.p, .fa 107 0 0 vN] z <| sC 0 [S q m.length s] [_, _] 4 z GK z <| nR <| C [.fa 30 1 2 rK] z <| G z (rx 2 1 _ z uX z) <| bn z z z z uX (fun _ => kp) fun b4 => sC 0 [I J p0.a_.b_.L_, I J p0.a_.b_.N_, I J p0.a_.b_.M_, I J p0.a_.b_.h_, I J p0.a_.b_.e_, I J p0.a_.b_.E_, B p0.a_.b_.Q_] [_, _, _, _, _, _, _] 6 z uX z <| P <| E <| lu 17 [(0, y), (1, y), (2, y), (3, y), (4, y), (5, y), (6, y), (7, y), (8, y), (9, y), (10, y), (11, y), (12, y), (13, y), (14, y), (15, n), (16, n)] (Q w k [b a5 39 [S x p0.a_.g_.d_.length F, S L p0.a_.g_.f_.length M, I J p0.a_.b_.L_, I J p0.a_.b_.N_, I J p0.a_.b_.M_, I J p0.a_.b_.h_, I J p0.a_.b_.e_, I J p0.a_.b_.E_, B p0.a_.b_.Q_, I J p0.a_.j_, I J p0.a_.O_, I J p0.a_.P_, I J p0.a_.r_, I J p0.a_.s_, S a7 p0.z_.j_.length a8, S a9 p0.m_.o_.length b0, S b1 p0.m_.n_.length b2], b a1 30 [S x p0.a_.g_.d_.length F, S L p0.a_.g_.f_.length M, I J p0.a_.b_.L_, I J p0.a_.b_.N_, I J p0.a_.b_.M_, I J p0.a_.b_.h_, I J p0.a_.b_.e_, I J p0.a_.b_.E_, B p0.a_.b_.Q_, I J p0.a_.j_, I J p0.a_.O_, I J p0.a_.P_, I J p0.a_.r_, I J p0.a_.s_], W (V e8 5) a6 m [S q m.length s], W (V e8 5) [l] ([1] : List Int) [S (U ⟨l, 0, N⟩) (([1] : List Int).length) 1], b t 107 [S q m.length s, B n], W (V e8 5) a4 o [S u o.length a3], b b4 28 [I J p0.a_.b_.L_, I J p0.a_.b_.N_, I J p0.a_.b_.M_, I J p0.a_.b_.h_, I J p0.a_.b_.e_, I J p0.a_.b_.E_, B p0.a_.b_.Q_]]) dC (by kernel_rfl) (cr dx) (tk 7 z) <| C [.p, .fa 28 0 0 xi] z <| ek z (aV z) (r1 0 6 z ty3 z) <| C [.fa 28 1 1 wX] z <| ek z (aV z) (r1 1 6 z ty3 z) <| C [.fa 28 2 2 wC] z <| ek z (aV z) (r1 2 6 z ty3 z) <| C [.fa 28 3 3 un] z <| ek z (aV z) (r1 3 6 z ty3 z) <| C [.fa 28 4 4 ut] z <| ek z (aV z) (r1 4 6 z ty3 z) <| C [.fa 28 5 5 ul] z <| ek z (aV z) (r1 5 6 z ty3 z) <| C [.fa 28 6 6 CC] z <| ek z (aV z) (r1 6 6 z ty4 z) <| d H fun l m H => oq z (qc z Pa (fun f a => ug f m)) (tk 7 z) <| cF (val := I J) (h1 := fun _ => z) [p0.a_.b_.L_, p0.a_.b_.N_, p0.a_.b_.M_, p0.a_.b_.h_, p0.a_.b_.e_, p0.a_.b_.E_, l] [(0, [I J p0.a_.b_.L_]), (1, [I J p0.a_.b_.N_]), (2, [I J p0.a_.b_.M_]), (3, [I J p0.a_.b_.h_]), (4, [I J p0.a_.b_.e_]), (5, [I J p0.a_.b_.E_]), (6, [I J l])] z z z z z bB ty3 z z z ⟨z, z, nl z, z, z, nl z, z, z, nl z, z, z, nl z, z, z, nl z, z, z, nl z, z, z, nl z, Y⟩ z z (fun _ => (tk 7 z)) fun l => jI <| we <| d H fun l l H => aq z yH z z z z (fun f a => cn f l (a.carve [4, 2] z z) (rdO 7 [4, 2] z a z z)) fun l f X a m => ?_
  obtain ⟨l, l, l, l, rfl, l⟩ := m
  obtain rfl := aL (i := 1) l z
  refine ⟨Q w k [_, _, _, _, _, _, _, _, _, _], a.comp [4, 2] z z l, fun _ _ => Y, ?_⟩
  refine P <| E <| CW.weak (C' := Q w k [_, _, _, _, _, _, _, _]) ?_ (ss [0, 1, 3, 5, 6, 7, 8, 9] z z)
  refine aH <| C [.p, .fa 30 2 9 rV] z <| G z (r1 9 1 z ty3 z) <| C [.fa 30 3 10 wF] z <| G z (r1 10 1 z ty3 z) <| C [.fa 30 4 11 xh] z <| G z (r1 11 1 z ty3 z) <| C [.fa 30 5 12 ua] z <| G z (r1 12 1 z ty3 z) <| C [.fa 30 6 13 us] z <| G z (r1 13 1 z ty3 z) <| cF (val := I J) (h1 := fun _ => z) [p0.a_.j_, p0.a_.O_, p0.a_.P_, p0.a_.r_, p0.a_.s_] [(0, [I J p0.a_.j_]), (1, [I J p0.a_.O_]), (2, [I J p0.a_.P_]), (3, [I J p0.a_.r_]), (4, [I J p0.a_.s_])] z z z z z bB ty3 z z z ⟨z, z, nl z, z, z, nl z, z, z, nl z, z, z, nl z, z, z, nl z, Y⟩ z z (fun _ => kp) fun l => d H fun a3 l H => aq z yH z z z z (fun f a => cn f l (a.carve [6, 7] z z) (rdO 8 [6, 7] z a z z)) fun l f X a m => ?_
  obtain ⟨a4, l, a6, b4, rfl, l⟩ := m
  obtain rfl := aL (i := 1) l z
  refine ⟨Q w k [_, _, _, _, _, _, _, _, _, _, _], a.comp [6, 7] z z l, fun _ _ => Y, ?_⟩
  refine P <| E <| E <| CW.weak (C' := Q w k [_, _, _, _, _, _, _, _, _]) ?_ (ss [0, 1, 2, 3, 4, 5, 8, 9, 10] z z)
  refine aH <| C [.fa 39 1 14 qi, .fa 33 0 0 nK] z <| G z (r1 14 0 z wi z) <| C [.lenS 31 75 mU, .p] z <| P <| an <| CW.at (oD (fun (m : List Int) (o : Option Addr) (q : Nat) (a1 : List Nat) (s : Bool) (u : Int) => Q w k [b a5 39 [S x p0.a_.g_.d_.length F, S L p0.a_.g_.f_.length M, I J p0.a_.b_.L_, I J p0.a_.b_.N_, I J p0.a_.b_.M_, I J p0.a_.b_.h_, I J p0.a_.b_.e_, I J p0.a_.b_.E_, B p0.a_.b_.Q_, I J p0.a_.j_, I J p0.a_.O_, I J p0.a_.P_, I J p0.a_.r_, I J p0.a_.s_, S a7 p0.z_.j_.length a8, S a9 p0.m_.o_.length b0, S b1 p0.m_.n_.length b2], b t 107 [S o m.length q, B s], W (V e8 5) a1 m [S o m.length q]]) (fun m o q a1 s u => [(1, O (U ⟨a5, 0, N⟩)), (4, O (U ⟨t, 0, N⟩)), (70, S a7 p0.z_.j_.length a8), (71, I J (p0.z_.j_.length : Int)), (72, I J u)]) (fun kk => fun m o q a1 s u => fV p0 kk m s u = U r) nofun (fun l c2 m o q a1 s u H => ?_) aI (a3.U_) (a4) (a6) (b4) (a3.C_) (0) (H)) (ss [0, 7, 8] z z) (c z)
  unfold fV at H
  refine D <| A z <| P <| E <| cI H z ?_ ?_ <;> intro H
  ·refine ai <| R <| E <| an <| D <| d H fun l a3 H => bu z z z z z mU fO z a2 a3 fun a2 a2 b8 b9 => ?_
   obtain ⟨a2, a3, a4, a6, b4, b5, b6, b7, rfl, c3, c4, c5, c6⟩ := cg b8
   refine G z (cT (cs := [S a2 l.H_.e_.length a3, I J l.H_.y_, B l.T_, S a4 l.w_.e_.length a6, I J l.w_.y_, S b4 l.K_.r_.p_.length b5, S b6 l.K_.s_.p_.length b7]) z z fO (bh bor b9) z) <| bn z z z z fO (fun _ => kp) fun b8 => sC 0 [S a2 l.H_.e_.length a3, I J l.H_.y_, B l.T_, S a4 l.w_.e_.length a6, I J l.w_.y_, S b4 l.K_.r_.p_.length b5, S b6 l.K_.s_.p_.length b7] [_, _, _, _, _, _, _] 3 z fO z <| nR <| C [.p, .fa 75 0 0 tl] z <| G z (rx 0 3 _ z jb z) <| d H fun l l H => aq z QM z z z z (fun f a => qX f l (a.carve [1, 2] z z) (bg (rdB [1, 2] z z a c3) z)) fun l f X a a2 => ?_
   obtain ⟨l, l, l, l, rfl, l⟩ := a2
   obtain rfl := aL (i := 1) l z
   refine ⟨Q w k [_, _, _, _, _, _], a.comp [1, 2] z z l, fun _ _ => Y, ?_⟩
   refine P <| E <| CW.weak (C' := Q w k [_, _, _, _]) ?_ (ss [0, 3, 4, 5] z z)
   refine aH <| C [.p, .fa 75 1 2 uc] z <| G z (r1 2 1 z ty4 z) <| bq H Pa (fun _ l f a => ug f l) z tt2 fun l H => cF (val := I J) (h1 := fun _ => z) [l] [(0, [I J l])] z z z z z bB ty3 z z z ⟨z, z, nl z, Y⟩ z z (fun _ => kp) fun l => d H fun l l H => aq z yH z z z z (fun f a => cn f l (a.carve [2, 3] z z) (rdO 4 [2, 3] z a z z)) fun l f X a a2 => ?_
   obtain ⟨l, l, l, l, rfl, l⟩ := a2
   obtain rfl := aL (i := 1) l z
   refine ⟨Q w k [_, _, _, _, _, _, _], a.comp [2, 3] z z l, fun _ _ => Y, ?_⟩
   refine P <| E <| CW.weak (C' := Q w k [_, _, _, _, _]) ?_ (ss [0, 1, 4, 5, 6] z z)
   refine aH <| C [.p, .fa 75 2 3 pG] z <| G z (rx 3 1 _ z jb z) <| d H fun l l H => aq z QM z z z z (fun f a => qX f l (a.carve [3, 4] z z) (bg (rdB [3, 4] z z a c4) z)) fun l f X a a2 => ?_
   obtain ⟨l, l, l, l, rfl, l⟩ := a2
   obtain rfl := aL (i := 1) l z
   refine ⟨Q w k [_, _, _, _, _, _, _], a.comp [3, 4] z z l, fun _ _ => Y, ?_⟩
   refine P <| E <| CW.weak (C' := Q w k [_, _, _, _, _]) ?_ (ss [0, 1, 2, 5, 6] z z)
   refine aH <| C [.p, .fa 75 3 5 pA, .fa 73 0 0 uj] z <| G z (rx 5 1 _ z nz z) <| d H fun l l H => aq z QJ z z z z (fun f a => pY f l (a.carve [3, 4] z z) (bf (rdB [3, 4] z z a c5))) fun l f X a a2 => ?_
   obtain ⟨l, l, l, l, rfl, l⟩ := a2
   obtain rfl := aL (i := 1) l z
   refine ⟨Q w k [_, _, _, _, _, _, _], a.comp [3, 4] z z l, fun _ _ => Y, ?_⟩
   refine P <| CW.weak (C' := Q w k [_, _, _, _, _]) ?_ (ss [0, 1, 2, 5, 6] z z)
   refine aH <| C [.p, .fa 75 3 5 pA, .fa 73 1 1 uk] z <| G z (rx 6 1 _ z nz z) <| d H fun a2 l H => aq z QJ z z z z (fun f a => pY f l (a.carve [3, 4] z z) (bf (rdB [3, 4] z z a c6))) fun l f X a a3 => ?_
   obtain ⟨a4, l, a6, b4, rfl, l⟩ := a3
   obtain rfl := aL (i := 1) l z
   refine ⟨Q w k [_, _, _, _, _, _, _], a.comp [3, 4] z z l, fun _ _ => Y, ?_⟩
   refine ay <| bR <| R <| CW.weak (C' := Q w k [_, _, _, _, _]) ?_ (ss [0, 1, 2, 5, 6] z z)
   exact aH <| oPP z <| ay <| bU (RW.at (c2 (a2.U_) (a4) (a6) (b4) (a2.C_) (J.wrap (u + 1)) (H)) (ss [0, 3, 4] z z) (c z))
  ·refine aU <| aB <| aE <| aA <| R <| E <| D <| C [.fa 39 2 15 jD, .fa 37 0 0 kQ] z <| G z (r1 15 0 z fw z) <| C [.lenS 34 63 eg, .p] z <| P <| an <| CW.at (oD (fun (u : Int) (l : List Int) (a2 : Option Addr) (a3 : Nat) (a6 : List Nat) (a4 : Bool) => Q w k [b a5 39 [S x p0.a_.g_.d_.length F, S L p0.a_.g_.f_.length M, I J p0.a_.b_.L_, I J p0.a_.b_.N_, I J p0.a_.b_.M_, I J p0.a_.b_.h_, I J p0.a_.b_.e_, I J p0.a_.b_.E_, B p0.a_.b_.Q_, I J p0.a_.j_, I J p0.a_.O_, I J p0.a_.P_, I J p0.a_.r_, I J p0.a_.s_, S a7 p0.z_.j_.length a8, S a9 p0.m_.o_.length b0, S b1 p0.m_.n_.length b2], b t 107 [S a2 l.length a3, B a4], W (V e8 5) a6 l [S a2 l.length a3]]) (fun u l a2 a3 a6 a4 => [(1, O (U ⟨a5, 0, N⟩)), (4, O (U ⟨t, 0, N⟩)), (103, S a9 p0.m_.o_.length b0), (104, I J (p0.m_.o_.length : Int)), (105, I J u)]) (fun kk => fun u l a2 a3 a6 a4 => eY p0 kk u l a4 = U r) nofun (fun x x u l a2 a3 a6 a4 H => ?_) aI (0) (m) (o) (q) (a1) (s) (H)) (ss [0, 1, 2] z z) (c z)
   unfold eY at H
   refine D <| A z <| P <| E <| cI H z ?_ ?_ <;> intro H
   ·refine ai <| R <| E <| an <| D <| d H fun l l H => bu z z z z z eg bP z c1 l fun l l l m => ?_
    obtain ⟨o, o, rfl⟩ := dz l
    refine G z (aT z z bP (bh bor m)) <| A z <| P <| aH <| oPP z <| d H fun m o H => aq z Ka z z z z (fun f a => gK f o (a.carve [1, 2] z z) (rdB [1, 2] z z a l)) fun l f X a o => ?_
    obtain ⟨q, l, s, F, rfl, l⟩ := o
    obtain rfl := aL (i := 1) l z
    refine ⟨Q w k [_, _, _, _, _], a.comp [1, 2] z z l, fun _ _ => Y, ?_⟩
    refine ay <| bR <| R <| CW.weak (C' := Q w k [_, _, _]) ?_ (ss [0, 3, 4] z z)
    exact aH <| oPP z <| ay <| bU (RW.at (x (J.wrap (u + 1)) (m.U_) (q) (s) (F) (m.C_) (H)) (ss [0, 1, 2] z z) (c z))
   ·refine aU <| aB <| aE <| aA <| R <| D <| C [.p, .fa 39 2 15 jD, .fa 37 1 1 kq] z <| G z (r1 16 0 z tt z) <| C [.lenS 35 83 nO] z <| cF (val := I J) (h1 := fun _ => z) [(p0.m_.n_.length : Int)] [(0, [I J (p0.m_.n_.length : Int)])] z z z z z bB ty3 z z z ⟨z, z, nl z, Y⟩ z z (fun _ => kp) fun l => d H fun m l H => aq z yH z z z z (fun f a => cn f l (a.carve [1, 2] z z) (rdO 3 [1, 2] z a z z)) fun l f X a o => ?_
    obtain ⟨F, l, L, M, rfl, l⟩ := o
    obtain rfl := aL (i := 1) l z
    refine ⟨Q w k [_, _, _, _, _, _], a.comp [1, 2] z z l, fun _ _ => Y, ?_⟩
    refine P <| E <| E <| CW.weak (C' := Q w k [_, _, _, _]) ?_ (ss [0, 3, 4, 5] z z)
    refine aH <| C [.fa 39 2 15 jD, .fa 37 1 1 kq] z <| G z (r1 16 0 z tt z) <| C [.lenS 35 83 nO, .p] z <| P <| an <| CW.at (oD (fun (o : Int) (l : List Int) (q : Option Addr) (s : Nat) (x : List Nat) (u : Bool) => Q w k [b t 107 [S q l.length s, B u], W (V e8 5) x l [S q l.length s]]) (fun o l q s x u => [(4, O (U ⟨t, 0, N⟩)), (122, S b1 p0.m_.n_.length b2), (123, I J (p0.m_.n_.length : Int)), (124, I J o)]) (fun kk => fun o l q s x u => fW p0 kk o l u = U r) nofun (fun k3 a1 o l q s x u H => ?_) aI (0) (m.U_) (F) (L) (M) (m.C_) (H)) (ss [2, 3] z z) (c z)
    unfold fW at H
    refine D <| A z <| P <| E <| cI H z ?_ ?_ <;> intro H
    ·refine ai <| R <| E <| an <| D <| d H fun m F H => fb (e := aK) (xs := p0.m_.n_) (j := o) z z z z z nO nG z (g b3) F z <| G z (cT (cs := [I J m.R_, I J m.S_]) z z nG (lJ (nk (g b3) F (fun _ _ h => h)) z) z) <| bn z z z z nG (fun _ => kp) fun F => sC 0 [I J m.R_, I J m.S_] [_, _] 2 z nG z <| P <| aH <| C [.p, .fa 83 0 0 tf] z <| G z (r1 0 2 z ty3 z) <| C [.fa 83 1 1 rN] z <| G z (r1 1 2 z ty3 z) <| cF (val := I J) (h1 := fun _ => z) [m.R_, m.S_] [(0, [I J m.R_]), (1, [I J m.S_])] z z z z z bB ty3 z z z ⟨z, z, nl z, z, z, nl z, Y⟩ z z (fun _ => kp) fun m => d H fun F m H => aq z yH z z z z (fun f a => cn f m (a.carve [0, 1] z z) (rdO 3 [0, 1] z a z z)) fun m f X a L => ?_
     obtain ⟨M, m, a2, a3, rfl, m⟩ := L
     obtain rfl := aL (i := 1) m z
     refine ⟨Q w k [_, _, _, _, _, _], a.comp [0, 1] z z m, fun _ _ => Y, ?_⟩
     refine ay <| bR <| R <| CW.weak (C' := Q w k [_, _, _, _]) ?_ (ss [2, 3, 4, 5] z z)
     exact aH <| oPP z <| ay <| bU (RW.at (a1 (J.wrap (o + 1)) (F.U_) (M) (a2) (a3) (F.C_) (H)) (ss [2, 3] z z) (c z))
    ·refine aU <| aB <| aE <| aA <| R <| E <| lu 9 [(0, y), (1, y), (2, y), (3, y), (4, y), (5, y), (6, y), (7, y), (8, n)] (Q w k [b t 107 [S q l.length s, B u], W (V e8 5) x l [S q l.length s]]) dC (by kernel_rfl) (cr dx) (tk 2 z) <| C [.p, .p, .fa 107 0 0 vN] z <| ek z (aV z) (r1 0 0 z GK z) <| C [.p, .p, .fa 107 0 0 vN] z <| ek z (aV z) (r1 0 0 z GK z) <| d H fun m l H => aq z Rj z z z z (fun f a => tJ f l (a.carve [] z z) (av (e := V e8 5) (r := 1) z f a)) fun l f X a l => ?_
     obtain ⟨f, f, f, f, rfl, f⟩ := l
     obtain rfl := aL (i := 0) f z
     refine ⟨Q w k [_, _, _], a.comp [] z z f, (tk 2 z), ?_⟩
     exact jI <| we <| d H fun a f H => cq (r := 1) (ys := m) z z z z z z cC ty5 z z z (av (e := V e8 5) (r := 2) z) f (fun _ _ _ => kp) fun f k l => A z <| nT <| Z H ▸ xo z fun w' hw' => ⟨_, z, f, a.length, k, l, z, hw'.sel [1] z z⟩
theorem uB (w) {k p0 a6 a a7 r} (H : kf p0 = U r) (HS : Q w k [] w) (g0 : (V e8 5).rd w k p0 [S a6 a a7]) (gT : (eGl Tryz.prog).rd w k () []) :
    Calls Tryz.prog 6 #[S a6 a a7] w (fun en w' => ∃ v, en = .returned v ∧ ∃ a f c0 F j l c1 L m o c2 M q s c3 X t u c4 F4, v = .tuple #[.agg #[S a f c0, S j l c1, I J r.1.a_.b_.L_, I J r.1.a_.b_.N_, I J r.1.a_.b_.M_, I J r.1.a_.b_.h_, I J r.1.a_.b_.e_, I J r.1.a_.b_.E_, B r.1.a_.b_.Q_, I J r.1.a_.j_, I J r.1.a_.O_, I J r.1.a_.P_, I J r.1.a_.r_, I J r.1.a_.s_, S m o c2, S q s c3, S t u c4], I J r.2] ∧ Q w k [W (V (aD) 123) F r.1.a_.g_.d_ [S a f c0], W (V (bC) 9) L r.1.a_.g_.f_ [S j l c1], W (V (aF) 75) M r.1.z_.j_ [S m o c2], W (V (V eI 3) 63) X r.1.m_.o_ [S q s c3], W (V (aK) 83) F4 r.1.m_.n_ [S t u c4]] w') := by
 obtain rfl := dc g0
 unfold kf at H
 refine ar Tryz.func6 z Tryz.ntmps6 z (HS) <| D <| bn z z z z cA (fun _ => kp) fun a8 => A z <| P <| E <| an <| D <| C [.p, .lenS 22 5 cC, .p, .p] z <| P <| cI H z ?_ ?_ <;> intro H
 ·exact D <| G z (bv [] [S N 0 0, S N 0 0, I J 0, I J 0, I J 0, I J 0, I J 0, I J 0, B n, I J 0, I J 0, I J 0, I J 0, I J 0, S N 0 0, S N 0 0, S N 0 0] z z cA Ap z Y z) <| sC 0 [S N 0 0, S N 0 0, I J 0, I J 0, I J 0, I J 0, I J 0, I J 0, B n, I J 0, I J 0, I J 0, I J 0, I J 0, S N 0 0, S N 0 0, S N 0 0] [_, _, _, _, _, _, _, _, _, _, _, _, _, _, _, _, _] 0 z cA z <| A z <| nT <| cR <| aS <| aP (fun _ h => St.pushNil (e := aD) (T := 123) h) <| aP (fun _ h => St.pushNil (e := bC) (T := 9) h) <| aP (fun _ h => St.pushNil (e := aF) (T := 75) h) <| aP (fun _ h => St.pushNil (e := V eI 3) (T := 63) h) <| aP (fun _ h => St.pushNil (e := aK) (T := 83) h) <| Z H ▸ xc 0 cA z fun w' hw' => ⟨_, z, N, 0, 0, [], N, 0, 0, [], N, 0, 0, [], N, 0, 0, [], N, 0, 0, [], z, hw'.sel [1, 2, 3, 4, 5] z z⟩
 ·refine D <| A z <| d H fun f a H => qq z z z z cC ty5 z z z a g0 fun a a => ?_
  obtain ⟨j, l, rfl⟩ := wy a
  have a : (V e8 5).rd w k f [S j f.length l] := a
  refine G z (rI (xs := f) z z cC in5 st9 (g a)) <| oPP z <| P <| cI H z ?_ ?_ <;> intro H
  ·exact D <| G z (bv [] [S N 0 0, S N 0 0, I J 0, I J 0, I J 0, I J 0, I J 0, I J 0, B n, I J 0, I J 0, I J 0, I J 0, I J 0, S N 0 0, S N 0 0, S N 0 0] z z cA Ap z Y z) <| sC 0 [S N 0 0, S N 0 0, I J 0, I J 0, I J 0, I J 0, I J 0, I J 0, B n, I J 0, I J 0, I J 0, I J 0, I J 0, S N 0 0, S N 0 0, S N 0 0] [_, _, _, _, _, _, _, _, _, _, _, _, _, _, _, _, _] 0 z cA z <| A z <| nT <| cR <| aS <| aP (fun _ h => St.pushNil (e := aD) (T := 123) h) <| aP (fun _ h => St.pushNil (e := bC) (T := 9) h) <| aP (fun _ h => St.pushNil (e := aF) (T := 75) h) <| aP (fun _ h => St.pushNil (e := V eI 3) (T := 63) h) <| aP (fun _ h => St.pushNil (e := aK) (T := 83) h) <| Z H ▸ xc 0 cA z fun w' hw' => ⟨_, z, N, 0, 0, [], N, 0, 0, [], N, 0, 0, [], N, 0, 0, [], N, 0, 0, [], z, hw'.sel [1, 2, 3, 4, 5] z z⟩
  ·refine D <| A z <| d H fun a a H => ix1 cC ty5 (g g0) a z z <| oPP z <| P <| cI H z ?_ ?_ <;> intro H
   ·exact D <| G z (bv [] [S N 0 0, S N 0 0, I J 0, I J 0, I J 0, I J 0, I J 0, I J 0, B n, I J 0, I J 0, I J 0, I J 0, I J 0, S N 0 0, S N 0 0, S N 0 0] z z cA Ap z Y z) <| sC 0 [S N 0 0, S N 0 0, I J 0, I J 0, I J 0, I J 0, I J 0, I J 0, B n, I J 0, I J 0, I J 0, I J 0, I J 0, S N 0 0, S N 0 0, S N 0 0] [_, _, _, _, _, _, _, _, _, _, _, _, _, _, _, _, _] 0 z cA z <| A z <| nT <| cR <| aS <| aP (fun _ h => St.pushNil (e := aD) (T := 123) h) <| aP (fun _ h => St.pushNil (e := bC) (T := 9) h) <| aP (fun _ h => St.pushNil (e := aF) (T := 75) h) <| aP (fun _ h => St.pushNil (e := V eI 3) (T := 63) h) <| aP (fun _ h => St.pushNil (e := aK) (T := 83) h) <| Z H ▸ xc 0 cA z fun w' hw' => ⟨_, z, N, 0, 0, [], N, 0, 0, [], N, 0, 0, [], N, 0, 0, [], N, 0, 0, [], z, hw'.sel [1, 2, 3, 4, 5] z z⟩
   ·refine E <| lu 11 [(0, y), (1, y), (2, y), (3, y), (4, y), (5, y), (6, y), (7, y), (8, y), (9, y), (10, n)] (Q w k [b a8 39 [S N 0 0, S N 0 0, I J 0, I J 0, I J 0, I J 0, I J 0, I J 0, B n, I J 0, I J 0, I J 0, I J 0, I J 0, S N 0 0, S N 0 0, S N 0 0]]) dC (by kernel_rfl) (cr (fT (cr dx))) (tk 1 z) <| C [.p, .p, .lenS 22 5 cC, .p] z <| d H fun f a H => qq z z z z cC ty5 z z z a g0 fun a a => ?_
    obtain ⟨j, l, rfl⟩ := wy a
    have a : (V e8 5).rd w k f [S j f.length l] := a
    refine C [.p, .p, .lenS 22 5 cC, .p] z <| d H fun f j H => qq z z z z cC ty5 z z z j g0 fun j l => ?_
    obtain ⟨j, m, rfl⟩ := wy l
    have l : (V e8 5).rd w k f [S j f.length m] := l
    refine d H fun f m H => aq z Rj z z z z (fun j f => tJ j m (f.carve [] z z) (g l j f)) fun l j w2 f m => ?_
    obtain ⟨l, l, l, l, rfl, l⟩ := m
    obtain rfl := aL (i := 0) l z
    refine ⟨Q w k [_, _], f.comp [] z z l, (tk 1 z), ?_⟩
    refine jI <| we <| bq H Qh (fun _ l j f => sn j l (g a j f) (av (e := V e8 5) (r := 1) z j f)) z tt2 fun a H => oPP z <| P <| cI H z ?_ ?_ <;> intro H
    ·exact D <| G z (bv [] [S N 0 0, S N 0 0, I J 0, I J 0, I J 0, I J 0, I J 0, I J 0, B n, I J 0, I J 0, I J 0, I J 0, I J 0, S N 0 0, S N 0 0, S N 0 0] z z cA Ap z Y z) <| sC 0 [S N 0 0, S N 0 0, I J 0, I J 0, I J 0, I J 0, I J 0, I J 0, B n, I J 0, I J 0, I J 0, I J 0, I J 0, S N 0 0, S N 0 0, S N 0 0] [_, _, _, _, _, _, _, _, _, _, _, _, _, _, _, _, _] 0 z cA z <| A z <| nT <| cR <| aS <| aP (fun _ h => St.pushNil (e := aD) (T := 123) h) <| aP (fun _ h => St.pushNil (e := bC) (T := 9) h) <| aP (fun _ h => St.pushNil (e := aF) (T := 75) h) <| aP (fun _ h => St.pushNil (e := V eI 3) (T := 63) h) <| aP (fun _ h => St.pushNil (e := aK) (T := 83) h) <| Z H ▸ xc 0 cA z fun w' hw' => ⟨_, z, N, 0, 0, [], N, 0, 0, [], N, 0, 0, [], N, 0, 0, [], N, 0, 0, [], z, hw'.sel [2, 3, 4, 5, 6] z z⟩
    ·refine ai <| bR <| R <| D <| C [.p, .p, .lenS 22 5 cC, .p] z <| d H fun a l H => qq z z z z cC ty5 z z z l g0 fun l l => ?_
     obtain ⟨m, o, rfl⟩ := wy l
     have l : (V e8 5).rd w k a [S m a.length o] := l
     refine d H fun a m H => aq z Sl z z z z (fun j f => yi j m (f.carve [] z z) (g l j f) (g gT j f)) fun l j w2 f a9 => ?_
     obtain ⟨m, l, o, b1, q, l, s, b2, t, l, u, b3, F, l, L, b4, M, l, X, b5, rfl, l⟩ := a9
     obtain rfl := aL (i := 0) l z
     obtain rfl := aL (i := 1) l z
     obtain rfl := aL (i := 2) l z
     obtain rfl := aL (i := 3) l z
     obtain rfl := aL (i := 4) l z
     refine ⟨Q w k [_, _, _, _, _, _, _], f.comp [] z z l, fun _ _ => Y, ?_⟩
     refine C [.p, .p, .p] z <| bn z z z z cA (fun _ => kp) fun a9 => sC 0 [S m a.1.a_.g_.d_.length o, S q a.1.a_.g_.f_.length s, I J a.1.a_.b_.L_, I J a.1.a_.b_.N_, I J a.1.a_.b_.M_, I J a.1.a_.b_.h_, I J a.1.a_.b_.e_, I J a.1.a_.b_.E_, B a.1.a_.b_.Q_, I J a.1.a_.j_, I J a.1.a_.O_, I J a.1.a_.P_, I J a.1.a_.r_, I J a.1.a_.s_, S t a.1.z_.j_.length u, S F a.1.m_.o_.length L, S M a.1.m_.n_.length X] [_, _, _, _, _, _, _, _, _, _, _, _, _, _, _, _, _] 7 z cA z <| A z <| P <| E <| D <| C [.p, .p, .p] z <| d H fun b6 l H => cu2 [(2, O (U ⟨a8, 0, N⟩)), (4, O (U ⟨a9, 0, N⟩))] [(0, S a6 p0.length a7), (49, B (!a.2))] 6 (55, B b6) z ?_ fun key => ?_
     ·refine P <| cI H z ?_ ?_ <;> intro H
      ·exact D <| G z (bv [] [S N 0 0, S N 0 0, I J 0, I J 0, I J 0, I J 0, I J 0, I J 0, B n, I J 0, I J 0, I J 0, I J 0, I J 0, S N 0 0, S N 0 0, S N 0 0] z z cA Ap z Y z) <| sC 0 [S N 0 0, S N 0 0, I J 0, I J 0, I J 0, I J 0, I J 0, I J 0, B n, I J 0, I J 0, I J 0, I J 0, I J 0, S N 0 0, S N 0 0, S N 0 0] [_, _, _, _, _, _, _, _, _, _, _, _, _, _, _, _, _] 0 z cA z <| A z <| nT <| aS <| aP (fun _ h => St.pushNil (e := aD) (T := 123) h) <| aP (fun _ h => St.pushNil (e := bC) (T := 9) h) <| aP (fun _ h => St.pushNil (e := aF) (T := 75) h) <| aP (fun _ h => St.pushNil (e := V eI 3) (T := 63) h) <| aP (fun _ h => St.pushNil (e := aK) (T := 83) h) <| Z H ▸ xc 0 cA z fun w' hw' => ⟨_, z, N, 0, 0, [], N, 0, 0, [], N, 0, 0, [], N, 0, 0, [], N, 0, 0, [], z, hw'.sel [8, 9, 10, 11, 12] z z⟩
      ·exact ai <| R <| D <| G z (rx 0 7 _ z cA z) <| sC 0 [S m a.1.a_.g_.d_.length o, S q a.1.a_.g_.f_.length s, I J a.1.a_.b_.L_, I J a.1.a_.b_.N_, I J a.1.a_.b_.M_, I J a.1.a_.b_.h_, I J a.1.a_.b_.e_, I J a.1.a_.b_.E_, B a.1.a_.b_.Q_, I J a.1.a_.j_, I J a.1.a_.O_, I J a.1.a_.P_, I J a.1.a_.r_, I J a.1.a_.s_, S t a.1.z_.j_.length u, S F a.1.m_.o_.length L, S M a.1.m_.n_.length X] [_, _, _, _, _, _, _, _, _, _, _, _, _, _, _, _, _] 0 z cA z <| A z <| nT <| Z H ▸ xc 0 cA z fun w' hw' => ⟨_, z, m, a.1.a_.g_.d_.length, o, b1, q, a.1.a_.g_.f_.length, s, b2, t, a.1.z_.j_.length, u, b3, F, a.1.m_.o_.length, L, b4, M, a.1.m_.n_.length, X, b5, z, hw'.sel [2, 3, 4, 5, 6] z z⟩
     ·have H := l
      generalize (!a.2) = l at H key ⊢
      cases l
      ·have H := aN z H
       refine G z (rx 0 7 _ z cA z) <| d H fun l l H => aq z Th z z z z (fun j f => wJ j l (f.carve [] z z) (dt (x := a.1) (c0 := [S m a.1.a_.g_.d_.length o, S q a.1.a_.g_.f_.length s, I J a.1.a_.b_.L_, I J a.1.a_.b_.N_, I J a.1.a_.b_.M_, I J a.1.a_.b_.h_, I J a.1.a_.b_.e_, I J a.1.a_.b_.E_, B a.1.a_.b_.Q_, I J a.1.a_.j_, I J a.1.a_.O_, I J a.1.a_.P_, I J a.1.a_.r_, I J a.1.a_.s_]) (c1 := [S t a.1.z_.j_.length u]) (c2 := [S F a.1.m_.o_.length L, S M a.1.m_.n_.length X]) (bx (x := a.1.a_) (c0 := [S m a.1.a_.g_.d_.length o, S q a.1.a_.g_.f_.length s]) (c1 := [I J a.1.a_.b_.L_, I J a.1.a_.b_.N_, I J a.1.a_.b_.M_, I J a.1.a_.b_.h_, I J a.1.a_.b_.e_, I J a.1.a_.b_.E_, B a.1.a_.b_.Q_]) (c2 := [I J a.1.a_.j_]) (c3 := [I J a.1.a_.O_]) (c4 := [I J a.1.a_.P_]) (c5 := [I J a.1.a_.r_]) (c6 := [I J a.1.a_.s_]) (aw (x := a.1.a_.g_) (c0 := [S m a.1.a_.g_.d_.length o]) (c1 := [S q a.1.a_.g_.f_.length s]) (av (e := V (aD) 123) (r := 2) z j f) (av (e := V (bC) 9) (r := 3) z j f)) z z z z z z) (ch (x := a.1.z_) (c0 := [S t a.1.z_.j_.length u]) (av (e := V (aF) 75) (r := 4) z j f)) (ct (x := a.1.m_) (c0 := [S F a.1.m_.o_.length L]) (c1 := [S M a.1.m_.n_.length X]) (av (e := V (V eI 3) 63) (r := 5) z j f) (av (e := V (aK) 83) (r := 6) z j f))) (g gT j f)) fun a j w2 f l => ?_
       obtain ⟨a, a, a, a, rfl, a⟩ := l
       obtain rfl := aL (i := 0) a z
       refine ⟨Q w k [_, _, _, _, _, _, _, _, _], f.comp [] z z a, fun _ _ => Y, ?_⟩
       refine A z <| bq H Qh (fun _ a j f => sn j a (av (e := V e8 5) (r := 8) z j f) (g g0 j f)) z tt2 fun a H => A z <| jM z (C' := Q w k [_, _, _, _, _, _, _, _]) (ss [0, 1, 2, 3, 4, 5, 6, 7] z z) <| A z <| ?_
       obtain rfl := Z H
       exact OW.sub key (c z)
      ·have H := aO z H
       refine C [.p, .p, .p, .p, .p, .p] z ?_
       obtain rfl := Z H
       exact OW.sub key (c z)
theorem mX (w) {p0 p1 e a f h j i r} (H : jc p0 p1 = U r) (k : (V eI 3).rd w [] p0 [S e a f]) (l : (V eI 3).rd w [] p1 [S h j i]) :
    Calls Tryz.prog 114 #[S e a f, S h j i] w (fun en w' => en = .returned (B r) ∧ Ext [] w w') := by
 obtain rfl := dc k
 obtain rfl := dc l
 unfold jc at H
 refine ar Tryz.func114 z Tryz.ntmps114 z (St.init w []) <| D <| A z <| P <| E <| D <| C [.p, .lenS 63 3 bB, .p, .lenS 63 3 bB, .p] z <| P <| cI H z ?_ ?_ <;> intro H
 ·exact D <| A z <| nT <| Z H ▸ xw z
 ·refine ai <| R <| E <| D <| A z <| P <| an <| CW.at (dq (fun (a : Int) => Q w [] []) (fun a => [(0, S e p0.length f), (1, S h p1.length i), (5, I J a)]) (fun kk => fun a => mS p0 p1 kk a = U r) nofun (fun e e a H => ?_) aI (0) (H)) (ss [] z z) (c z)
  unfold mS at H
  refine E <| D <| C [.p, .p, .lenS 63 3 bB, .p] z <| P <| cI H z ?_ ?_ <;> intro H
  ·refine ai <| R <| E <| an <| E <| dP dC (by kernel_rfl) <| oPP z <| d H fun f f H => ix1 bB ty3 (g k) f z z <| oPP z <| d H fun f f H => ix1 bB ty3 (g l) f z z <| A z <| cQ <| R <| cI H z ?_ ?_ <;> intro H
   ·exact D <| A z <| nT <| Z H ▸ xw z
   ·exact ai <| bR <| R <| aH <| C [.p, .p, .p] z <| ay <| bU (RW.at (e (J.wrap (a + 1)) (H)) (ss [] z z) (c z))
  ·exact aU <| aB <| aE <| aA <| R <| D <| A z <| nT <| Z H ▸ xw z
theorem sV (w) {p0 p1 e a f h j i r} (H : kM p0 p1 = U r) (k : (V (bC) 9).rd w [] p0 [S e a f]) (l : (V (bC) 9).rd w [] p1 [S h j i]) :
    Calls Tryz.prog 112 #[S e a f, S h j i] w (fun en w' => en = .returned (B r) ∧ Ext [] w w') := by
 obtain rfl := dc k
 obtain rfl := dc l
 unfold kM at H
 refine ar Tryz.func112 z Tryz.ntmps112 z (St.init w []) <| D <| A z <| P <| E <| D <| C [.p, .lenS 24 9 eo, .p, .lenS 24 9 eo, .p] z <| P <| cI H z ?_ ?_ <;> intro H
 ·exact D <| A z <| nT <| Z H ▸ xw z
 ·refine ai <| R <| E <| D <| A z <| P <| an <| CW.at (dq (fun (a : Int) => Q w [] []) (fun a => [(0, S e p0.length f), (1, S h p1.length i), (5, I J a)]) (fun kk => fun a => kg p0 p1 kk a = U r) nofun (fun e e a H => ?_) aI (0) (H)) (ss [] z z) (c z)
  unfold kg at H
  refine E <| D <| C [.p, .p, .lenS 24 9 eo, .p] z <| P <| cI H z ?_ ?_ <;> intro H
  ·refine ai <| R <| E <| an <| E <| dP dC (by kernel_rfl) <| oPP z <| d H fun f f H => ix1 eo ty9 (g k) f z z <| oPP z <| d H fun f f H => ix1 eo ty9 (g l) f z z <| A z <| cQ <| R <| cI H z ?_ ?_ <;> intro H
   ·exact D <| A z <| nT <| Z H ▸ xw z
   ·exact ai <| bR <| R <| aH <| C [.p, .p, .p] z <| ay <| bU (RW.at (e (J.wrap (a + 1)) (H)) (ss [] z z) (c z))
  ·exact aU <| aB <| aE <| aA <| R <| D <| A z <| nT <| Z H ▸ xw z
theorem Cg (w) {p0 p1 a e r} (H : oT p0 p1 = U r) (i : (aD).rd w [] p0 a) (k : (aD).rd w [] p1 e) :
    Calls Tryz.prog 146 #[.agg a.toArray, .agg e.toArray] w (fun en w' => en = .returned (B r) ∧ Ext [] w w') := by
 obtain ⟨a, a, a, a, rfl, f, h⟩ := bJ i
 obtain ⟨a, a, a, a, rfl, i, j⟩ := bJ k
 unfold oT at H
 refine ar Tryz.func146 z Tryz.ntmps146 z (St.init w []) <| D <| ob _ z fun a => ob _ z fun a => A z <| P <| E <| D <| C [.fa 123 0 0 kA] z <| G z (r1 0 0 z ty9 z) <| C [.fa 123 0 0 kA] z <| G z (r1 0 1 z ty9 z) <| A z <| P <| cI H z ?_ ?_ <;> intro H
 ·exact D <| A z <| nT <| Z H ▸ xw z
 ·refine ai <| R <| E <| D <| C [.fa 123 1 1 fJ] z <| G z (r1 1 0 z bP z) <| C [.fa 123 1 1 fJ] z <| G z (r1 1 1 z bP z) <| bq H GI (fun _ k e a => mX e k (g f e a) (g i e a)) z tt2 fun f H => A z <| P <| cI H z ?_ ?_ <;> intro H
  ·exact D <| A z <| nT <| Z H ▸ xw z
  ·refine ai <| R <| E <| D <| C [.fa 123 2 2 kz] z <| G z (r1 2 0 z mZ z) <| C [.fa 123 2 2 kz] z <| G z (r1 2 1 z mZ z) <| bq H Od (fun _ f e a => sV e f (g h e a) (g j e a)) z tt2 fun a H => A z <| P <| cI H z ?_ ?_ <;> intro H
   ·exact D <| A z <| nT <| Z H ▸ xw z
   ·exact ai <| R <| D <| A z <| nT <| Z H ▸ xw z
theorem AU (w) {p0 p1 e a f h j i r} (H : pz p0 p1 = U r) (k : (V (aD) 123).rd w [] p0 [S e a f]) (l : (V (aD) 123).rd w [] p1 [S h j i]) :
    Calls Tryz.prog 111 #[S e a f, S h j i] w (fun en w' => en = .returned (B r) ∧ Ext [] w w') := by
 obtain rfl := dc k
 obtain rfl := dc l
 unfold pz at H
 refine ar Tryz.func111 z Tryz.ntmps111 z (St.init w []) <| D <| A z <| P <| E <| D <| C [.p, .lenS 23 123 jN, .p, .lenS 23 123 jN, .p] z <| P <| cI H z ?_ ?_ <;> intro H
 ·exact D <| A z <| nT <| Z H ▸ xw z
 ·refine ai <| R <| E <| D <| A z <| P <| an <| CW.at (dq (fun (a : Int) => Q w [] []) (fun a => [(0, S e p0.length f), (1, S h p1.length i), (5, I J a)]) (fun kk => fun a => lK p0 p1 kk a = U r) nofun (fun e h a H => ?_) aI (0) (H)) (ss [] z z) (c z)
  unfold lK at H
  refine E <| D <| C [.p, .p, .lenS 23 123 jN, .p] z <| P <| cI H z ?_ ?_ <;> intro H
  ·refine ai <| R <| E <| an <| E <| dP dC (by kernel_rfl) <| oPP z <| d H fun e f H => bu z z z z z jN cf z k f fun f f f i => ?_
   obtain ⟨j, k, m, o, rfl, q, s⟩ := bJ f
   refine G z (cT (cs := [vS e.D_, S j e.x_.length k, S m e.F_.length o]) z z cf (bh bor i) z) <| oPP z <| d H fun e f H => bu z z z z z jN cf z l f fun f f f i => ?_
   obtain ⟨j, k, l, m, rfl, o, t⟩ := bJ f
   refine G z (cT (cs := [vS e.D_, S j e.x_.length k, S l e.F_.length m]) z z cf (bh bor i) z) <| bq H PP (fun _ i f e => Cg f i (co z (g q f e) (g s f e)) (co z (g o f e) (g t f e))) z tt2 fun e H => A z <| cQ <| R <| cI H z ?_ ?_ <;> intro H
   ·exact D <| A z <| nT <| Z H ▸ xw z
   ·exact ai <| bR <| R <| aH <| C [.p, .p, .p] z <| ay <| bU (RW.at (h (J.wrap (a + 1)) (H)) (ss [] z z) (c z))
  ·exact aU <| aB <| aE <| aA <| R <| D <| A z <| nT <| Z H ▸ xw z
theorem zH (w) {p0 p1 a e r} (H : ov p0 p1 = U r) (i : (bH).rd w [] p0 a) (k : (bH).rd w [] p1 e) :
    Calls Tryz.prog 65 #[.agg a.toArray, .agg e.toArray] w (fun en w' => en = .returned (B r) ∧ Ext [] w w') := by
 obtain ⟨a, a, a, a, rfl, f, h⟩ := bA i
 obtain ⟨a, a, a, a, rfl, i, j⟩ := bA k
 unfold ov at H
 refine ar Tryz.func65 z Tryz.ntmps65 z (St.init w []) <| D <| ob _ z fun a => ob _ z fun a => A z <| P <| E <| D <| C [.fa 26 0 0 fu] z <| G z (r1 0 0 z nv z) <| C [.fa 26 0 0 fu] z <| G z (r1 0 1 z nv z) <| bq H Sh (fun _ k e a => AU e k (g f e a) (g i e a)) z tt2 fun f H => A z <| P <| cI H z ?_ ?_ <;> intro H
 ·exact D <| A z <| nT <| Z H ▸ xw z
 ·refine ai <| R <| E <| D <| C [.fa 26 1 1 lz] z <| G z (r1 1 0 z mZ z) <| C [.fa 26 1 1 lz] z <| G z (r1 1 1 z mZ z) <| bq H Od (fun _ f e a => sV e f (g h e a) (g j e a)) z tt2 fun a H => A z <| P <| cI H z ?_ ?_ <;> intro H
  ·exact D <| A z <| nT <| Z H ▸ xw z
  ·exact ai <| R <| D <| A z <| nT <| Z H ▸ xw z
theorem Bh (w) {p0 p1 r} (H : qK p0 p1 = U r) :
    Calls Tryz.prog 66 #[.agg #[I J p0.L_, I J p0.N_, I J p0.M_, I J p0.h_, I J p0.e_, I J p0.E_, B p0.Q_], .agg #[I J p1.L_, I J p1.N_, I J p1.M_, I J p1.h_, I J p1.e_, I J p1.E_, B p1.Q_]] w (fun en w' => en = .returned (B r) ∧ Ext [] w w') := by
 unfold qK at H
 refine ar Tryz.func66 z Tryz.ntmps66 z (St.init w []) <| D <| ob _ z fun a => ob _ z fun a => A z <| P <| E <| D <| C [.fa 28 0 0 xi] z <| G z (r1 0 0 z ty3 z) <| C [.fa 28 0 0 xi] z <| G z (r1 0 1 z ty3 z) <| A z <| P <| cI H z ?_ ?_ <;> intro H
 ·exact D <| A z <| nT <| Z H ▸ xw z
 ·refine ai <| R <| E <| D <| C [.fa 28 1 1 wX] z <| G z (r1 1 0 z ty3 z) <| C [.fa 28 1 1 wX] z <| G z (r1 1 1 z ty3 z) <| A z <| P <| cI H z ?_ ?_ <;> intro H
  ·exact D <| A z <| nT <| Z H ▸ xw z
  ·refine ai <| R <| E <| D <| C [.fa 28 2 2 wC] z <| G z (r1 2 0 z ty3 z) <| C [.fa 28 2 2 wC] z <| G z (r1 2 1 z ty3 z) <| A z <| P <| cI H z ?_ ?_ <;> intro H
   ·exact D <| A z <| nT <| Z H ▸ xw z
   ·refine ai <| R <| E <| D <| C [.fa 28 3 3 un] z <| G z (r1 3 0 z ty3 z) <| C [.fa 28 3 3 un] z <| G z (r1 3 1 z ty3 z) <| A z <| P <| cI H z ?_ ?_ <;> intro H
    ·exact D <| A z <| nT <| Z H ▸ xw z
    ·refine ai <| R <| E <| D <| C [.fa 28 4 4 ut] z <| G z (r1 4 0 z ty3 z) <| C [.fa 28 4 4 ut] z <| G z (r1 4 1 z ty3 z) <| A z <| P <| cI H z ?_ ?_ <;> intro H
     ·exact D <| A z <| nT <| Z H ▸ xw z
     ·refine ai <| R <| E <| D <| C [.fa 28 5 5 ul] z <| G z (r1 5 0 z ty3 z) <| C [.fa 28 5 5 ul] z <| G z (r1 5 1 z ty3 z) <| A z <| P <| cI H z ?_ ?_ <;> intro H
      ·exact D <| A z <| nT <| Z H ▸ xw z
      ·refine ai <| R <| E <| D <| C [.fa 28 6 6 CC] z <| G z (r1 6 0 z ty4 z) <| C [.fa 28 6 6 CC] z <| G z (r1 6 1 z ty4 z) <| G z (ym z z z bl4) <| P <| cI H z ?_ ?_ <;> intro H
       ·exact D <| A z <| nT <| Z H ▸ xw z
       ·exact ai <| R <| D <| A z <| nT <| Z H ▸ xw z
theorem CK (w) {p0 p1 a e r} (H : qH p0 p1 = U r) (i : (dA).rd w [] p0 a) (k : (dA).rd w [] p1 e) :
    Calls Tryz.prog 20 #[.agg a.toArray, .agg e.toArray] w (fun en w' => en = .returned (B r) ∧ Ext [] w w') := by
 obtain ⟨a, a, a, a, rfl, f, h⟩ := dV i
 obtain ⟨a, a, a, a, rfl, i, j⟩ := dV k
 unfold qH at H
 refine ar Tryz.func20 z Tryz.ntmps20 z (St.init w []) <| D <| ob _ z fun a => ob _ z fun a => A z <| P <| E <| D <| C [.fa 30 0 0 mr] z <| G z (rx 0 0 _ z el z) <| C [.fa 30 0 0 mr] z <| G z (rx 0 1 _ z el z) <| bq H Tn (fun _ k e a => zH e k (aw (g f e a) (g h e a)) (aw (g i e a) (g j e a))) z tt2 fun f H => A z <| P <| cI H z ?_ ?_ <;> intro H
 ·exact D <| A z <| nT <| Z H ▸ xw z
 ·refine ai <| R <| E <| D <| C [.fa 30 1 2 rK] z <| G z (rx 2 0 _ z uX z) <| C [.fa 30 1 2 rK] z <| G z (rx 2 1 _ z uX z) <| bq H Sk (fun _ f e a => Bh e (p0 := p0.b_) (p1 := p1.b_) f) z tt2 fun a H => A z <| P <| cI H z ?_ ?_ <;> intro H
  ·exact D <| A z <| nT <| Z H ▸ xw z
  ·refine ai <| R <| E <| D <| C [.fa 30 2 9 rV] z <| G z (r1 9 0 z ty3 z) <| C [.fa 30 2 9 rV] z <| G z (r1 9 1 z ty3 z) <| A z <| P <| cI H z ?_ ?_ <;> intro H
   ·exact D <| A z <| nT <| Z H ▸ xw z
   ·refine ai <| R <| E <| D <| C [.fa 30 3 10 wF] z <| G z (r1 10 0 z ty3 z) <| C [.fa 30 3 10 wF] z <| G z (r1 10 1 z ty3 z) <| A z <| P <| cI H z ?_ ?_ <;> intro H
    ·exact D <| A z <| nT <| Z H ▸ xw z
    ·refine ai <| R <| E <| D <| C [.fa 30 4 11 xh] z <| G z (r1 11 0 z ty3 z) <| C [.fa 30 4 11 xh] z <| G z (r1 11 1 z ty3 z) <| A z <| P <| cI H z ?_ ?_ <;> intro H
     ·exact D <| A z <| nT <| Z H ▸ xw z
     ·refine ai <| R <| E <| D <| C [.fa 30 5 12 ua] z <| G z (r1 12 0 z ty3 z) <| C [.fa 30 5 12 ua] z <| G z (r1 12 1 z ty3 z) <| A z <| P <| cI H z ?_ ?_ <;> intro H
      ·exact D <| A z <| nT <| Z H ▸ xw z
      ·refine ai <| R <| E <| D <| C [.fa 30 6 13 us] z <| G z (r1 13 0 z ty3 z) <| C [.fa 30 6 13 us] z <| G z (r1 13 1 z ty3 z) <| A z <| P <| cI H z ?_ ?_ <;> intro H
       ·exact D <| A z <| nT <| Z H ▸ xw z
       ·exact ai <| R <| D <| A z <| nT <| Z H ▸ xw z
theorem Cq (w) {p0 p1 r} (H : qE p0 p1 = U r) :
    Calls Tryz.prog 212 #[.agg #[I J p0.t_, I J p0.u_], .agg #[I J p1.t_, I J p1.u_]] w (fun en w' => en = .returned (B r) ∧ Ext [] w w') := by
 unfold qE at H
 refine ar Tryz.func212 z Tryz.ntmps212 z (St.init w []) <| D <| ob _ z fun a => ob _ z fun a => A z <| P <| E <| D <| C [.fa 141 0 0 kx] z <| G z (r1 0 0 z ty3 z) <| C [.fa 141 0 0 kx] z <| G z (r1 0 1 z ty3 z) <| A z <| P <| cI H z ?_ ?_ <;> intro H
 ·exact D <| A z <| nT <| Z H ▸ xw z
 ·refine ai <| R <| E <| D <| C [.fa 141 1 1 mw] z <| G z (r1 1 0 z ty3 z) <| C [.fa 141 1 1 mw] z <| G z (r1 1 1 z ty3 z) <| A z <| P <| cI H z ?_ ?_ <;> intro H
  ·exact D <| A z <| nT <| Z H ▸ xw z
  ·exact ai <| R <| D <| A z <| nT <| Z H ▸ xw z
theorem qT (w) {p0 p1 e a f h j i r} (H : lB p0 p1 = U r) (k : (V (V eI 3) 63).rd w [] p0 [S e a f]) (l : (V (V eI 3) 63).rd w [] p1 [S h j i]) :
    Calls Tryz.prog 68 #[S e a f, S h j i] w (fun en w' => en = .returned (B r) ∧ Ext [] w w') := by
 obtain rfl := dc k
 obtain rfl := dc l
 unfold lB at H
 refine ar Tryz.func68 z Tryz.ntmps68 z (St.init w []) <| D <| A z <| P <| E <| D <| C [.p, .lenS 34 63 eg, .p, .lenS 34 63 eg, .p] z <| P <| cI H z ?_ ?_ <;> intro H
 ·exact D <| A z <| nT <| Z H ▸ xw z
 ·refine ai <| R <| E <| D <| A z <| P <| an <| CW.at (dq (fun (a : Int) => Q w [] []) (fun a => [(0, S e p0.length f), (1, S h p1.length i), (5, I J a)]) (fun kk => fun a => lM p0 p1 kk a = U r) nofun (fun e i a H => ?_) aI (0) (H)) (ss [] z z) (c z)
  unfold lM at H
  refine E <| D <| C [.p, .p, .lenS 34 63 eg, .p] z <| P <| cI H z ?_ ?_ <;> intro H
  ·refine ai <| R <| E <| an <| E <| dP dC (by kernel_rfl) <| oPP z <| d H fun e e H => bu z z z z z eg bP z k e fun e e e f => ?_
   obtain ⟨h, h, rfl⟩ := dz e
   refine G z (aT z z bP (bh bor f)) <| oPP z <| d H fun f f H => bu z z z z z eg bP z l f fun f f f h => ?_
   obtain ⟨j, j, rfl⟩ := dz f
   refine G z (aT z z bP (bh bor h)) <| bq H GI (fun _ k j h => mX j k (g e j h) (g f j h)) z tt2 fun e H => A z <| cQ <| R <| cI H z ?_ ?_ <;> intro H
   ·exact D <| A z <| nT <| Z H ▸ xw z
   ·exact ai <| bR <| R <| aH <| C [.p, .p, .p] z <| ay <| bU (RW.at (i (J.wrap (a + 1)) (H)) (ss [] z z) (c z))
  ·exact aU <| aB <| aE <| aA <| R <| D <| A z <| nT <| Z H ▸ xw z
theorem AB (w) {p0 p1 a e r} (H : pi p0 p1 = U r) (i : (cZ).rd w [] p0 a) (k : (cZ).rd w [] p1 e) :
    Calls Tryz.prog 213 #[.agg a.toArray, .agg e.toArray] w (fun en w' => en = .returned (B r) ∧ Ext [] w w') := by
 obtain ⟨a, a, a, a, rfl, f, h⟩ := gR i
 obtain ⟨a, a, a, a, rfl, i, j⟩ := gR k
 unfold pi at H
 refine ar Tryz.func213 z Tryz.ntmps213 z (St.init w []) <| D <| ob _ z fun a => ob _ z fun a => A z <| P <| E <| D <| C [.fa 143 0 0 iu] z <| G z (r1 0 0 z bP z) <| C [.fa 143 0 0 iu] z <| G z (r1 0 1 z bP z) <| bq H GI (fun _ k e a => mX e k (g f e a) (g i e a)) z tt2 fun f H => A z <| P <| cI H z ?_ ?_ <;> intro H
 ·exact D <| A z <| nT <| Z H ▸ xw z
 ·refine ai <| R <| E <| D <| C [.fa 143 1 1 eW] z <| G z (r1 1 0 z fw z) <| C [.fa 143 1 1 eW] z <| G z (r1 1 1 z fw z) <| bq H PC (fun _ f e a => qT e f (g h e a) (g j e a)) z tt2 fun a H => A z <| P <| cI H z ?_ ?_ <;> intro H
  ·exact D <| A z <| nT <| Z H ▸ xw z
  ·exact ai <| R <| D <| A z <| nT <| Z H ▸ xw z
theorem Bs (w) {p0 p1 a e r} (H : oU p0 p1 = U r) (k : (aQ).rd w [] p0 a) (p : (aQ).rd w [] p1 e) :
    Calls Tryz.prog 195 #[.agg a.toArray, .agg e.toArray] w (fun en w' => en = .returned (B r) ∧ Ext [] w w') := by
 obtain ⟨a, a, a, a, a, a, a, a, rfl, f, h, i, j⟩ := aY k
 obtain ⟨a, a, a, a, a, a, a, a, rfl, k, l, m, o⟩ := aY p
 unfold oU at H
 refine ar Tryz.func195 z Tryz.ntmps195 z (St.init w []) <| D <| ob _ z fun a => ob _ z fun a => A z <| P <| E <| D <| C [.fa 145 0 0 ln] z <| G z (r1 0 0 z ty4 z) <| C [.fa 145 0 0 ln] z <| G z (r1 0 1 z ty4 z) <| G z (ym z z z bl4) <| P <| cI H z ?_ ?_ <;> intro H
 ·exact D <| A z <| nT <| Z H ▸ xw z
 ·refine ai <| R <| E <| D <| C [.fa 145 1 1 ip] z <| G z (rx 1 0 _ z sO z) <| C [.fa 145 1 1 ip] z <| G z (rx 1 1 _ z sO z) <| bq H RI (fun _ p e a => Cq e (p0 := p0.i_) (p1 := p1.i_) p) z tt2 fun p H => A z <| P <| cI H z ?_ ?_ <;> intro H
  ·exact D <| A z <| nT <| Z H ▸ xw z
  ·refine ai <| R <| E <| D <| C [.fa 145 2 3 fP] z <| G z (r1 3 0 z bP z) <| C [.fa 145 2 3 fP] z <| G z (r1 3 1 z bP z) <| bq H GI (fun _ p e a => mX e p (g f e a) (g k e a)) z tt2 fun f H => A z <| P <| cI H z ?_ ?_ <;> intro H
   ·exact D <| A z <| nT <| Z H ▸ xw z
   ·refine ai <| R <| E <| D <| C [.fa 145 3 4 lx] z <| G z (r1 4 0 z ty3 z) <| C [.fa 145 3 4 lx] z <| G z (r1 4 1 z ty3 z) <| A z <| P <| cI H z ?_ ?_ <;> intro H
    ·exact D <| A z <| nT <| Z H ▸ xw z
    ·refine ai <| R <| E <| D <| C [.fa 145 4 5 ea] z <| G z (rx 5 0 _ z vi z) <| C [.fa 145 4 5 ea] z <| G z (rx 5 1 _ z vi z) <| bq H Rz (fun _ f e a => AB e f (cu (g h e a) (g i e a)) (cu (g l e a) (g m e a))) z tt2 fun f H => A z <| P <| cI H z ?_ ?_ <;> intro H
     ·exact D <| A z <| nT <| Z H ▸ xw z
     ·refine ai <| R <| E <| D <| C [.fa 145 5 7 kw] z <| G z (r1 7 0 z ty3 z) <| C [.fa 145 5 7 kw] z <| G z (r1 7 1 z ty3 z) <| A z <| P <| cI H z ?_ ?_ <;> intro H
      ·exact D <| A z <| nT <| Z H ▸ xw z
      ·refine ai <| R <| E <| D <| C [.fa 145 6 8 mv] z <| G z (r1 8 0 z bP z) <| C [.fa 145 6 8 mv] z <| G z (r1 8 1 z bP z) <| bq H GI (fun _ f e a => mX e f (g j e a) (g o e a)) z tt2 fun a H => A z <| P <| cI H z ?_ ?_ <;> intro H
       ·exact D <| A z <| nT <| Z H ▸ xw z
       ·refine ai <| R <| E <| D <| C [.fa 145 7 9 gC] z <| G z (r1 9 0 z ty3 z) <| C [.fa 145 7 9 gC] z <| G z (r1 9 1 z ty3 z) <| A z <| P <| cI H z ?_ ?_ <;> intro H
        ·exact D <| A z <| nT <| Z H ▸ xw z
        ·refine ai <| R <| E <| D <| C [.fa 145 8 10 iW] z <| G z (r1 10 0 z ty3 z) <| C [.fa 145 8 10 iW] z <| G z (r1 10 1 z ty3 z) <| A z <| P <| cI H z ?_ ?_ <;> intro H
         ·exact D <| A z <| nT <| Z H ▸ xw z
         ·refine ai <| R <| E <| D <| C [.fa 145 9 11 iY] z <| G z (r1 11 0 z ty3 z) <| C [.fa 145 9 11 iY] z <| G z (r1 11 1 z ty3 z) <| A z <| P <| cI H z ?_ ?_ <;> intro H
          ·exact D <| A z <| nT <| Z H ▸ xw z
          ·exact ai <| R <| D <| A z <| nT <| Z H ▸ xw z
theorem Am (w) {p0 p1 a e f h j i r} (H : pE p0 p1 = U r) (k : (V (aQ) 145).rd w [] p0 [S a e f]) (t : (V (aQ) 145).rd w [] p1 [S h j i]) :
    Calls Tryz.prog 170 #[S a e f, S h j i] w (fun en w' => en = .returned (B r) ∧ Ext [] w w') := by
 obtain rfl := dc k
 obtain rfl := dc t
 unfold pE at H
 refine ar Tryz.func170 z Tryz.ntmps170 z (St.init w []) <| D <| A z <| P <| E <| D <| C [.p, .lenS 67 145 eN, .p, .lenS 67 145 eN, .p] z <| P <| cI H z ?_ ?_ <;> intro H
 ·exact D <| A z <| nT <| Z H ▸ xw z
 ·refine ai <| R <| E <| D <| A z <| P <| an <| CW.at (dq (fun (e : Int) => Q w [] []) (fun e => [(0, S a p0.length f), (1, S h p1.length i), (5, I J e)]) (fun kk => fun e => lX p0 p1 kk e = U r) nofun (fun a i e H => ?_) aI (0) (H)) (ss [] z z) (c z)
  unfold lX at H
  refine E <| D <| C [.p, .p, .lenS 67 145 eN, .p] z <| P <| cI H z ?_ ?_ <;> intro H
  ·refine ai <| R <| E <| an <| E <| dP dC (by kernel_rfl) <| oPP z <| d H fun a f H => bu z z z z z eN bp z k f fun f f f h => ?_
   obtain ⟨u, v, x, F, j, k, l, m, rfl, X, o, q, s⟩ := aY f
   refine G z (cT (cs := [B a.B_, I J a.i_.t_, I J a.i_.u_, S u a.v_.length v, I J a.I_, S x a.k_.q_.length F, S j a.k_.l_.length k, I J a.J_, S l a.d_.length m, I J a.h_, I J a.A_, I J a.G_]) z z bp (bh bor h) z) <| oPP z <| d H fun a f H => bu z z z z z eN bp z t f fun f f f h => ?_
   obtain ⟨j, k, l, m, t, u, v, x, rfl, F, L, M, T⟩ := aY f
   refine G z (cT (cs := [B a.B_, I J a.i_.t_, I J a.i_.u_, S j a.v_.length k, I J a.I_, S l a.k_.q_.length m, S t a.k_.l_.length u, I J a.J_, S v a.d_.length x, I J a.h_, I J a.A_, I J a.G_]) z z bp (bh bor h) z) <| bq H QR (fun _ h f a => Bs f h (gx z z (g X f a) z (cu (g o f a) (g q f a)) z (g s f a) z z z) (gx z z (g F f a) z (cu (g L f a) (g M f a)) z (g T f a) z z z)) z tt2 fun a H => A z <| cQ <| R <| cI H z ?_ ?_ <;> intro H
   ·exact D <| A z <| nT <| Z H ▸ xw z
   ·exact ai <| bR <| R <| aH <| C [.p, .p, .p] z <| ay <| bU (RW.at (i (J.wrap (e + 1)) (H)) (ss [] z z) (c z))
  ·exact aU <| aB <| aE <| aA <| R <| D <| A z <| nT <| Z H ▸ xw z
theorem vd (w) {p0 p1 a e r} (H : oS p0 p1 = U r) (h : (bz).rd w [] p0 a) (i : (bz).rd w [] p1 e) :
    Calls Tryz.prog 147 #[.agg a.toArray, .agg e.toArray] w (fun en w' => en = .returned (B r) ∧ Ext [] w w') := by
 obtain ⟨a, a, rfl, f⟩ := cj h
 obtain ⟨a, a, rfl, h⟩ := cj i
 unfold oS at H
 refine ar Tryz.func147 z Tryz.ntmps147 z (St.init w []) <| D <| ob _ z fun a => ob _ z fun a => A z <| P <| E <| D <| C [.fa 69 0 0 dD] z <| G z (r1 0 0 z ks z) <| C [.fa 69 0 0 dD] z <| G z (r1 0 1 z ks z) <| bq H Ra (fun _ i e a => Am e i (g f e a) (g h e a)) z tt2 fun a H => A z <| P <| cI H z ?_ ?_ <;> intro H
 ·exact D <| A z <| nT <| Z H ▸ xw z
 ·refine ai <| R <| E <| D <| C [.fa 69 1 1 nH] z <| G z (r1 1 0 z ty3 z) <| C [.fa 69 1 1 nH] z <| G z (r1 1 1 z ty3 z) <| A z <| P <| cI H z ?_ ?_ <;> intro H
  ·exact D <| A z <| nT <| Z H ▸ xw z
  ·exact ai <| R <| D <| A z <| nT <| Z H ▸ xw z
theorem tv (w) {p0 p1 a e r} (H : mn p0 p1 = U r) (h : (cd).rd w [] p0 a) (i : (cd).rd w [] p1 e) :
    Calls Tryz.prog 171 #[.agg a.toArray, .agg e.toArray] w (fun en w' => en = .returned (B r) ∧ Ext [] w w') := by
 obtain ⟨a, a, rfl, f⟩ := gb h
 obtain ⟨a, a, rfl, h⟩ := gb i
 unfold mn at H
 refine ar Tryz.func171 z Tryz.ntmps171 z (St.init w []) <| D <| ob _ z fun a => ob _ z fun a => A z <| P <| E <| D <| C [.fa 71 0 0 kF] z <| G z (r1 0 0 z fw z) <| C [.fa 71 0 0 kF] z <| G z (r1 0 1 z fw z) <| bq H PC (fun _ i e a => qT e i (g f e a) (g h e a)) z tt2 fun a H => A z <| P <| cI H z ?_ ?_ <;> intro H
 ·exact D <| A z <| nT <| Z H ▸ xw z
 ·exact ai <| R <| D <| A z <| nT <| Z H ▸ xw z
theorem Dl (w) {p0 p1 a e r} (H : rQ p0 p1 = U r) (i : (fB).rd w [] p0 a) (k : (fB).rd w [] p1 e) :
    Calls Tryz.prog 148 #[.agg a.toArray, .agg e.toArray] w (fun en w' => en = .returned (B r) ∧ Ext [] w w') := by
 obtain ⟨a, a, a, a, rfl, f, h⟩ := oa i
 obtain ⟨a, a, a, a, rfl, i, j⟩ := oa k
 unfold rQ at H
 refine ar Tryz.func148 z Tryz.ntmps148 z (St.init w []) <| D <| ob _ z fun a => ob _ z fun a => A z <| P <| E <| D <| C [.fa 73 0 0 uj] z <| G z (rx 0 0 _ z nz z) <| C [.fa 73 0 0 uj] z <| G z (rx 0 1 _ z nz z) <| bq H NX (fun _ k e a => tv e k (bf (g f e a)) (bf (g i e a))) z tt2 fun f H => A z <| P <| cI H z ?_ ?_ <;> intro H
 ·exact D <| A z <| nT <| Z H ▸ xw z
 ·refine ai <| R <| E <| D <| C [.fa 73 1 1 uk] z <| G z (rx 1 0 _ z nz z) <| C [.fa 73 1 1 uk] z <| G z (rx 1 1 _ z nz z) <| bq H NX (fun _ f e a => tv e f (bf (g h e a)) (bf (g j e a))) z tt2 fun a H => A z <| P <| cI H z ?_ ?_ <;> intro H
  ·exact D <| A z <| nT <| Z H ▸ xw z
  ·exact ai <| R <| D <| A z <| nT <| Z H ▸ xw z
theorem zj (w) {p0 p1 a e r} (H : mi p0 p1 = U r) (k : (aF).rd w [] p0 a) (p : (aF).rd w [] p1 e) :
    Calls Tryz.prog 113 #[.agg a.toArray, .agg e.toArray] w (fun en w' => en = .returned (B r) ∧ Ext [] w w') := by
 obtain ⟨a, a, a, a, a, a, a, a, rfl, f, h, i, j⟩ := cg k
 obtain ⟨a, a, a, a, a, a, a, a, rfl, k, l, m, o⟩ := cg p
 unfold mi at H
 refine ar Tryz.func113 z Tryz.ntmps113 z (St.init w []) <| D <| ob _ z fun a => ob _ z fun a => A z <| P <| E <| D <| C [.fa 75 0 0 tl] z <| G z (rx 0 0 _ z jb z) <| C [.fa 75 0 0 tl] z <| G z (rx 0 1 _ z jb z) <| bq H On (fun _ p e a => vd e p (bg (g f e a) z) (bg (g k e a) z)) z tt2 fun f H => A z <| P <| cI H z ?_ ?_ <;> intro H
 ·exact D <| A z <| nT <| Z H ▸ xw z
 ·refine ai <| R <| E <| D <| C [.fa 75 1 2 uc] z <| G z (r1 2 0 z ty4 z) <| C [.fa 75 1 2 uc] z <| G z (r1 2 1 z ty4 z) <| G z (ym z z z bl4) <| P <| cI H z ?_ ?_ <;> intro H
  ·exact D <| A z <| nT <| Z H ▸ xw z
  ·refine ai <| R <| E <| D <| C [.fa 75 2 3 pG] z <| G z (rx 3 0 _ z jb z) <| C [.fa 75 2 3 pG] z <| G z (rx 3 1 _ z jb z) <| bq H On (fun _ f e a => vd e f (bg (g h e a) z) (bg (g l e a) z)) z tt2 fun f H => A z <| P <| cI H z ?_ ?_ <;> intro H
   ·exact D <| A z <| nT <| Z H ▸ xw z
   ·refine ai <| R <| E <| D <| C [.fa 75 3 5 pA] z <| G z (rx 5 0 _ z Mr z) <| C [.fa 75 3 5 pA] z <| G z (rx 5 1 _ z Mr z) <| bq H RL (fun _ f e a => Dl e f (io (bf (g i e a)) (bf (g j e a))) (io (bf (g m e a)) (bf (g o e a)))) z tt2 fun a H => A z <| P <| cI H z ?_ ?_ <;> intro H
    ·exact D <| A z <| nT <| Z H ▸ xw z
    ·exact ai <| R <| D <| A z <| nT <| Z H ▸ xw z
theorem xJ (w) {p0 p1 a e f h j i r} (H : nc p0 p1 = U r) (k : (V (aF) 75).rd w [] p0 [S a e f]) (t : (V (aF) 75).rd w [] p1 [S h j i]) :
    Calls Tryz.prog 67 #[S a e f, S h j i] w (fun en w' => en = .returned (B r) ∧ Ext [] w w') := by
 obtain rfl := dc k
 obtain rfl := dc t
 unfold nc at H
 refine ar Tryz.func67 z Tryz.ntmps67 z (St.init w []) <| D <| A z <| P <| E <| D <| C [.p, .lenS 31 75 mU, .p, .lenS 31 75 mU, .p] z <| P <| cI H z ?_ ?_ <;> intro H
 ·exact D <| A z <| nT <| Z H ▸ xw z
 ·refine ai <| R <| E <| D <| A z <| P <| an <| CW.at (dq (fun (e : Int) => Q w [] []) (fun e => [(0, S a p0.length f), (1, S h p1.length i), (5, I J e)]) (fun kk => fun e => kj p0 p1 kk e = U r) nofun (fun a i e H => ?_) aI (0) (H)) (ss [] z z) (c z)
  unfold kj at H
  refine E <| D <| C [.p, .p, .lenS 31 75 mU, .p] z <| P <| cI H z ?_ ?_ <;> intro H
  ·refine ai <| R <| E <| an <| E <| dP dC (by kernel_rfl) <| oPP z <| d H fun a f H => bu z z z z z mU fO z k f fun f f f h => ?_
   obtain ⟨u, v, x, F, j, k, l, m, rfl, X, o, q, s⟩ := cg f
   refine G z (cT (cs := [S u a.H_.e_.length v, I J a.H_.y_, B a.T_, S x a.w_.e_.length F, I J a.w_.y_, S j a.K_.r_.p_.length k, S l a.K_.s_.p_.length m]) z z fO (bh bor h) z) <| oPP z <| d H fun a f H => bu z z z z z mU fO z t f fun f f f h => ?_
   obtain ⟨j, k, l, m, t, u, v, x, rfl, F, L, M, T⟩ := cg f
   refine G z (cT (cs := [S j a.H_.e_.length k, I J a.H_.y_, B a.T_, S l a.w_.e_.length m, I J a.w_.y_, S t a.K_.r_.p_.length u, S v a.K_.s_.p_.length x]) z z fO (bh bor h) z) <| bq H Qq (fun _ h f a => zj f h (kD (bg (g X f a) z) z (bg (g o f a) z) (io (bf (g q f a)) (bf (g s f a)))) (kD (bg (g F f a) z) z (bg (g L f a) z) (io (bf (g M f a)) (bf (g T f a))))) z tt2 fun a H => A z <| cQ <| R <| cI H z ?_ ?_ <;> intro H
   ·exact D <| A z <| nT <| Z H ▸ xw z
   ·exact ai <| bR <| R <| aH <| C [.p, .p, .p] z <| ay <| bU (RW.at (i (J.wrap (e + 1)) (H)) (ss [] z z) (c z))
  ·exact aU <| aB <| aE <| aA <| R <| D <| A z <| nT <| Z H ▸ xw z
theorem za (w) {p0 p1 a e r} (H : nP p0 p1 = U r) (h : (fj).rd w [] p0 a) (i : (fj).rd w [] p1 e) :
    Calls Tryz.prog 21 #[.agg a.toArray, .agg e.toArray] w (fun en w' => en = .returned (B r) ∧ Ext [] w w') := by
 obtain ⟨a, a, rfl, f⟩ := jn h
 obtain ⟨a, a, rfl, h⟩ := jn i
 unfold nP at H
 refine ar Tryz.func21 z Tryz.ntmps21 z (St.init w []) <| D <| ob _ z fun a => ob _ z fun a => A z <| P <| E <| D <| C [.fa 33 0 0 nK] z <| G z (r1 0 0 z wi z) <| C [.fa 33 0 0 nK] z <| G z (r1 0 1 z wi z) <| bq H Sy (fun _ i e a => xJ e i (g f e a) (g h e a)) z tt2 fun a H => A z <| P <| cI H z ?_ ?_ <;> intro H
 ·exact D <| A z <| nT <| Z H ▸ xw z
 ·exact ai <| R <| D <| A z <| nT <| Z H ▸ xw z
theorem CO (w) {p0 p1 r} (H : pc p0 p1 = U r) :
    Calls Tryz.prog 115 #[.agg #[I J p0.R_, I J p0.S_], .agg #[I J p1.R_, I J p1.S_]] w (fun en w' => en = .returned (B r) ∧ Ext [] w w') := by
 unfold pc at H
 refine ar Tryz.func115 z Tryz.ntmps115 z (St.init w []) <| D <| ob _ z fun a => ob _ z fun a => A z <| P <| E <| D <| C [.fa 83 0 0 tf] z <| G z (r1 0 0 z ty3 z) <| C [.fa 83 0 0 tf] z <| G z (r1 0 1 z ty3 z) <| A z <| P <| cI H z ?_ ?_ <;> intro H
 ·exact D <| A z <| nT <| Z H ▸ xw z
 ·refine ai <| R <| E <| D <| C [.fa 83 1 1 rN] z <| G z (r1 1 0 z ty3 z) <| C [.fa 83 1 1 rN] z <| G z (r1 1 1 z ty3 z) <| A z <| P <| cI H z ?_ ?_ <;> intro H
  ·exact D <| A z <| nT <| Z H ▸ xw z
  ·exact ai <| R <| D <| A z <| nT <| Z H ▸ xw z
theorem Ay (w) {p0 p1 f a i k m l r} (H : pN p0 p1 = U r) (o : (V (aK) 83).rd w [] p0 [S f a i]) (q : (V (aK) 83).rd w [] p1 [S k m l]) :
    Calls Tryz.prog 69 #[S f a i, S k m l] w (fun en w' => en = .returned (B r) ∧ Ext [] w w') := by
 obtain rfl := dc o
 obtain rfl := dc q
 unfold pN at H
 refine ar Tryz.func69 z Tryz.ntmps69 z (St.init w []) <| D <| A z <| P <| E <| D <| C [.p, .lenS 35 83 nO, .p, .lenS 35 83 nO, .p] z <| P <| cI H z ?_ ?_ <;> intro H
 ·exact D <| A z <| nT <| Z H ▸ xw z
 ·refine ai <| R <| E <| D <| A z <| P <| an <| CW.at (dq (fun (a : Int) => Q w [] []) (fun a => [(0, S f p0.length i), (1, S k p1.length l), (5, I J a)]) (fun kk => fun a => ma p0 p1 kk a = U r) nofun (fun f l a H => ?_) aI (0) (H)) (ss [] z z) (c z)
  unfold ma at H
  refine E <| D <| C [.p, .p, .lenS 35 83 nO, .p] z <| P <| cI H z ?_ ?_ <;> intro H
  ·refine ai <| R <| E <| an <| E <| dP dC (by kernel_rfl) <| oPP z <| d H fun f i H => fb (e := aK) (xs := p0) (j := a) z z z z z nO nG z (g o) i z <| G z (cT (cs := [I J f.R_, I J f.S_]) z z nG (lJ (nk (g o) i (fun _ _ h => h)) z) z) <| oPP z <| d H fun i k H => fb (e := aK) (xs := p1) (j := a) z z z z z nO nG z (g q) k z <| G z (cT (cs := [I J i.R_, I J i.S_]) z z nG (lJ (nk (g q) k (fun _ _ h => h)) z) z) <| bq H Rh (fun _ k m o => CO m (p0 := f) (p1 := i) k) z tt2 fun f H => A z <| cQ <| R <| cI H z ?_ ?_ <;> intro H
   ·exact D <| A z <| nT <| Z H ▸ xw z
   ·exact ai <| bR <| R <| aH <| C [.p, .p, .p] z <| ay <| bU (RW.at (l (J.wrap (a + 1)) (H)) (ss [] z z) (c z))
  ·exact aU <| aB <| aE <| aA <| R <| D <| A z <| nT <| Z H ▸ xw z
theorem AK (w) {p0 p1 a e r} (H : pP p0 p1 = U r) (i : (fN).rd w [] p0 a) (k : (fN).rd w [] p1 e) :
    Calls Tryz.prog 22 #[.agg a.toArray, .agg e.toArray] w (fun en w' => en = .returned (B r) ∧ Ext [] w w') := by
 obtain ⟨a, a, a, a, rfl, f, h⟩ := jT i
 obtain ⟨a, a, a, a, rfl, i, j⟩ := jT k
 unfold pP at H
 refine ar Tryz.func22 z Tryz.ntmps22 z (St.init w []) <| D <| ob _ z fun a => ob _ z fun a => A z <| P <| E <| D <| C [.fa 37 0 0 kQ] z <| G z (r1 0 0 z fw z) <| C [.fa 37 0 0 kQ] z <| G z (r1 0 1 z fw z) <| bq H PC (fun _ k e a => qT e k (g f e a) (g i e a)) z tt2 fun f H => A z <| P <| cI H z ?_ ?_ <;> intro H
 ·exact D <| A z <| nT <| Z H ▸ xw z
 ·refine ai <| R <| E <| D <| C [.fa 37 1 1 kq] z <| G z (r1 1 0 z tt z) <| C [.fa 37 1 1 kq] z <| G z (r1 1 1 z tt z) <| bq H Tl (fun _ f e a => Ay e f (g h e a) (g j e a)) z tt2 fun a H => A z <| P <| cI H z ?_ ?_ <;> intro H
  ·exact D <| A z <| nT <| Z H ▸ xw z
  ·exact ai <| R <| D <| A z <| nT <| Z H ▸ xw z
theorem qU (w) {p0 p1 a e r} (H : lp p0 p1 = U r) (l : (iv).rd w [] p0 a) (s : (iv).rd w [] p1 e) :
    Calls Tryz.prog 7 #[.agg a.toArray, .agg e.toArray] w (fun en w' => en = .returned (B r) ∧ Ext [] w w') := by
 obtain ⟨a, a, a, a, a, a, a, a, a, a, rfl, f, h, i, j, k⟩ := iM l
 obtain ⟨a, a, a, a, a, a, a, a, a, a, rfl, l, m, o, p, q⟩ := iM s
 unfold lp at H
 refine ar Tryz.func7 z Tryz.ntmps7 z (St.init w []) <| D <| ob _ z fun a => ob _ z fun a => A z <| P <| E <| D <| C [.fa 39 0 0 gW] z <| G z (rx 0 0 _ z uM z) <| C [.fa 39 0 0 gW] z <| G z (rx 0 1 _ z uM z) <| bq H Sz (fun _ s e a => CK e s (bx (aw (g f e a) (g h e a)) z z z z z z) (bx (aw (g l e a) (g m e a)) z z z z z z)) z tt2 fun f H => A z <| P <| cI H z ?_ ?_ <;> intro H
 ·exact D <| A z <| nT <| Z H ▸ xw z
 ·refine ai <| R <| E <| D <| C [.fa 39 1 14 qi] z <| G z (rx 14 0 _ z JZ z) <| C [.fa 39 1 14 qi] z <| G z (rx 14 1 _ z JZ z) <| bq H Sw (fun _ f e a => za e f (ch (g i e a)) (ch (g o e a))) z tt2 fun f H => A z <| P <| cI H z ?_ ?_ <;> intro H
  ·exact D <| A z <| nT <| Z H ▸ xw z
  ·refine ai <| R <| E <| D <| C [.fa 39 2 15 jD] z <| G z (rx 15 0 _ z Jz z) <| C [.fa 39 2 15 jD] z <| G z (rx 15 1 _ z Jz z) <| bq H SH (fun _ f e a => AK e f (ct (g j e a) (g k e a)) (ct (g p e a) (g q e a))) z tt2 fun a H => A z <| P <| cI H z ?_ ?_ <;> intro H
   ·exact D <| A z <| nT <| Z H ▸ xw z
   ·exact ai <| R <| D <| A z <| nT <| Z H ▸ xw z
theorem AO (w) {p0 p1 e a f h j i r} (H : pg p0 p1 = U r) (k : (V e8 5).rd w [] p0 [S e a f]) (l : (V e8 5).rd w [] p1 [S h j i]) :
    Calls Tryz.prog 8 #[S e a f, S h j i] w (fun en w' => en = .returned (B r) ∧ Ext [] w w') := by
 obtain rfl := dc k
 obtain rfl := dc l
 unfold pg at H
 refine ar Tryz.func8 z Tryz.ntmps8 z (St.init w []) <| D <| A z <| P <| E <| D <| C [.p, .lenS 22 5 cC, .p, .lenS 22 5 cC, .p] z <| P <| cI H z ?_ ?_ <;> intro H
 ·exact D <| A z <| nT <| Z H ▸ xw z
 ·refine ai <| R <| E <| D <| A z <| P <| an <| CW.at (dq (fun (a : Int) => Q w [] []) (fun a => [(0, S e p0.length f), (1, S h p1.length i), (5, I J a)]) (fun kk => fun a => lR p0 p1 kk a = U r) nofun (fun e e a H => ?_) aI (0) (H)) (ss [] z z) (c z)
  unfold lR at H
  refine E <| D <| C [.p, .p, .lenS 22 5 cC, .p] z <| P <| cI H z ?_ ?_ <;> intro H
  ·refine ai <| R <| E <| an <| E <| dP dC (by kernel_rfl) <| oPP z <| d H fun f f H => ix1 cC ty5 (g k) f z z <| oPP z <| d H fun f f H => ix1 cC ty5 (g l) f z z <| A z <| cQ <| R <| cI H z ?_ ?_ <;> intro H
   ·exact D <| A z <| nT <| Z H ▸ xw z
   ·exact ai <| bR <| R <| aH <| C [.p, .p, .p] z <| ay <| bU (RW.at (e (J.wrap (a + 1)) (H)) (ss [] z z) (c z))
  ·exact aU <| aB <| aE <| aA <| R <| D <| A z <| nT <| Z H ▸ xw z
theorem xG (w) {k p0 p1 a_0_0 n_0_0 c_0_0 F_0_0 r} (H : kB p0 p1 = U r) (HS : Q w k [W (V e8 5) F_0_0 p0 [S a_0_0 n_0_0 c_0_0]] w) :
    Calls Tryz.prog 9 #[S a_0_0 n_0_0 c_0_0, I J p1] w (fun en w' => ∃ v, en = .returned v ∧ ∃ a, v = I J r.1 ∧ Q w k [W (V e8 5) a r.2 [S a_0_0 n_0_0 c_0_0]] w') := by
 obtain rfl := aL (i := 0) HS z
 unfold kB at H
 refine ar Tryz.func9 z Tryz.ntmps9 z (HS) <| D <| A z <| P <| E <| D <| A z <| P <| an <| CW.at (HP (fun (f : List Int) (h : Int) (a : Int) => Q w k [W (V e8 5) F_0_0 f [S a_0_0 p0.length c_0_0]]) (fun f h a => [(0, S a_0_0 p0.length c_0_0), (1, I J h), (5, I J a)]) (fun kk => fun f h a => gA p0 kk f h a = U r) nofun (fun k l f h a H => ?_) aI (p0) (p1) (0) (H)) (ss [0] z z) (c z)
 unfold gA at H
 refine E <| D <| C [.p, .p, .lenS 22 5 cC, .p] z <| P <| cI H z ?_ ?_ <;> intro H
 ·exact ai <| R <| E <| an <| D <| C [.p, .p, .p, .cv 3 5 K us3 in5] z <| d H fun k k H => fb (e := e8) (xs := f) (j := a) z z z z z cC ty5 z (av (e := V e8 5) (r := 0) z) k (by rw [Nat.mul_one]) <| tu (i := 0) (j := a) z z z z z z ty5 z k (fun _ => z) kp <| P <| aH <| C [.p, .p, .p] z <| ay <| bR <| R <| aH <| C [.p, .p, .p] z <| ay <| bU (RW.at (l ((f.set a.toNat (K.wrap h))) (J.wrap (h + 1)) (J.wrap (a + 1)) (H)) (ss [0] z z) (c z))
 ·exact aU <| aB <| aE <| aA <| R <| D <| oPP z <| nT <| Z H ▸ xo z fun w' hw' => ⟨_, z, F_0_0, z, hw'.sel [0] z z⟩
theorem nj (w) {p0 r} (H : jg p0 = U r) :
    Calls Tryz.prog 149 #[I J p0] w (fun en w' => en = .returned (vS r) ∧ Ext [] w w') := by
 unfold jg at H
 refine ar Tryz.func149 z Tryz.ntmps149 z (St.init w []) <| D <| A z <| P <| E <| D <| oPP z <| P <| cI H z ?_ ?_ <;> intro H
 ·exact D <| A z <| nT <| Z H ▸ xw z
 ·refine ai <| R <| D <| A z <| P <| E <| an <| CW.at (fc (fun (a : Int) (f : List UInt8) => Q w [] []) (fun a f => [(0, I J a), (3, vS f)]) (fun kk => fun a f => ii kk a f = U r) nofun (fun h h a f H => ?_) aI (p0) (([] : List UInt8)) (H)) (ss [] z z) (c z)
  unfold ii at H
  refine E <| D <| oPP z <| P <| cI H z ?_ ?_ <;> intro H
  ·exact ai <| R <| an <| D <| C [.p, .p, .p, .cv 3 5 K us3 in5] z <| cF (val := I K) (h1 := fun _ => z) [K.wrap (J.wrap (48 + (Int.tmod a 10)))] [(0, [I K (K.wrap (J.wrap (48 + (Int.tmod a 10))))])] z z z z z cC ty5 z z z ⟨z, z, nl z, Y⟩ z z (fun _ => kp) fun f => G z (rI (xs := ([K.wrap (J.wrap (48 + (Int.tmod a 10)))] : List Int)) z z cC in5 st9 (av (e := V e8 5) (r := 0) z)) <| A z <| d H fun f i H => G z (jH z z z i) <| A z <| P <| aH <| C [.p, .p, .p] z <| ay <| bR <| bU (RW.at (h (J.wrap (Int.tdiv a 10)) (f) (H)) (ss [] z z) (c z))
  ·exact aU <| aB <| aE <| aA <| R <| D <| A z <| d H fun a a H => G z (jH z z z a) <| A z <| nT <| Z H ▸ xw z
theorem kY (w) {k p0 p1 a_0_0 n_0_0 c_0_0 F_0_0 r} (H : iw p0 p1 = U r) (HS : Q w k [W (V eI 3) F_0_0 p0 [S a_0_0 n_0_0 c_0_0]] w) :
    Calls Tryz.prog 119 #[S a_0_0 n_0_0 c_0_0, I J p1] w (fun en w' => ∃ v, en = .returned v ∧ ∃ a, v = I J r.1 ∧ Q w k [W (V eI 3) a r.2 [S a_0_0 n_0_0 c_0_0]] w') := by
 obtain rfl := aL (i := 0) HS z
 unfold iw at H
 refine ar Tryz.func119 z Tryz.ntmps119 z (HS) <| D <| A z <| P <| E <| D <| A z <| P <| an <| CW.at (HP (fun (f : List Int) (h : Int) (a : Int) => Q w k [W (V eI 3) F_0_0 f [S a_0_0 p0.length c_0_0]]) (fun f h a => [(0, S a_0_0 p0.length c_0_0), (1, I J h), (5, I J a)]) (fun kk => fun f h a => hZ p0 kk f h a = U r) nofun (fun k l f h a H => ?_) aI (p0) (p1) (0) (H)) (ss [0] z z) (c z)
 unfold hZ at H
 refine E <| D <| C [.p, .p, .lenS 63 3 bB, .p] z <| P <| cI H z ?_ ?_ <;> intro H
 ·exact ai <| R <| E <| an <| D <| C [.p, .p, .p] z <| d H fun k k H => fb (e := eI) (xs := f) (j := a) z z z z z bB ty3 z (av (e := V eI 3) (r := 0) z) k (by rw [Nat.mul_one]) <| tu (i := 0) (j := a) z z z z z z ty3 z k (fun _ => z) kp <| P <| aH <| C [.p, .p, .p] z <| ay <| bR <| R <| aH <| C [.p, .p, .p] z <| ay <| bU (RW.at (l ((f.set a.toNat h)) (J.wrap (h + 1)) (J.wrap (a + 1)) (H)) (ss [0] z z) (c z))
 ·exact aU <| aB <| aE <| aA <| R <| D <| oPP z <| nT <| Z H ▸ xo z fun w' hw' => ⟨_, z, F_0_0, z, hw'.sel [0] z z⟩
theorem qZ (w) {k p0 p1 a_0_0 n_0_0 c_0_0 F_0_0 r} (H : jr p0 p1 = U r) (HS : Q w k [W (V (bC) 9) F_0_0 p0 [S a_0_0 n_0_0 c_0_0]] w) :
    Calls Tryz.prog 117 #[S a_0_0 n_0_0 c_0_0, I J p1] w (fun en w' => ∃ v, en = .returned v ∧ ∃ a, v = I J r.1 ∧ Q w k [W (V (bC) 9) a r.2 [S a_0_0 n_0_0 c_0_0]] w') := by
 obtain rfl := aL (i := 0) HS z
 unfold jr at H
 refine ar Tryz.func117 z Tryz.ntmps117 z (HS) <| D <| A z <| P <| E <| D <| A z <| P <| an <| CW.at (HP (fun (f : List (List UInt8)) (h : Int) (a : Int) => Q w k [W (V (bC) 9) F_0_0 f [S a_0_0 p0.length c_0_0]]) (fun f h a => [(0, S a_0_0 p0.length c_0_0), (1, I J h), (5, I J a)]) (fun kk => fun f h a => fA p0 kk f h a = U r) nofun (fun k m f h a H => ?_) aI (p0) (p1) (0) (H)) (ss [0] z z) (c z)
 unfold fA at H
 refine E <| D <| C [.p, .p, .lenS 24 9 eo, .p] z <| P <| cI H z ?_ ?_ <;> intro H
 ·exact ai <| R <| E <| an <| D <| C [.p, .p, .p] z <| bq H ID (fun _ l o k => nj o l) z tt2 fun q H => d H fun l l H => fb (e := bC) (xs := f) (j := a) z z z z z eo ty9 z (fun o k => av (e := V (bC) 9) (r := 0) z o k) l (by rw [Nat.mul_one]) <| tu (i := 0) (j := a) z z z z z z ty9 z l (fun _ => z) kp <| P <| aH <| C [.p, .p, .p] z <| ay <| bR <| R <| aH <| C [.p, .p, .p] z <| ay <| bU (RW.at (m ((f.set a.toNat q)) (J.wrap (h + 1)) (J.wrap (a + 1)) (H)) (ss [0] z z) (c z))
 ·exact aU <| aB <| aE <| aA <| R <| D <| oPP z <| nT <| Z H ▸ xo z fun w' hw' => ⟨_, z, F_0_0, z, hw'.sel [0] z z⟩
end Go.Vk
