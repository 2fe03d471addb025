/- The code does what the functions of data say. Printed by program. -/
import Derived.Test.YthdoeealefnabaaGreatDoorWSbD
namespace Go.Vk
open Value renaming int → I, slice → S, pointer → O, bool → B
open IntKind renaming i64 → J, u8 → K
open Bool renaming true → y, false → n
open Option renaming some → U, none → N
open Res renaming box → b, own → W
open Go.Proofs Go.RowKit
set_option maxHeartbeats 4000000
set_option maxRecDepth 100000
theorem AX (w : World) {p0 : bi} {p1 : bi} {d : List Value} {e : List Value} {r : Bool} (H : pL p0 p1 = U r) (F : (dL).rd w [] p0 d) (G : (dL).rd w [] p1 e) :
    Calls Tryz.prog 37 #[.agg d.toArray, .agg e.toArray] w (fun en w' => en = .returned (B r) ∧ Ext [] w w') := by
 obtain ⟨L, M, P, Q, R, T, V, rfl, j, k, l, m, o, p, q⟩ := cP F
 obtain ⟨X, Z, rfl, f, g⟩ := aO j
 obtain ⟨a0, a1, rfl⟩ := ah f
 obtain ⟨a2, a3, rfl⟩ := ah g
 obtain rfl := k
 obtain rfl := l
 obtain rfl := m
 obtain rfl := o
 obtain rfl := p
 obtain rfl := q
 obtain ⟨a4, a5, a6, a7, a8, a9, b0, rfl, s, t, u, v, x, A, C⟩ := cP G
 obtain ⟨b1, b2, rfl, h, i⟩ := aO s
 obtain ⟨b3, b4, rfl⟩ := ah h
 obtain ⟨b5, b6, rfl⟩ := ah i
 obtain rfl := t
 obtain rfl := u
 obtain rfl := v
 obtain rfl := x
 obtain rfl := A
 obtain rfl := C
 unfold pL at H
 refine aq Tryz.func37 z Tryz.ntmps37 z (St.init w []) <| sR <| ob _ z fun b7 => ob _ z fun b8 => oP z <| nQ <| ai <| sR <| aa [.fa 47 0 0 mr] z <| o1 z (rx 0 0 _ z ja z) <| aa [.fa 47 0 0 mr] z <| o1 z (rx 0 1 _ z ja z) <| bE H fun b9 D H => oq z (qc z Qo (fun c a => yc c D (av (ab f c a) (ab g c a)) (av (ab h c a) (ab i c a)))) tt2 <| oP z <| nQ <| cI H z (fun H => ?_) (fun H => ?_)
 ·exact sR <| oP z <| nT <| af <| xr 4 z (by cases H; exact q1)
 ·refine aj <| ao <| ai <| sR <| aa [.fa 47 1 2 ru] z <| o1 z (rx 2 0 _ z ry z) <| aa [.fa 47 1 2 ru] z <| o1 z (rx 2 1 _ z ry z) <| bE H fun c0 E H => oq z (qc z PG (fun c a => zM c (p0 := p0.c_) (p1 := p1.c_) E)) tt2 <| oP z <| nQ <| cI H z (fun H => ?_) (fun H => ?_)
  ·exact sR <| oP z <| nT <| af <| xr 4 z (by cases H; exact q1)
  ·refine aj <| ao <| ai <| sR <| aa [.fa 47 2 9 ta] z <| o1 z (r1 9 0 z ty3 z) <| aa [.fa 47 2 9 ta] z <| o1 z (r1 9 1 z ty3 z) <| oP z <| nQ <| cI H z (fun H => ?_) (fun H => ?_)
   ·exact sR <| oP z <| nT <| af <| xr 4 z (by cases H; exact q1)
   ·refine aj <| ao <| ai <| sR <| aa [.fa 47 3 10 vJ] z <| o1 z (r1 10 0 z ty3 z) <| aa [.fa 47 3 10 vJ] z <| o1 z (r1 10 1 z ty3 z) <| oP z <| nQ <| cI H z (fun H => ?_) (fun H => ?_)
    ·exact sR <| oP z <| nT <| af <| xr 4 z (by cases H; exact q1)
    ·refine aj <| ao <| ai <| sR <| aa [.fa 47 4 11 vR] z <| o1 z (r1 11 0 z ty3 z) <| aa [.fa 47 4 11 vR] z <| o1 z (r1 11 1 z ty3 z) <| oP z <| nQ <| cI H z (fun H => ?_) (fun H => ?_)
     ·exact sR <| oP z <| nT <| af <| xr 4 z (by cases H; exact q1)
     ·refine aj <| ao <| ai <| sR <| aa [.fa 47 5 12 tr] z <| o1 z (r1 12 0 z ty3 z) <| aa [.fa 47 5 12 tr] z <| o1 z (r1 12 1 z ty3 z) <| oP z <| nQ <| cI H z (fun H => ?_) (fun H => ?_)
      ·exact sR <| oP z <| nT <| af <| xr 4 z (by cases H; exact q1)
      ·refine aj <| ao <| ai <| sR <| aa [.fa 47 6 13 sP] z <| o1 z (r1 13 0 z ty3 z) <| aa [.fa 47 6 13 sP] z <| o1 z (r1 13 1 z ty3 z) <| oP z <| nQ <| cI H z (fun H => ?_) (fun H => ?_)
       ·exact sR <| oP z <| nT <| af <| xr 4 z (by cases H; exact q1)
       ·exact aj <| ao <| sR <| oP z <| nT <| xr 4 z (by cases H; exact q1)
theorem AP (w : World) {p0 : bC} {p1 : bC} {r : Bool} (H : pU p0 p1 = U r)   :
    Calls Tryz.prog 202 #[.agg #[I J p0.q_, I J p0.u_], .agg #[I J p1.q_, I J p1.u_]] w (fun en w' => en = .returned (B r) ∧ Ext [] w w') := by
 unfold pU at H
 refine aq Tryz.func202 z Tryz.ntmps202 z (St.init w []) <| sR <| ob _ z fun a => ob _ z fun c => oP z <| nQ <| ai <| sR <| aa [.fa 117 0 0 ky] z <| o1 z (r1 0 0 z ty3 z) <| aa [.fa 117 0 0 ky] z <| o1 z (r1 0 1 z ty3 z) <| oP z <| nQ <| cI H z (fun H => ?_) (fun H => ?_)
 ·exact sR <| oP z <| nT <| af <| xr 4 z (by cases H; exact q1)
 ·refine aj <| ao <| ai <| sR <| aa [.fa 117 1 1 mb] z <| o1 z (r1 1 0 z ty3 z) <| aa [.fa 117 1 1 mb] z <| o1 z (r1 1 1 z ty3 z) <| oP z <| nQ <| cI H z (fun H => ?_) (fun H => ?_)
  ·exact sR <| oP z <| nT <| af <| xr 4 z (by cases H; exact q1)
  ·exact aj <| ao <| sR <| oP z <| nT <| xr 4 z (by cases H; exact q1)
theorem qm (w : World) {p0 : List (List Int)} {p1 : List (List Int)} {a_0 : Option Addr} {n_0 c_0 : Nat} {a_1 : Option Addr} {n_1 c_1 : Nat} {r : Bool} (H : ko p0 p1 = U r) (j : (ae (ae eI 3) 69).rd w [] p0 [S a_0 n_0 c_0]) (k : (ae (ae eI 3) 69).rd w [] p1 [S a_1 n_1 c_1]) :
    Calls Tryz.prog 75 #[S a_0 n_0 c_0, S a_1 n_1 c_1] w (fun en w' => en = .returned (B r) ∧ Ext [] w w') := by
 obtain rfl := eb j
 obtain rfl := eb k
 unfold ko at H
 refine aq Tryz.func75 z Tryz.ntmps75 z (St.init w []) <| sR <| oP z <| nQ <| ai <| sR <| aa [.p, .lenS 33 69 eK, .p, .lenS 33 69 eK, .p] z <| nQ <| cI H z (fun H => ?_) (fun H => ?_)
 ·exact sR <| oP z <| nT <| af <| xr 4 z (by cases H; exact q1)
 ·refine aj <| ao <| ai <| sR <| oP z <| nQ <| an <| CW.at (dn (fun (a : Int) => St w [] []) (fun a => [(0, S a_0 p0.length c_0), (1, S a_1 p1.length c_1), (5, I J a)]) (fun kk => fun a => jm p0 p1 kk a = U r) (fun _ H => ?_) (fun G f a H => ?_) aK (0) (H)) (ss [] z z) (sb z)
  ·unfold jm at H
   exact absurd H (by simp)
  ·unfold jm at H
   refine ai <| sR <| aa [.p, .p, .lenS 33 69 eK, .p] z <| nQ <| cI H z (fun H => ?_) (fun H => ?_)
   ·refine aj <| ao <| ai <| an <| ai <| eF eR (by kernel_rfl) <| oPP z <| bE H fun q l H => bQ z z z z z eK bW z j l fun s t c g => ?_
    obtain ⟨u, v, rfl⟩ := ah c
    refine o1 z (aF z z bW (bB bor g)) <| oPP z <| bE H fun x m H => bQ z z z z z eK bW z k m fun A C d h => ?_
    obtain ⟨D, E, rfl⟩ := ah d
    refine o1 z (aF z z bW (bB bor h)) <| bE H fun F o H => oq z (qc z EE (fun i e => lv i o (ab c i e) (ab d i e))) tt2 <| oP z <| dg <| ao <| cI H z (fun H => ?_) (fun H => ?_)
    ·exact sR <| oP z <| nT <| ar <| af <| bd <| ar <| af <| xr 4 z (by cases H; exact q1)
    ·exact aj <| cx <| ao <| aJ <| aa [.p, .p, .p] z <| aE <| cz (RW.at (f (J.wrap (a + 1)) (H)) (ss [] z z) (sb z))
   ·exact bb <| aw <| ay <| ax <| ao <| sR <| oP z <| nT <| xr 4 z (by cases H; exact q1)
theorem yY (w : World) {p0 : aV} {p1 : aV} {d : List Value} {e : List Value} {r : Bool} (H : ow p0 p1 = U r) (l : (cL).rd w [] p0 d) (m : (cL).rd w [] p1 e) :
    Calls Tryz.prog 203 #[.agg d.toArray, .agg e.toArray] w (fun en w' => en = .returned (B r) ∧ Ext [] w w') := by
 obtain ⟨o, p, rfl, f, g⟩ := aX l
 obtain ⟨q, s, rfl⟩ := ah f
 obtain ⟨t, u, rfl⟩ := ah g
 obtain ⟨v, x, rfl, h, i⟩ := aX m
 obtain ⟨A, C, rfl⟩ := ah h
 obtain ⟨D, E, rfl⟩ := ah i
 unfold ow at H
 refine aq Tryz.func203 z Tryz.ntmps203 z (St.init w []) <| sR <| ob _ z fun F => ob _ z fun G => oP z <| nQ <| ai <| sR <| aa [.fa 119 0 0 gS] z <| o1 z (r1 0 0 z bW z) <| aa [.fa 119 0 0 gS] z <| o1 z (r1 0 1 z bW z) <| bE H fun L j H => oq z (qc z EE (fun c a => lv c j (ab f c a) (ab h c a))) tt2 <| oP z <| nQ <| cI H z (fun H => ?_) (fun H => ?_)
 ·exact sR <| oP z <| nT <| af <| xr 4 z (by cases H; exact q1)
 ·refine aj <| ao <| ai <| sR <| aa [.fa 119 1 1 fm] z <| o1 z (r1 1 0 z fw z) <| aa [.fa 119 1 1 fm] z <| o1 z (r1 1 1 z fw z) <| bE H fun M k H => oq z (qc z Mz (fun c a => qm c k (ab g c a) (ab i c a))) tt2 <| oP z <| nQ <| cI H z (fun H => ?_) (fun H => ?_)
  ·exact sR <| oP z <| nT <| af <| xr 4 z (by cases H; exact q1)
  ·exact aj <| ao <| sR <| oP z <| nT <| xr 4 z (by cases H; exact q1)
theorem zJ (w : World) {p0 : au} {p1 : au} {d : List Value} {e : List Value} {r : Bool} (H : nF p0 p1 = U r) (V : (bc).rd w [] p0 d) (X : (bc).rd w [] p1 e) :
    Calls Tryz.prog 186 #[.agg d.toArray, .agg e.toArray] w (fun en w' => en = .returned (B r) ∧ Ext [] w w') := by
 obtain ⟨Z, a0, a1, a2, a3, a4, a5, a6, a7, a8, rfl, o, p, f, q, s, t, g, u, v, x⟩ := bA V
 obtain rfl := o
 obtain rfl := p
 obtain ⟨a9, b0, rfl⟩ := ah f
 obtain rfl := q
 obtain ⟨b1, b2, rfl, h, i⟩ := aX s
 obtain ⟨b3, b4, rfl⟩ := ah h
 obtain ⟨b5, b6, rfl⟩ := ah i
 obtain rfl := t
 obtain ⟨b7, b8, rfl⟩ := ah g
 obtain rfl := u
 obtain rfl := v
 obtain rfl := x
 obtain ⟨b9, c0, c1, c2, c3, c4, c5, c6, c7, c8, rfl, A, C, j, D, E, F, k, G, L, M⟩ := bA X
 obtain rfl := A
 obtain rfl := C
 obtain ⟨c9, d0, rfl⟩ := ah j
 obtain rfl := D
 obtain ⟨d1, d2, rfl, l, m⟩ := aX E
 obtain ⟨d3, d4, rfl⟩ := ah l
 obtain ⟨d5, d6, rfl⟩ := ah m
 obtain rfl := F
 obtain ⟨d7, d8, rfl⟩ := ah k
 obtain rfl := G
 obtain rfl := L
 obtain rfl := M
 unfold nF at H
 refine aq Tryz.func186 z Tryz.ntmps186 z (St.init w []) <| sR <| ob _ z fun d9 => ob _ z fun e0 => oP z <| nQ <| ai <| sR <| aa [.fa 121 0 0 kz] z <| o1 z (r1 0 0 z ty4 z) <| aa [.fa 121 0 0 kz] z <| o1 z (r1 0 1 z ty4 z) <| o1 z (Cv z z z bl4) <| nQ <| cI H z (fun H => ?_) (fun H => ?_)
 ·exact sR <| oP z <| nT <| af <| xr 4 z (by cases H; exact q1)
 ·refine aj <| ao <| ai <| sR <| aa [.fa 121 1 1 iW] z <| o1 z (rx 1 0 _ z oI z) <| aa [.fa 121 1 1 iW] z <| o1 z (rx 1 1 _ z oI z) <| bE H fun e1 P H => oq z (qc z NW (fun c a => AP c (p0 := p0.g_) (p1 := p1.g_) P)) tt2 <| oP z <| nQ <| cI H z (fun H => ?_) (fun H => ?_)
  ·exact sR <| oP z <| nT <| af <| xr 4 z (by cases H; exact q1)
  ·refine aj <| ao <| ai <| sR <| aa [.fa 121 2 3 gf] z <| o1 z (r1 3 0 z bW z) <| aa [.fa 121 2 3 gf] z <| o1 z (r1 3 1 z bW z) <| bE H fun e2 Q H => oq z (qc z EE (fun c a => lv c Q (ab f c a) (ab j c a))) tt2 <| oP z <| nQ <| cI H z (fun H => ?_) (fun H => ?_)
   ·exact sR <| oP z <| nT <| af <| xr 4 z (by cases H; exact q1)
   ·refine aj <| ao <| ai <| sR <| aa [.fa 121 3 4 mc] z <| o1 z (r1 4 0 z ty3 z) <| aa [.fa 121 3 4 mc] z <| o1 z (r1 4 1 z ty3 z) <| oP z <| nQ <| cI H z (fun H => ?_) (fun H => ?_)
    ·exact sR <| oP z <| nT <| af <| xr 4 z (by cases H; exact q1)
    ·refine aj <| ao <| ai <| sR <| aa [.fa 121 4 5 eY] z <| o1 z (rx 5 0 _ z rr z) <| aa [.fa 121 4 5 eY] z <| o1 z (rx 5 1 _ z rr z) <| bE H fun e3 R H => oq z (qc z OS (fun c a => yY c R (ct (ab h c a) (ab i c a)) (ct (ab l c a) (ab m c a)))) tt2 <| oP z <| nQ <| cI H z (fun H => ?_) (fun H => ?_)
     ·exact sR <| oP z <| nT <| af <| xr 4 z (by cases H; exact q1)
     ·refine aj <| ao <| ai <| sR <| aa [.fa 121 5 7 ln] z <| o1 z (r1 7 0 z ty3 z) <| aa [.fa 121 5 7 ln] z <| o1 z (r1 7 1 z ty3 z) <| oP z <| nQ <| cI H z (fun H => ?_) (fun H => ?_)
      ·exact sR <| oP z <| nT <| af <| xr 4 z (by cases H; exact q1)
      ·refine aj <| ao <| ai <| sR <| aa [.fa 121 6 8 mX] z <| o1 z (r1 8 0 z bW z) <| aa [.fa 121 6 8 mX] z <| o1 z (r1 8 1 z bW z) <| bE H fun e4 T H => oq z (qc z EE (fun c a => lv c T (ab g c a) (ab k c a))) tt2 <| oP z <| nQ <| cI H z (fun H => ?_) (fun H => ?_)
       ·exact sR <| oP z <| nT <| af <| xr 4 z (by cases H; exact q1)
       ·refine aj <| ao <| ai <| sR <| aa [.fa 121 7 9 gB] z <| o1 z (r1 9 0 z ty3 z) <| aa [.fa 121 7 9 gB] z <| o1 z (r1 9 1 z ty3 z) <| oP z <| nQ <| cI H z (fun H => ?_) (fun H => ?_)
        ·exact sR <| oP z <| nT <| af <| xr 4 z (by cases H; exact q1)
        ·refine aj <| ao <| ai <| sR <| aa [.fa 121 8 10 jF] z <| o1 z (r1 10 0 z ty3 z) <| aa [.fa 121 8 10 jF] z <| o1 z (r1 10 1 z ty3 z) <| oP z <| nQ <| cI H z (fun H => ?_) (fun H => ?_)
         ·exact sR <| oP z <| nT <| af <| xr 4 z (by cases H; exact q1)
         ·refine aj <| ao <| ai <| sR <| aa [.fa 121 9 11 jy] z <| o1 z (r1 11 0 z ty3 z) <| aa [.fa 121 9 11 jy] z <| o1 z (r1 11 1 z ty3 z) <| oP z <| nQ <| cI H z (fun H => ?_) (fun H => ?_)
          ·exact sR <| oP z <| nT <| af <| xr 4 z (by cases H; exact q1)
          ·exact aj <| ao <| sR <| oP z <| nT <| xr 4 z (by cases H; exact q1)
theorem yN (w : World) {p0 : List au} {p1 : List au} {a_0 : Option Addr} {n_0 c_0 : Nat} {a_1 : Option Addr} {n_1 c_1 : Nat} {r : Bool} (H : oU p0 p1 = U r) (g0 : (ae (bc) 121).rd w [] p0 [S a_0 n_0 c_0]) (g1 : (ae (bc) 121).rd w [] p1 [S a_1 n_1 c_1]) :
    Calls Tryz.prog 170 #[S a_0 n_0 c_0, S a_1 n_1 c_1] w (fun en w' => en = .returned (B r) ∧ Ext [] w w') := by
 obtain rfl := eb g0
 obtain rfl := eb g1
 unfold oU at H
 refine aq Tryz.func170 z Tryz.ntmps170 z (St.init w []) <| sR <| oP z <| nQ <| ai <| sR <| aa [.p, .lenS 71 121 fT, .p, .lenS 71 121 fT, .p] z <| nQ <| cI H z (fun H => ?_) (fun H => ?_)
 ·exact sR <| oP z <| nT <| af <| xr 4 z (by cases H; exact q1)
 ·refine aj <| ao <| ai <| sR <| oP z <| nQ <| an <| CW.at (dn (fun (e : Int) => St w [] []) (fun e => [(0, S a_0 p0.length c_0), (1, S a_1 p1.length c_1), (5, I J e)]) (fun kk => fun e => jh p0 p1 kk e = U r) (fun _ H => ?_) (fun k1 v e H => ?_) aK (0) (H)) (ss [] z z) (sb z)
  ·unfold jh at H
   exact absurd H (by simp)
  ·unfold jh at H
   refine ai <| sR <| aa [.p, .p, .lenS 71 121 fT, .p] z <| nQ <| cI H z (fun H => ?_) (fun H => ?_)
   ·refine aj <| ao <| ai <| an <| ai <| eF eR (by kernel_rfl) <| oPP z <| bE H fun a x H => bQ z z z z z fT co z g0 x fun c1 c2 q s => ?_
    obtain ⟨c3, c4, c5, c6, c7, c8, c9, d0, d1, d2, rfl, A, C, g, D, E, F, h, G, L, M⟩ := bA q
    obtain rfl := A
    obtain rfl := C
    obtain ⟨P, Q, rfl⟩ := ah g
    obtain rfl := D
    obtain ⟨d3, d4, rfl, i, j⟩ := aX E
    obtain ⟨R, T, rfl⟩ := ah i
    obtain ⟨V, X, rfl⟩ := ah j
    obtain rfl := F
    obtain ⟨Z, a0, rfl⟩ := ah h
    obtain rfl := G
    obtain rfl := L
    obtain rfl := M
    refine o1 z (cu (cs := [B a.y_, I J a.g_.q_, I J a.g_.u_, S P a.r_.length Q, I J a.C_, S R a.i_.k_.length T, S V a.i_.h_.length X, I J a.D_, S Z a.d_.length a0, I J a.f_, I J a.x_, I J a.B_]) z z co (bB bor s) z) <| oPP z <| bE H fun c a1 H => bQ z z z z z fT co z g1 a1 fun d5 d6 t u => ?_
    obtain ⟨d7, d8, d9, e0, e1, e2, e3, e4, e5, e6, rfl, a2, a3, k, a4, a5, a6, l, a7, a8, a9⟩ := bA t
    obtain rfl := a2
    obtain rfl := a3
    obtain ⟨b0, b1, rfl⟩ := ah k
    obtain rfl := a4
    obtain ⟨e7, e9, rfl, m, o⟩ := aX a5
    obtain ⟨b2, b3, rfl⟩ := ah m
    obtain ⟨b4, b5, rfl⟩ := ah o
    obtain rfl := a6
    obtain ⟨b6, b7, rfl⟩ := ah l
    obtain rfl := a7
    obtain rfl := a8
    obtain rfl := a9
    refine o1 z (cu (cs := [B c.y_, I J c.g_.q_, I J c.g_.u_, S b0 c.r_.length b1, I J c.C_, S b2 c.i_.k_.length b3, S b4 c.i_.h_.length b5, I J c.D_, S b6 c.d_.length b7, I J c.f_, I J c.x_, I J c.B_]) z z co (bB bor u) z) <| bE H fun f0 b8 H => oq z (qc z Nb (fun f d => zJ f b8 (ga z z (ab g f d) z (ct (ab i f d) (ab j f d)) z (ab h f d) z z z) (ga z z (ab k f d) z (ct (ab m f d) (ab o f d)) z (ab l f d) z z z))) tt2 <| oP z <| dg <| ao <| cI H z (fun H => ?_) (fun H => ?_)
    ·exact sR <| oP z <| nT <| ar <| af <| bd <| ar <| af <| xr 4 z (by cases H; exact q1)
    ·exact aj <| cx <| ao <| aJ <| aa [.p, .p, .p] z <| aE <| cz (RW.at (v (J.wrap (e + 1)) (H)) (ss [] z z) (sb z))
   ·exact bb <| aw <| ay <| ax <| ao <| sR <| oP z <| nT <| xr 4 z (by cases H; exact q1)
theorem uC (w : World) {p0 : ap} {p1 : ap} {a : List Value} {c : List Value} {r : Bool} (H : nu p0 p1 = U r) (k : (bp).rd w [] p0 a) (l : (bp).rd w [] p1 c) :
    Calls Tryz.prog 146 #[.agg a.toArray, .agg c.toArray] w (fun en w' => en = .returned (B r) ∧ Ext [] w w') := by
 obtain ⟨m, o, rfl, d, h⟩ := aW k
 obtain ⟨p, q, rfl⟩ := ah d
 obtain rfl := h
 obtain ⟨s, t, rfl, e, i⟩ := aW l
 obtain ⟨u, v, rfl⟩ := ah e
 obtain rfl := i
 unfold nu at H
 refine aq Tryz.func146 z Tryz.ntmps146 z (St.init w []) <| sR <| ob _ z fun x => ob _ z fun A => oP z <| nQ <| ai <| sR <| aa [.fa 73 0 0 eg] z <| o1 z (r1 0 0 z kN z) <| aa [.fa 73 0 0 eg] z <| o1 z (r1 0 1 z kN z) <| bE H fun C j H => oq z (qc z Oe (fun g f => yN g j (ab d g f) (ab e g f))) tt2 <| oP z <| nQ <| cI H z (fun H => ?_) (fun H => ?_)
 ·exact sR <| oP z <| nT <| af <| xr 4 z (by cases H; exact q1)
 ·refine aj <| ao <| ai <| sR <| aa [.fa 73 1 1 nf] z <| o1 z (r1 1 0 z ty3 z) <| aa [.fa 73 1 1 nf] z <| o1 z (r1 1 1 z ty3 z) <| oP z <| nQ <| cI H z (fun H => ?_) (fun H => ?_)
  ·exact sR <| oP z <| nT <| af <| xr 4 z (by cases H; exact q1)
  ·exact aj <| ao <| sR <| oP z <| nT <| xr 4 z (by cases H; exact q1)
theorem sK (w : World) {p0 : aA} {p1 : aA} {a : List Value} {c : List Value} {r : Bool} (H : lf p0 p1 = U r) (i : (bI).rd w [] p0 a) (j : (bI).rd w [] p1 c) :
    Calls Tryz.prog 171 #[.agg a.toArray, .agg c.toArray] w (fun en w' => en = .returned (B r) ∧ Ext [] w w') := by
 obtain ⟨k, rfl, d⟩ := aT i
 obtain ⟨l, m, rfl⟩ := ah d
 obtain ⟨o, rfl, e⟩ := aT j
 obtain ⟨p, q, rfl⟩ := ah e
 unfold lf at H
 refine aq Tryz.func171 z Tryz.ntmps171 z (St.init w []) <| sR <| ob _ z fun s => ob _ z fun t => oP z <| nQ <| ai <| sR <| aa [.fa 75 0 0 lu] z <| o1 z (r1 0 0 z fw z) <| aa [.fa 75 0 0 lu] z <| o1 z (r1 0 1 z fw z) <| bE H fun u h H => oq z (qc z Mz (fun g f => qm g h (ab d g f) (ab e g f))) tt2 <| oP z <| nQ <| cI H z (fun H => ?_) (fun H => ?_)
 ·exact sR <| oP z <| nT <| af <| xr 4 z (by cases H; exact q1)
 ·exact aj <| ao <| sR <| oP z <| nT <| xr 4 z (by cases H; exact q1)
theorem BJ (w : World) {p0 : cf} {p1 : cf} {d : List Value} {e : List Value} {r : Bool} (H : rh p0 p1 = U r) (q : (eE).rd w [] p0 d) (s : (eE).rd w [] p1 e) :
    Calls Tryz.prog 147 #[.agg d.toArray, .agg e.toArray] w (fun en w' => en = .returned (B r) ∧ Ext [] w w') := by
 obtain ⟨t, u, rfl, j, k⟩ := dE q
 obtain ⟨v, rfl, f⟩ := aT j
 obtain ⟨x, A, rfl⟩ := ah f
 obtain ⟨C, rfl, g⟩ := aT k
 obtain ⟨D, E, rfl⟩ := ah g
 obtain ⟨F, G, rfl, l, m⟩ := dE s
 obtain ⟨L, rfl, h⟩ := aT l
 obtain ⟨M, P, rfl⟩ := ah h
 obtain ⟨Q, rfl, i⟩ := aT m
 obtain ⟨R, T, rfl⟩ := ah i
 unfold rh at H
 refine aq Tryz.func147 z Tryz.ntmps147 z (St.init w []) <| sR <| ob _ z fun V => ob _ z fun X => oP z <| nQ <| ai <| sR <| aa [.fa 77 0 0 un] z <| o1 z (rx 0 0 _ z sM z) <| aa [.fa 77 0 0 un] z <| o1 z (rx 0 1 _ z sM z) <| bE H fun Z o H => oq z (qc z LL (fun c a => sK c o (bg (ab f c a)) (bg (ab h c a)))) tt2 <| oP z <| nQ <| cI H z (fun H => ?_) (fun H => ?_)
 ·exact sR <| oP z <| nT <| af <| xr 4 z (by cases H; exact q1)
 ·refine aj <| ao <| ai <| sR <| aa [.fa 77 1 1 tX] z <| o1 z (rx 1 0 _ z sM z) <| aa [.fa 77 1 1 tX] z <| o1 z (rx 1 1 _ z sM z) <| bE H fun a0 p H => oq z (qc z LL (fun c a => sK c p (bg (ab g c a)) (bg (ab i c a)))) tt2 <| oP z <| nQ <| cI H z (fun H => ?_) (fun H => ?_)
  ·exact sR <| oP z <| nT <| af <| xr 4 z (by cases H; exact q1)
  ·exact aj <| ao <| sR <| oP z <| nT <| xr 4 z (by cases H; exact q1)
theorem xu (w : World) {p0 : az} {p1 : az} {d : List Value} {e : List Value} {r : Bool} (H : lg p0 p1 = U r) (T : (ba).rd w [] p0 d) (V : (ba).rd w [] p1 e) :
    Calls Tryz.prog 113 #[.agg d.toArray, .agg e.toArray] w (fun en w' => en = .returned (B r) ∧ Ext [] w w') := by
 obtain ⟨X, Z, a0, a1, rfl, o, p, q, s⟩ := dX T
 obtain ⟨a2, a3, rfl, f, t⟩ := aW o
 obtain ⟨a4, a5, rfl⟩ := ah f
 obtain rfl := t
 obtain rfl := p
 obtain ⟨a6, a7, rfl, g, u⟩ := aW q
 obtain ⟨a8, a9, rfl⟩ := ah g
 obtain rfl := u
 obtain ⟨b0, b1, rfl, v, x⟩ := dE s
 obtain ⟨b2, rfl, h⟩ := aT v
 obtain ⟨b3, b4, rfl⟩ := ah h
 obtain ⟨b5, rfl, i⟩ := aT x
 obtain ⟨b6, b7, rfl⟩ := ah i
 obtain ⟨b8, b9, c0, c1, rfl, A, C, D, E⟩ := dX V
 obtain ⟨c2, c3, rfl, j, F⟩ := aW A
 obtain ⟨c4, c5, rfl⟩ := ah j
 obtain rfl := F
 obtain rfl := C
 obtain ⟨c6, c7, rfl, k, G⟩ := aW D
 obtain ⟨c8, c9, rfl⟩ := ah k
 obtain rfl := G
 obtain ⟨d0, d1, rfl, L, M⟩ := dE E
 obtain ⟨d2, rfl, l⟩ := aT L
 obtain ⟨d3, d4, rfl⟩ := ah l
 obtain ⟨d5, rfl, m⟩ := aT M
 obtain ⟨d6, d7, rfl⟩ := ah m
 unfold lg at H
 refine aq Tryz.func113 z Tryz.ntmps113 z (St.init w []) <| sR <| ob _ z fun d8 => ob _ z fun d9 => oP z <| nQ <| ai <| sR <| aa [.fa 79 0 0 sX] z <| o1 z (rx 0 0 _ z ol z) <| aa [.fa 79 0 0 sX] z <| o1 z (rx 0 1 _ z ol z) <| bE H fun e0 P H => oq z (qc z Ln (fun c a => uC c P (bh (ab f c a) z) (bh (ab j c a) z))) tt2 <| oP z <| nQ <| cI H z (fun H => ?_) (fun H => ?_)
 ·exact sR <| oP z <| nT <| af <| xr 4 z (by cases H; exact q1)
 ·refine aj <| ao <| ai <| sR <| aa [.fa 79 1 2 tO] z <| o1 z (r1 2 0 z ty4 z) <| aa [.fa 79 1 2 tO] z <| o1 z (r1 2 1 z ty4 z) <| o1 z (Cv z z z bl4) <| nQ <| cI H z (fun H => ?_) (fun H => ?_)
  ·exact sR <| oP z <| nT <| af <| xr 4 z (by cases H; exact q1)
  ·refine aj <| ao <| ai <| sR <| aa [.fa 79 2 3 qh] z <| o1 z (rx 3 0 _ z ol z) <| aa [.fa 79 2 3 qh] z <| o1 z (rx 3 1 _ z ol z) <| bE H fun e1 Q H => oq z (qc z Ln (fun c a => uC c Q (bh (ab g c a) z) (bh (ab k c a) z))) tt2 <| oP z <| nQ <| cI H z (fun H => ?_) (fun H => ?_)
   ·exact sR <| oP z <| nT <| af <| xr 4 z (by cases H; exact q1)
   ·refine aj <| ao <| ai <| sR <| aa [.fa 79 3 5 rf] z <| o1 z (rx 5 0 _ z Bd z) <| aa [.fa 79 3 5 rf] z <| o1 z (rx 5 1 _ z Bd z) <| bE H fun e2 R H => oq z (qc z Ol (fun c a => BJ c R (gF (bg (ab h c a)) (bg (ab i c a))) (gF (bg (ab l c a)) (bg (ab m c a))))) tt2 <| oP z <| nQ <| cI H z (fun H => ?_) (fun H => ?_)
    ·exact sR <| oP z <| nT <| af <| xr 4 z (by cases H; exact q1)
    ·exact aj <| ao <| sR <| oP z <| nT <| xr 4 z (by cases H; exact q1)
theorem wd (w : World) {p0 : List az} {p1 : List az} {a_0 : Option Addr} {n_0 c_0 : Nat} {a_1 : Option Addr} {n_1 c_1 : Nat} {r : Bool} (H : lS p0 p1 = U r) (g0 : (ae (ba) 79).rd w [] p0 [S a_0 n_0 c_0]) (g1 : (ae (ba) 79).rd w [] p1 [S a_1 n_1 c_1]) :
    Calls Tryz.prog 74 #[S a_0 n_0 c_0, S a_1 n_1 c_1] w (fun en w' => en = .returned (B r) ∧ Ext [] w w') := by
 obtain rfl := eb g0
 obtain rfl := eb g1
 unfold lS at H
 refine aq Tryz.func74 z Tryz.ntmps74 z (St.init w []) <| sR <| oP z <| nQ <| ai <| sR <| aa [.p, .lenS 48 79 qi, .p, .lenS 48 79 qi, .p] z <| nQ <| cI H z (fun H => ?_) (fun H => ?_)
 ·exact sR <| oP z <| nT <| af <| xr 4 z (by cases H; exact q1)
 ·refine aj <| ao <| ai <| sR <| oP z <| nQ <| an <| CW.at (dn (fun (e : Int) => St w [] []) (fun e => [(0, S a_0 p0.length c_0), (1, S a_1 p1.length c_1), (5, I J e)]) (fun kk => fun e => gZ p0 p1 kk e = U r) (fun _ H => ?_) (fun k1 v e H => ?_) aK (0) (H)) (ss [] z z) (sb z)
  ·unfold gZ at H
   exact absurd H (by simp)
  ·unfold gZ at H
   refine ai <| sR <| aa [.p, .p, .lenS 48 79 qi, .p] z <| nQ <| cI H z (fun H => ?_) (fun H => ?_)
   ·refine aj <| ao <| ai <| an <| ai <| eF eR (by kernel_rfl) <| oPP z <| bE H fun a x H => bQ z z z z z qi mC z g0 x fun c1 c2 q s => ?_
    obtain ⟨c3, c4, c5, c6, rfl, A, C, D, E⟩ := dX q
    obtain ⟨c7, c8, rfl, g, F⟩ := aW A
    obtain ⟨G, L, rfl⟩ := ah g
    obtain rfl := F
    obtain rfl := C
    obtain ⟨c9, d0, rfl, h, M⟩ := aW D
    obtain ⟨P, Q, rfl⟩ := ah h
    obtain rfl := M
    obtain ⟨d1, d2, rfl, R, T⟩ := dE E
    obtain ⟨d3, rfl, i⟩ := aT R
    obtain ⟨V, X, rfl⟩ := ah i
    obtain ⟨d4, rfl, j⟩ := aT T
    obtain ⟨Z, a0, rfl⟩ := ah j
    refine o1 z (cu (cs := [S G a.F_.b_.length L, I J a.F_.A_, B a.S_, S P a.w_.b_.length Q, I J a.w_.A_, S V a.H_.s_.o_.length X, S Z a.H_.t_.o_.length a0]) z z mC (bB bor s) z) <| oPP z <| bE H fun c a1 H => bQ z z z z z qi mC z g1 a1 fun d5 d6 t u => ?_
    obtain ⟨d7, d8, d9, e0, rfl, a2, a3, a4, a5⟩ := dX t
    obtain ⟨e1, e2, rfl, k, a6⟩ := aW a2
    obtain ⟨a7, a8, rfl⟩ := ah k
    obtain rfl := a6
    obtain rfl := a3
    obtain ⟨e3, e4, rfl, l, a9⟩ := aW a4
    obtain ⟨b0, b1, rfl⟩ := ah l
    obtain rfl := a9
    obtain ⟨e5, e6, rfl, b2, b3⟩ := dE a5
    obtain ⟨e7, rfl, m⟩ := aT b2
    obtain ⟨b4, b5, rfl⟩ := ah m
    obtain ⟨e9, rfl, o⟩ := aT b3
    obtain ⟨b6, b7, rfl⟩ := ah o
    refine o1 z (cu (cs := [S a7 c.F_.b_.length a8, I J c.F_.A_, B c.S_, S b0 c.w_.b_.length b1, I J c.w_.A_, S b4 c.H_.s_.o_.length b5, S b6 c.H_.t_.o_.length b7]) z z mC (bB bor u) z) <| bE H fun f0 b8 H => oq z (qc z Nw (fun f d => xu f b8 (kg (bh (ab g f d) z) z (bh (ab h f d) z) (gF (bg (ab i f d)) (bg (ab j f d)))) (kg (bh (ab k f d) z) z (bh (ab l f d) z) (gF (bg (ab m f d)) (bg (ab o f d)))))) tt2 <| oP z <| dg <| ao <| cI H z (fun H => ?_) (fun H => ?_)
    ·exact sR <| oP z <| nT <| ar <| af <| bd <| ar <| af <| xr 4 z (by cases H; exact q1)
    ·exact aj <| cx <| ao <| aJ <| aa [.p, .p, .p] z <| aE <| cz (RW.at (v (J.wrap (e + 1)) (H)) (ss [] z z) (sb z))
   ·exact bb <| aw <| ay <| ax <| ao <| sR <| oP z <| nT <| xr 4 z (by cases H; exact q1)
theorem xY (w : World) {p0 : bP} {p1 : bP} {a : List Value} {c : List Value} {r : Bool} (H : mP p0 p1 = U r) (i : (fy).rd w [] p0 a) (j : (fy).rd w [] p1 c) :
    Calls Tryz.prog 38 #[.agg a.toArray, .agg c.toArray] w (fun en w' => en = .returned (B r) ∧ Ext [] w w') := by
 obtain ⟨k, rfl, d⟩ := er i
 obtain ⟨l, m, rfl⟩ := ah d
 obtain ⟨o, rfl, e⟩ := er j
 obtain ⟨p, q, rfl⟩ := ah e
 unfold mP at H
 refine aq Tryz.func38 z Tryz.ntmps38 z (St.init w []) <| sR <| ob _ z fun s => ob _ z fun t => oP z <| nQ <| ai <| sR <| aa [.fa 50 0 0 qo] z <| o1 z (r1 0 0 z yI z) <| aa [.fa 50 0 0 qo] z <| o1 z (r1 0 1 z yI z) <| bE H fun u h H => oq z (qc z Qx (fun g f => wd g h (ab d g f) (ab e g f))) tt2 <| oP z <| nQ <| cI H z (fun H => ?_) (fun H => ?_)
 ·exact sR <| oP z <| nT <| af <| xr 4 z (by cases H; exact q1)
 ·exact aj <| ao <| sR <| oP z <| nT <| xr 4 z (by cases H; exact q1)
theorem Af (w : World) {p0 : aM} {p1 : aM} {r : Bool} (H : nK p0 p1 = U r)   :
    Calls Tryz.prog 115 #[.agg #[I J p0.Q_, I J p0.R_], .agg #[I J p1.Q_, I J p1.R_]] w (fun en w' => en = .returned (B r) ∧ Ext [] w w') := by
 unfold nK at H
 refine aq Tryz.func115 z Tryz.ntmps115 z (St.init w []) <| sR <| ob _ z fun a => ob _ z fun c => oP z <| nQ <| ai <| sR <| aa [.fa 84 0 0 rY] z <| o1 z (r1 0 0 z ty3 z) <| aa [.fa 84 0 0 rY] z <| o1 z (r1 0 1 z ty3 z) <| oP z <| nQ <| cI H z (fun H => ?_) (fun H => ?_)
 ·exact sR <| oP z <| nT <| af <| xr 4 z (by cases H; exact q1)
 ·refine aj <| ao <| ai <| sR <| aa [.fa 84 1 1 sc] z <| o1 z (r1 1 0 z ty3 z) <| aa [.fa 84 1 1 sc] z <| o1 z (r1 1 1 z ty3 z) <| oP z <| nQ <| cI H z (fun H => ?_) (fun H => ?_)
  ·exact sR <| oP z <| nT <| af <| xr 4 z (by cases H; exact q1)
  ·exact aj <| ao <| sR <| oP z <| nT <| xr 4 z (by cases H; exact q1)
theorem yC (w : World) {p0 : List aM} {p1 : List aM} {a_0 : Option Addr} {n_0 c_0 : Nat} {a_1 : Option Addr} {n_1 c_1 : Nat} {r : Bool} (H : oa p0 p1 = U r) (i : (ae (bD) 84).rd w [] p0 [S a_0 n_0 c_0]) (k : (ae (bD) 84).rd w [] p1 [S a_1 n_1 c_1]) :
    Calls Tryz.prog 76 #[S a_0 n_0 c_0, S a_1 n_1 c_1] w (fun en w' => en = .returned (B r) ∧ Ext [] w w') := by
 obtain rfl := eb i
 obtain rfl := eb k
 unfold oa at H
 refine aq Tryz.func76 z Tryz.ntmps76 z (St.init w []) <| sR <| oP z <| nQ <| ai <| sR <| aa [.p, .lenS 51 84 pi, .p, .lenS 51 84 pi, .p] z <| nQ <| cI H z (fun H => ?_) (fun H => ?_)
 ·exact sR <| oP z <| nT <| af <| xr 4 z (by cases H; exact q1)
 ·refine aj <| ao <| ai <| sR <| oP z <| nQ <| an <| CW.at (dn (fun (a : Int) => St w [] []) (fun a => [(0, S a_0 p0.length c_0), (1, S a_1 p1.length c_1), (5, I J a)]) (fun kk => fun a => jg p0 p1 kk a = U r) (fun _ H => ?_) (fun t l a H => ?_) aK (0) (H)) (ss [] z z) (sb z)
  ·unfold jg at H
   exact absurd H (by simp)
  ·unfold jg at H
   refine ai <| sR <| aa [.p, .p, .lenS 51 84 pi, .p] z <| nQ <| cI H z (fun H => ?_) (fun H => ?_)
   ·refine aj <| ao <| ai <| an <| ai <| eF eR (by kernel_rfl) <| oPP z <| bE H fun c f H => bO (e := bD) (xs := p0) (j := a) z z z z z pi nN z (ab i) f z <| o1 z (cu (cs := [I J c.Q_, I J c.R_]) z z nN (ls (mS (ab i) f (fun _ _ h => h)) z) z) <| oPP z <| bE H fun d g H => bO (e := bD) (xs := p1) (j := a) z z z z z pi nN z (ab k) g z <| o1 z (cu (cs := [I J d.Q_, I J d.R_]) z z nN (ls (mS (ab k) g (fun _ _ h => h)) z) z) <| bE H fun q m H => oq z (qc z NM (fun o s => Af o (p0 := c) (p1 := d) m)) tt2 <| oP z <| dg <| ao <| cI H z (fun H => ?_) (fun H => ?_)
    ·exact sR <| oP z <| nT <| ar <| af <| bd <| ar <| af <| xr 4 z (by cases H; exact q1)
    ·exact aj <| cx <| ao <| aJ <| aa [.p, .p, .p] z <| aE <| cz (RW.at (l (J.wrap (a + 1)) (H)) (ss [] z z) (sb z))
   ·exact bb <| aw <| ay <| ax <| ao <| sR <| oP z <| nT <| xr 4 z (by cases H; exact q1)
theorem yU (w : World) {p0 : bo} {p1 : bo} {d : List Value} {e : List Value} {r : Bool} (H : nV p0 p1 = U r) (l : (fZ).rd w [] p0 d) (m : (fZ).rd w [] p1 e) :
    Calls Tryz.prog 39 #[.agg d.toArray, .agg e.toArray] w (fun en w' => en = .returned (B r) ∧ Ext [] w w') := by
 obtain ⟨o, p, rfl, f, g⟩ := eU l
 obtain ⟨q, s, rfl⟩ := ah f
 obtain ⟨t, u, rfl⟩ := ah g
 obtain ⟨v, x, rfl, h, i⟩ := eU m
 obtain ⟨A, C, rfl⟩ := ah h
 obtain ⟨D, E, rfl⟩ := ah i
 unfold nV at H
 refine aq Tryz.func39 z Tryz.ntmps39 z (St.init w []) <| sR <| ob _ z fun F => ob _ z fun G => oP z <| nQ <| ai <| sR <| aa [.fa 53 0 0 mp] z <| o1 z (r1 0 0 z fw z) <| aa [.fa 53 0 0 mp] z <| o1 z (r1 0 1 z fw z) <| bE H fun L j H => oq z (qc z Mz (fun c a => qm c j (ab f c a) (ab h c a))) tt2 <| oP z <| nQ <| cI H z (fun H => ?_) (fun H => ?_)
 ·exact sR <| oP z <| nT <| af <| xr 4 z (by cases H; exact q1)
 ·refine aj <| ao <| ai <| sR <| aa [.fa 53 1 1 lO] z <| o1 z (r1 1 0 z ug z) <| aa [.fa 53 1 1 lO] z <| o1 z (r1 1 1 z ug z) <| bE H fun M k H => oq z (qc z Qv (fun c a => yC c k (ab g c a) (ab i c a))) tt2 <| oP z <| nQ <| cI H z (fun H => ?_) (fun H => ?_)
  ·exact sR <| oP z <| nT <| af <| xr 4 z (by cases H; exact q1)
  ·exact aj <| ao <| sR <| oP z <| nT <| xr 4 z (by cases H; exact q1)
theorem yE (w : World) {p0 : aP} {p1 : aP} {d : List Value} {e : List Value} {r : Bool} (H : oS p0 p1 = U r) (g0 : (jx).rd w [] p0 d) (g1 : (jx).rd w [] p1 e) :
    Calls Tryz.prog 9 #[.agg d.toArray, .agg e.toArray] w (fun en w' => en = .returned (B r) ∧ Ext [] w w') := by
 obtain ⟨a4, a5, a6, rfl, q, s, t⟩ := jc g0
 obtain ⟨a7, a8, a9, b0, b1, b2, b3, rfl, u, v, x, A, C, D, E⟩ := cP q
 obtain ⟨b4, b5, rfl, f, g⟩ := aO u
 obtain ⟨b6, b7, rfl⟩ := ah f
 obtain ⟨b8, b9, rfl⟩ := ah g
 obtain rfl := v
 obtain rfl := x
 obtain rfl := A
 obtain rfl := C
 obtain rfl := D
 obtain rfl := E
 obtain ⟨c0, rfl, h⟩ := er s
 obtain ⟨c1, c2, rfl⟩ := ah h
 obtain ⟨c3, c4, rfl, i, j⟩ := eU t
 obtain ⟨c5, c6, rfl⟩ := ah i
 obtain ⟨c7, c8, rfl⟩ := ah j
 obtain ⟨c9, d0, d1, rfl, F, G, L⟩ := jc g1
 obtain ⟨d2, d3, d4, d5, d6, d7, d8, rfl, M, P, Q, R, T, V, X⟩ := cP F
 obtain ⟨d9, e0, rfl, k, l⟩ := aO M
 obtain ⟨e1, e2, rfl⟩ := ah k
 obtain ⟨e3, e4, rfl⟩ := ah l
 obtain rfl := P
 obtain rfl := Q
 obtain rfl := R
 obtain rfl := T
 obtain rfl := V
 obtain rfl := X
 obtain ⟨e5, rfl, m⟩ := er G
 obtain ⟨e6, e7, rfl⟩ := ah m
 obtain ⟨e9, f0, rfl, o, p⟩ := eU L
 obtain ⟨f1, f2, rfl⟩ := ah o
 obtain ⟨f3, f4, rfl⟩ := ah p
 unfold oS at H
 refine aq Tryz.func9 z Tryz.ntmps9 z (St.init w []) <| sR <| ob _ z fun f5 => ob _ z fun f6 => oP z <| nQ <| ai <| sR <| aa [.fa 55 0 0 mq] z <| o1 z (rx 0 0 _ z sx z) <| aa [.fa 55 0 0 mq] z <| o1 z (rx 0 1 _ z sx z) <| bE H fun f7 Z H => oq z (qc z Qn (fun c a => AX c Z (cl (av (ab f c a) (ab g c a)) z z z z z z) (cl (av (ab k c a) (ab l c a)) z z z z z z))) tt2 <| oP z <| nQ <| cI H z (fun H => ?_) (fun H => ?_)
 ·exact sR <| oP z <| nT <| af <| xr 4 z (by cases H; exact q1)
 ·refine aj <| ao <| ai <| sR <| aa [.fa 55 1 14 sU] z <| o1 z (rx 14 0 _ z zO z) <| aa [.fa 55 1 14 sU] z <| o1 z (rx 14 1 _ z zO z) <| bE H fun f8 a0 H => oq z (qc z Pt (fun c a => xY c a0 (dV (ab h c a)) (dV (ab m c a)))) tt2 <| oP z <| nQ <| cI H z (fun H => ?_) (fun H => ?_)
  ·exact sR <| oP z <| nT <| af <| xr 4 z (by cases H; exact q1)
  ·refine aj <| ao <| ai <| sR <| aa [.fa 55 2 15 ni] z <| o1 z (rx 15 0 _ z zW z) <| aa [.fa 55 2 15 ni] z <| o1 z (rx 15 1 _ z zW z) <| bE H fun f9 a1 H => oq z (qc z Qg (fun c a => yU c a1 (ei (ab i c a) (ab j c a)) (ei (ab o c a) (ab p c a)))) tt2 <| oP z <| nQ <| cI H z (fun H => ?_) (fun H => ?_)
   ·exact sR <| oP z <| nT <| af <| xr 4 z (by cases H; exact q1)
   ·exact aj <| ao <| sR <| oP z <| nT <| xr 4 z (by cases H; exact q1)
theorem sf (w : World) {p0 : Int} {r : List UInt8} (H : kZ p0 = U r)   :
    Calls Tryz.prog 148 #[I J p0] w (fun en w' => en = .returned (vS r) ∧ Ext [] w w') := by
 unfold kZ at H
 refine aq Tryz.func148 z Tryz.ntmps148 z (St.init w []) <| sR <| oP z <| nQ <| ai <| sR <| oPP z <| nQ <| cI H z (fun H => ?_) (fun H => ?_)
 ·exact sR <| oP z <| nT <| af <| xr 2 z (by cases H; exact q1)
 ·refine aj <| ao <| sR <| oP z <| nQ <| ai <| an <| CW.at (fx (fun (a : Int) (c : List UInt8) => St w [] []) (fun a c => [(0, I J a), (3, vS c)]) (fun kk => fun a c => fL kk a c = U r) (fun _ _ H => ?_) (fun k d a c H => ?_) aK (p0) (([] : List UInt8)) (H)) (ss [] z z) (sb z)
  ·unfold fL at H
   exact absurd H (by simp)
  ·unfold fL at H
   refine ai <| sR <| oPP z <| nQ <| cI H z (fun H => ?_) (fun H => ?_)
   ·exact aj <| ao <| an <| sR <| aa [.p, .p, .p, .cv 3 5 K us3 in5] z <| dm (val := I K) (h1 := fun _ => z) [K.wrap (J.wrap (48 + (Int.tmod a 10)))] [(0, [I K (K.wrap (J.wrap (48 + (Int.tmod a 10))))])] z z z z z eH ty5 z z z ⟨z, z, nl z, Y⟩ z z (fun _ => kp) fun i => o1 z (IX (xs := ([K.wrap (J.wrap (48 + (Int.tmod a 10)))] : List Int)) z z eH in5 st9 (aY (e := ae e8 5) (r := 0) z)) <| oP z <| bE H fun f g H => o1 z (iX z z z g) <| oP z <| nQ <| aJ <| aa [.p, .p, .p] z <| aE <| cx <| cz (RW.at (d (J.wrap (Int.tdiv a 10)) (f) (H)) (ss [] z z) (sb z))
   ·exact bb <| aw <| ay <| ax <| ao <| sR <| oP z <| bE H fun j h H => o1 z (iX z z z h) <| oP z <| nT <| xr 2 z (by cases H; exact q1)
theorem jM (w : World) {g : List Nat} {p0 : List Int} {p1 : Int} {a_0_0 : Option Addr} {n_0_0 c_0_0 : Nat} {F_0_0 : List Nat} {r : Int × (List Int)} (H : gE p0 p1 = U r) (HS : St w g [W (ae eI 3) F_0_0 p0 [S a_0_0 n_0_0 c_0_0]] w) :
    Calls Tryz.prog 119 #[S a_0_0 n_0_0 c_0_0, I J p1] w (fun en w' => ∃ v, en = .returned v ∧ ∃ (k : List Nat), v = I J r.1 ∧ St w g [W (ae eI 3) k r.2 [S a_0_0 n_0_0 c_0_0]] w') := by
 obtain rfl := aI (i := 0) HS z
 unfold gE at H
 refine aq Tryz.func119 z Tryz.ntmps119 z (HS) <| sR <| oP z <| nQ <| ai <| sR <| oP z <| nQ <| an <| CW.at (uj (fun (d : List Int) (c : Int) (a : Int) => St w g [W (ae eI 3) F_0_0 d [S a_0_0 p0.length c_0_0]]) (fun d c a => [(0, S a_0_0 p0.length c_0_0), (1, I J c), (5, I J a)]) (fun kk => fun d c a => fK p0 kk d c a = U r) (fun _ _ _ H => ?_) (fun m h d c a H => ?_) aK (p0) (p1) (0) (H)) (ss [0] z z) (sb z)
 ·unfold fK at H
  exact absurd H (by simp)
 ·unfold fK at H
  refine ai <| sR <| aa [.p, .p, .lenS 69 3 ce, .p] z <| nQ <| cI H z (fun H => ?_) (fun H => ?_)
  ·exact aj <| ao <| ai <| an <| sR <| aa [.p, .p, .p] z <| bE H fun l f H => bO (e := eI) (xs := d) (j := a) z z z z z ce ty3 z (aY (e := ae eI 3) (r := 0) z) f (by rw [Nat.mul_one]) <| qI (i := 0) (j := a) z z z z z z ty3 z f (fun _ => z) kp <| nQ <| aJ <| aa [.p, .p, .p] z <| aE <| cx <| ao <| aJ <| aa [.p, .p, .p] z <| aE <| cz (RW.at (h ((d.set a.toNat c)) (J.wrap (c + 1)) (J.wrap (a + 1)) (H)) (ss [0] z z) (sb z))
  ·exact bb <| aw <| ay <| ax <| ao <| sR <| oPP z <| nT <| ca (rs := [.tmp 4]) (vs := [I J c]) z ⟨z, Y⟩ (fun w' hw' => by
    obtain rfl := ak H
    exact ⟨_, z, F_0_0, z, hw'.sel [0] z z⟩)
theorem qr (w : World) {h : List Nat} {p0 : List (List UInt8)} {p1 : Int} {a_0_0 : Option Addr} {n_0_0 c_0_0 : Nat} {F_0_0 : List Nat} {r : Int × (List (List UInt8))} (H : iF p0 p1 = U r) (HS : St w h [W (ae (cy) 9) F_0_0 p0 [S a_0_0 n_0_0 c_0_0]] w) :
    Calls Tryz.prog 117 #[S a_0_0 n_0_0 c_0_0, I J p1] w (fun en w' => ∃ v, en = .returned v ∧ ∃ (q : List Nat), v = I J r.1 ∧ St w h [W (ae (cy) 9) q r.2 [S a_0_0 n_0_0 c_0_0]] w') := by
 obtain rfl := aI (i := 0) HS z
 unfold iF at H
 refine aq Tryz.func117 z Tryz.ntmps117 z (HS) <| sR <| oP z <| nQ <| ai <| sR <| oP z <| nQ <| an <| CW.at (uj (fun (c : List (List UInt8)) (d : Int) (a : Int) => St w h [W (ae (cy) 9) F_0_0 c [S a_0_0 p0.length c_0_0]]) (fun c d a => [(0, S a_0_0 p0.length c_0_0), (1, I J d), (5, I J a)]) (fun kk => fun c d a => eA p0 kk c d a = U r) (fun _ _ _ H => ?_) (fun t k c d a H => ?_) aK (p0) (p1) (0) (H)) (ss [0] z z) (sb z)
 ·unfold eA at H
  exact absurd H (by simp)
 ·unfold eA at H
  refine ai <| sR <| aa [.p, .p, .lenS 23 9 gm, .p] z <| nQ <| cI H z (fun H => ?_) (fun H => ?_)
  ·exact aj <| ao <| ai <| an <| sR <| aa [.p, .p, .p] z <| bE H fun m o H => oq z (qc z Ls (fun l f => sf l o)) tt2 <| bE H fun s g H => bO (e := cy) (xs := c) (j := a) z z z z z gm ty9 z (fun l f => aY (e := ae (cy) 9) (r := 0) z l f) g (by rw [Nat.mul_one]) <| qI (i := 0) (j := a) z z z z z z ty9 z g (fun _ => z) kp <| nQ <| aJ <| aa [.p, .p, .p] z <| aE <| cx <| ao <| aJ <| aa [.p, .p, .p] z <| aE <| cz (RW.at (k ((c.set a.toNat m)) (J.wrap (d + 1)) (J.wrap (a + 1)) (H)) (ss [0] z z) (sb z))
  ·exact bb <| aw <| ay <| ax <| ao <| sR <| oPP z <| nT <| ca (rs := [.tmp 4]) (vs := [I J d]) z ⟨z, Y⟩ (fun w' hw' => by
    obtain rfl := ak H
    exact ⟨_, z, F_0_0, z, hw'.sel [0] z z⟩)
theorem wi (w : World) {d : List Nat} {p0 : List aB} {p1 : Int} {a_0_0 : Option Addr} {n_0_0 c_0_0 : Nat} {F_0_0 : List Nat} {r : Int × (List aB)} (H : lP p0 p1 = U r) (HS : St w d [W (ae (bj) 111) F_0_0 p0 [S a_0_0 n_0_0 c_0_0]] w) :
    Calls Tryz.prog 116 #[S a_0_0 n_0_0 c_0_0, I J p1] w (fun en w' => ∃ v, en = .returned v ∧ ∃ (Q : List Nat), v = I J r.1 ∧ St w d [W (ae (bj) 111) Q r.2 [S a_0_0 n_0_0 c_0_0]] w') := by
 obtain rfl := aI (i := 0) HS z
 unfold lP at H
 refine aq Tryz.func116 z Tryz.ntmps116 z (HS) <| sR <| oP z <| nQ <| ai <| sR <| oP z <| nQ <| an <| CW.at (AE (fun (f : List aB) (l : List Nat) (g : Int) (e : Int) => St w d [W (ae (bj) 111) l f [S a_0_0 p0.length c_0_0]]) (fun f l g e => [(0, S a_0_0 p0.length c_0_0), (1, I J g), (5, I J e)]) (fun kk => fun f l g e => fp p0 kk f g e = U r) (fun _ _ _ _ H => ?_) (fun k1 C f l g e H => ?_) aK (p0) (F_0_0) (p1) (0) (H)) (ss [0] z z) (sb z)
 ·unfold fp at H
  exact absurd H (by simp)
 ·unfold fp at H
  refine ai <| sR <| aa [.p, .p, .lenS 42 111 kr, .p] z <| nQ <| cI H z (fun H => ?_) (fun H => ?_)
  ·refine aj <| ao <| ai <| an <| sR <| aa [.p, .p, .p] z <| bE H fun o L H => oq z (qc z Ls (fun c a => sf c L)) tt2 <| bE H fun a5 m H => sd z (fun c a => foc (r := 0) a z m) fun a6 a7 a8 a9 => el z (fun c a => a.1) fun M => ?_
   obtain ⟨j, k⟩ := M
   refine mo (C' := St w d [_, _, _]) z (fun c a => a.2) <| jW z (fun c a => ux (i := 2) a z) fun b0 b1 R => jW z (fun _ h => h) fun T V X => el z (fun c a => a.1) fun P => ?_
   subst P
   refine mo (C' := St w d [_, _, _, _, _]) z (fun c a => a.2) <| fR z z z z z kr ed z (fG (p := 1) z) k j (cE m).1 <| aa [.fa 111 0 0 me] z <| ff (off := 0) [vS o] (p := 1) (c' := [_, _, _]) z z z z z (by first | rfl | simp only [dd, dK, cR]) z ty9 z z (al z) z z z kp <| nQ <| ai <| CW.weak (C' := St w d [_, _, _]) ?_ (ss [1, 3, 4] z z)
   refine aJ <| aa [.p, .p, .p] z <| nR <| oPP z <| fR z z z z z kr ed z (fG (p := 0) z) k j (cE m).1 <| aa [.fa 111 1 1 gn] z <| o1 z (lG 0 1 z z z bW (by first | rfl | simp only [dd, dK, cR]) z) <| oP z <| bE H fun D E H => aC z ED z z z z (fun c a => jM c E (a.carve [1] z z)) fun Z c w2 a t => ?_
   obtain ⟨a1, rfl, u⟩ := t
   refine ⟨St w d [_, _, _, _], a.comp [1] z z u, fun _ _ => Y, ?_⟩
   refine oP z <| nQ <| aJ <| oPP z <| fR z z z z z kr ed z (fG (p := 0) z) k j (cE m).1 <| aa [.fa 111 2 2 ks] z <| o1 z (lG 0 2 z z z lr (by first | rfl | simp only [dd, dK, cR]) z) <| oP z <| bE H fun s F H => aC z LM z z z z (fun c a => qr c F (a.carve [2] z z)) fun a2 c w2 a x => ?_
   obtain ⟨a3, rfl, A⟩ := x
   refine ⟨St w d [_, _, _, _, _], a.comp [2] z z A, fun _ _ => Y, ?_⟩
   refine oP z <| aE <| cx <| ao <| CW.weak (C' := St w d [_, _, _]) ?_ (ss [0, 3, 4] z z)
   exact aJ <| aa [.p, .p, .p] z <| aE <| qq (fun c a => ud (x0 := o) [1, 2] a z z) fun a4 => ml (C' := St w d [_, _, _, _]) (fun _ h => h) <| qq (fun c a => unf (p := 0) (q := 3) a z z z k j) fun G => ml (C' := St w d [_, _, _, _, _]) (fun _ h => h) <| cz (RW.at (C ((f.set e.toNat (aB.mk o D.2 s.2))) (G) (s.1) (J.wrap (e + 1)) (H)) (ss [4] z z) (sb z))
  ·exact bb <| aw <| ay <| ax <| ao <| sR <| oPP z <| nT <| ca (rs := [.tmp 4]) (vs := [I J g]) z ⟨z, Y⟩ (fun w' hw' => by
    obtain rfl := ak H
    exact ⟨_, z, l, z, hw'.sel [0] z z⟩)
theorem vx (w : World) {c : List Nat} {p0 : am} {p1 : Int} {a_0_0 : Option Addr} {n_0_0 c_0_0 : Nat} {F_0_0 : List Nat} {a_0_1 : Option Addr} {n_0_1 c_0_1 : Nat} {F_0_1 : List Nat} {r : Int × am} (H : kD p0 p1 = U r) (HS : St w c [W (ae (bj) 111) F_0_0 p0.d_ [S a_0_0 n_0_0 c_0_0], W (ae (cy) 9) F_0_1 p0.m_ [S a_0_1 n_0_1 c_0_1]] w) :
    Calls Tryz.prog 77 #[.agg #[S a_0_0 n_0_0 c_0_0, S a_0_1 n_0_1 c_0_1], I J p1] w (fun en w' => ∃ v, en = .returned v ∧ ∃ (p : List Nat), ∃ (q : List Nat), v = I J r.1 ∧ St w c [W (ae (bj) 111) p r.2.d_ [S a_0_0 n_0_0 c_0_0], W (ae (cy) 9) q r.2.m_ [S a_0_1 n_0_1 c_0_1]] w') := by
 obtain rfl := aI (i := 0) HS z
 obtain rfl := aI (i := 1) HS z
 unfold kD at H
 refine aq Tryz.func77 z Tryz.ntmps77 z (HS) <| sR <| ob _ z fun t => oP z <| nR <| aa [.fa 44 0 0 fS] z <| o1 z (r1 0 2 z nP z) <| oP z <| bE H fun u j H => aC z Oy z z z z (fun d a => wi d j (a.carve [0] z z)) fun x d s a e => ?_
 obtain ⟨k, rfl, f⟩ := e
 refine ⟨St w c [_, _, _, _], a.comp [0] z z f, fun _ _ => Y, ?_⟩
 refine oP z <| nR <| aa [.fa 44 1 1 lN] z <| o1 z (r1 1 2 z lr z) <| oP z <| bE H fun l m H => aC z LM z z z z (fun d a => qr d m (a.carve [1] z z)) fun A d s a g => ?_
 obtain ⟨o, rfl, h⟩ := g
 refine ⟨St w c [_, _, _, _, _], a.comp [1] z z h, fun _ _ => Y, ?_⟩
 refine oP z <| nQ <| ai <| CW.weak (C' := St w c [_, _, _]) ?_ (ss [2, 3, 4] z z)
 exact aJ <| oPP z <| nT <| ca (rs := [.tmp 4]) (vs := [I J l.1]) z ⟨z, Y⟩ (fun w' hw' => by
  obtain rfl := ak H
  exact ⟨_, z, k, o, z, hw'.sel [1, 2] z z⟩)
theorem xZ (w : World) {c : List Nat} {p0 : bi} {p1 : Int} {a_0_0 : Option Addr} {n_0_0 c_0_0 : Nat} {F_0_0 : List Nat} {a_0_1 : Option Addr} {n_0_1 c_0_1 : Nat} {F_0_1 : List Nat} {r : Int × bi} (H : jJ p0 p1 = U r) (HS : St w c [W (ae (bj) 111) F_0_0 p0.p_.d_ [S a_0_0 n_0_0 c_0_0], W (ae (cy) 9) F_0_1 p0.p_.m_ [S a_0_1 n_0_1 c_0_1]] w) :
    Calls Tryz.prog 40 #[.agg #[S a_0_0 n_0_0 c_0_0, S a_0_1 n_0_1 c_0_1, I J p0.c_.L_, I J p0.c_.K_, I J p0.c_.M_, I J p0.c_.f_, I J p0.c_.b_, I J p0.c_.G_, B p0.c_.P_, I J p0.j_, I J p0.N_, I J p0.O_, I J p0.s_, I J p0.t_], I J p1] w (fun en w' => ∃ v, en = .returned v ∧ ∃ (l : List Nat), ∃ (m : List Nat), v = I J r.1 ∧ St w c [W (ae (bj) 111) l r.2.p_.d_ [S a_0_0 n_0_0 c_0_0], W (ae (cy) 9) m r.2.p_.m_ [S a_0_1 n_0_1 c_0_1]] w') := by
 obtain rfl := aI (i := 0) HS z
 obtain rfl := aI (i := 1) HS z
 unfold jJ at H
 refine aq Tryz.func40 z Tryz.ntmps40 z (HS) <| sR <| ob _ z fun o => oP z <| nR <| aa [.fa 47 0 0 mr] z <| o1 z (rx 0 2 _ z ja z) <| oP z <| bE H fun f g H => aC z Qb z z z z (fun h a => vx h g (a.carve [0, 1] z z)) fun p h q a d => ?_
 obtain ⟨j, k, rfl, e⟩ := d
 refine ⟨St w c [_, _, _, _, _], a.comp [0, 1] z z e, fun _ _ => Y, ?_⟩
 refine oP z <| nQ <| ai <| CW.weak (C' := St w c [_, _, _]) ?_ (ss [2, 3, 4] z z)
 exact aJ <| oPP z <| nT <| ca (rs := [.tmp 4]) (vs := [I J f.1]) z ⟨z, Y⟩ (fun w' hw' => by
  obtain rfl := ak H
  exact ⟨_, z, j, k, z, hw'.sel [1, 2] z z⟩)
theorem ll (w : World) {g : List Nat} {p0 : List (List Int)} {p1 : Int} {a_0_0 : Option Addr} {n_0_0 c_0_0 : Nat} {F_0_0 : List Nat} {r : Int × (List (List Int))} (H : gP p0 p1 = U r) (HS : St w g [W (ae (ae eI 3) 69) F_0_0 p0 [S a_0_0 n_0_0 c_0_0]] w) :
    Calls Tryz.prog 79 #[S a_0_0 n_0_0 c_0_0, I J p1] w (fun en w' => ∃ v, en = .returned v ∧ ∃ (E : List Nat), v = I J r.1 ∧ St w g [W (ae (ae eI 3) 69) E r.2 [S a_0_0 n_0_0 c_0_0]] w') := by
 obtain rfl := aI (i := 0) HS z
 unfold gP at H
 refine aq Tryz.func79 z Tryz.ntmps79 z (HS) <| sR <| oP z <| nQ <| ai <| sR <| oP z <| nQ <| an <| CW.at (AE (fun (d : List (List Int)) (j : List Nat) (e : Int) (c : Int) => St w g [W (ae (ae eI 3) 69) j d [S a_0_0 p0.length c_0_0]]) (fun d j e c => [(0, S a_0_0 p0.length c_0_0), (1, I J e), (5, I J c)]) (fun kk => fun d j e c => fu p0 kk d e c = U r) (fun _ _ _ _ H => ?_) (fun X s d j e c H => ?_) aK (p0) (F_0_0) (p1) (0) (H)) (ss [0] z z) (sb z)
 ·unfold fu at H
  exact absurd H (by simp)
 ·unfold fu at H
  refine ai <| sR <| aa [.p, .p, .lenS 33 69 eK, .p] z <| nQ <| cI H z (fun H => ?_) (fun H => ?_)
  ·refine aj <| ao <| ai <| an <| aJ <| oPP z <| bE H fun F m H => sd z (fun f a => foc (r := 0) a z m) fun G L M P => el z (fun f a => a.1) fun x => ?_
   obtain ⟨k, l⟩ := x
   refine mo (C' := St w g [_, _, _]) z (fun f a => a.2) <| IK z (fun f a => Jh (i := 2) a z) fun Q R => el z (fun f a => a.1) fun A => ?_
   subst A
   refine mo (C' := St w g [_, _, _]) z (fun f a => a.2) <| fR z z z z z eK bW z (fG (p := 1) z) l k (cE m).1 <| o1 z (lG 1 0 z z z bW (by first | rfl | simp only [dd, dK, cR]) z) <| oP z <| bE H fun o C H => aC z ED z z z z (fun f a => jM f C (a.carve [2] z z)) fun T f Z a t => ?_
   obtain ⟨V, rfl, u⟩ := t
   refine ⟨St w g [_, _, _, _], a.comp [2] z z u, fun _ _ => Y, ?_⟩
   refine oP z <| aE <| cx <| ao <| CW.weak (C' := St w g [_, _]) ?_ (ss [1, 3] z z)
   exact aJ <| aa [.p, .p, .p] z <| aE <| qq (fun f a => unf (p := 0) (q := 1) a z z z l k) fun D => ml (C' := St w g [_, _, _]) (fun _ h => h) <| cz (RW.at (s ((d.set c.toNat o.2)) (D) (o.1) (J.wrap (c + 1)) (H)) (ss [2] z z) (sb z))
  ·exact bb <| aw <| ay <| ax <| ao <| sR <| oPP z <| nT <| ca (rs := [.tmp 4]) (vs := [I J e]) z ⟨z, Y⟩ (fun w' hw' => by
    obtain rfl := ak H
    exact ⟨_, z, j, z, hw'.sel [0] z z⟩)
theorem rO (w : World) {k : List Nat} {p0 : List au} {p1 : Int} {a_0_0 : Option Addr} {n_0_0 c_0_0 : Nat} {F_0_0 : List Nat} {r : Int × (List au)} (H : jR p0 p1 = U r) (HS : St w k [W (ae (bc) 121) F_0_0 p0 [S a_0_0 n_0_0 c_0_0]] w) :
    Calls Tryz.prog 118 #[S a_0_0 n_0_0 c_0_0, I J p1] w (fun en w' => ∃ v, en = .returned v ∧ ∃ (F0 : List Nat), v = I J r.1 ∧ St w k [W (ae (bc) 121) F0 r.2 [S a_0_0 n_0_0 c_0_0]] w') := by
 obtain rfl := aI (i := 0) HS z
 unfold jR at H
 refine aq Tryz.func118 z Tryz.ntmps118 z (HS) <| sR <| oP z <| nQ <| ai <| sR <| oP z <| nQ <| an <| CW.at (AE (fun (m : List au) (t : List Nat) (f : Int) (l : Int) => St w k [W (ae (bc) 121) t m [S a_0_0 p0.length c_0_0]]) (fun m t f l => [(0, S a_0_0 p0.length c_0_0), (1, I J f), (5, I J l)]) (fun kk => fun m t f l => fj p0 kk m f l = U r) (fun _ _ _ _ H => ?_) (fun k1 L m t f l H => ?_) aK (p0) (F_0_0) (p1) (0) (H)) (ss [0] z z) (sb z)
 ·unfold fj at H
  exact absurd H (by simp)
 ·unfold fj at H
  refine ai <| sR <| aa [.p, .p, .lenS 71 121 fT, .p] z <| nQ <| cI H z (fun H => ?_) (fun H => ?_)
  ·refine aj <| ao <| ai <| an <| sR <| aa [.p, .p, .p, .p, .p] z <| bE H fun a2 e H => sd z (fun j a => foc (r := 0) a z e) fun a3 a4 a5 a6 => el z (fun j a => a.1) fun M => ?_
   obtain ⟨c, d⟩ := M
   refine mo (C' := St w k [_, _, _]) z (fun j a => a.2) <| jW z (fun j a => uy (i := 2) a z) fun a7 a8 a9 => jW z (fun _ h => h) fun b0 b1 b2 => jW z (fun _ h => h) fun b3 b4 b5 => jW z (fun _ h => h) fun b6 b7 b8 => el z (fun j a => a.1) fun P => ?_
   subst P
   refine mo (C' := St w k [_, _, _, _, _, _, _]) z (fun j a => a.2) <| fR z z z z z fT co z (fG (p := 1) z) d c (cE e).1 <| aa [.fa 121 0 0 kz] z <| ff (off := 0) [B ((Int.tmod f 3) == 0)] (p := 1) (c' := [_, _, _, _, _, _, _, _, _, _, _, _]) z z z z z (by first | rfl | simp only [dd, dK, cR]) z ty4 z z (al z) z z z kp <| nQ <| ai <| CW.weak (C' := St w k [_, _, _, _, _]) ?_ (ss [1, 3, 4, 5, 6] z z)
   refine aJ <| aa [.p, .p, .p] z <| nR <| aa [.p, .p, .p] z <| fR z z z z z fT co z (fG (p := 0) z) d c (cE e).1 <| aa [.fa 121 1 1 iW, .fa 117 0 0 ky] z <| ff (off := 1) [I J (J.wrap (f + 1))] (p := 0) (c' := [_, _, _, _, _, _, _, _, _, _, _, _]) z z z z z (by first | rfl | simp only [dd, dK, cR]) z ty3 z z (al z) z z z kp <| nR <| aa [.p, .p, .p] z <| nR <| aa [.p, .p, .p] z <| fR z z z z z fT co z (fG (p := 0) z) d c (cE e).1 <| aa [.fa 121 1 1 iW, .fa 117 1 1 mb] z <| ff (off := 2) [I J (J.wrap ((J.wrap (f + 1)) + 1))] (p := 0) (c' := [_, _, _, _, _, _, _, _, _, _, _, _]) z z z z z (by first | rfl | simp only [dd, dK, cR]) z ty3 z z (al z) z z z kp <| nR <| aa [.p, .p, .p] z <| nR <| oPP z <| fR z z z z z fT co z (fG (p := 0) z) d c (cE e).1 <| aa [.fa 121 2 3 gf] z <| o1 z (lG 0 3 z z z bW (by first | rfl | simp only [dd, dK, cR]) z) <| oP z <| bE H fun o Q H => aC z ED z z z z (fun j a => jM j Q (a.carve [1] z z)) fun b9 j R a u => ?_
   obtain ⟨c0, rfl, x⟩ := u
   refine ⟨St w k [_, _, _, _, _, _], a.comp [1] z z x, fun _ _ => Y, ?_⟩
   refine oP z <| nR <| aa [.p, .p, .p] z <| fR z z z z z fT co z (fG (p := 0) z) d c (cE e).1 <| aa [.fa 121 3 4 mc] z <| ff (off := 4) [I J o.1] (p := 0) (c' := [_, _, _, _, _, _, _, _, _, _, _, _]) z z z z z (by first | rfl | simp only [dd, dK, cR]) z ty3 z z (al z) z z z kp <| nR <| aa [.p, .p, .p] z <| nR <| oPP z <| fR z z z z z fT co z (fG (p := 0) z) d c (cE e).1 <| aa [.fa 121 4 5 eY, .fa 119 0 0 gS] z <| o1 z (lG 0 5 z z z bW (by first | rfl | simp only [dd, dK, cR]) z) <| oP z <| bE H fun T V H => aC z ED z z z z (fun j a => jM j V (a.carve [2] z z)) fun c1 j R a A => ?_
   obtain ⟨c2, rfl, C⟩ := A
   refine ⟨St w k [_, _, _, _, _, _, _], a.comp [2] z z C, fun _ _ => Y, ?_⟩
   refine oP z <| nQ <| ai <| CW.weak (C' := St w k [_, _, _, _, _]) ?_ (ss [0, 3, 4, 5, 6] z z)
   refine aJ <| oPP z <| fR z z z z z fT co z (fG (p := 0) z) d c (cE e).1 <| aa [.fa 121 4 5 eY, .fa 119 1 1 fm] z <| o1 z (lG 0 6 z z z fw (by first | rfl | simp only [dd, dK, cR]) z) <| oP z <| bE H fun s X H => aC z JY z z z z (fun j a => ll j X (a.carve [1] z z)) fun c3 j R a D => ?_
   obtain ⟨c4, rfl, E⟩ := D
   refine ⟨St w k [_, _, _, _, _, _], a.comp [1] z z E, fun _ _ => Y, ?_⟩
   refine oP z <| nR <| aa [.p, .p, .p] z <| fR z z z z z fT co z (fG (p := 0) z) d c (cE e).1 <| aa [.fa 121 5 7 ln] z <| ff (off := 7) [I J s.1] (p := 0) (c' := [_, _, _, _, _, _, _, _, _, _, _, _]) z z z z z (by first | rfl | simp only [dd, dK, cR]) z ty3 z z (al z) z z z kp <| nR <| aa [.p, .p, .p] z <| nR <| oPP z <| fR z z z z z fT co z (fG (p := 0) z) d c (cE e).1 <| aa [.fa 121 6 8 mX] z <| o1 z (lG 0 8 z z z bW (by first | rfl | simp only [dd, dK, cR]) z) <| oP z <| bE H fun g Z H => aC z ED z z z z (fun j a => jM j Z (a.carve [2] z z)) fun c5 j R a F => ?_
   obtain ⟨c6, rfl, G⟩ := F
   refine ⟨St w k [_, _, _, _, _, _, _], a.comp [2] z z G, fun _ _ => Y, ?_⟩
   refine oP z <| nQ <| ai <| CW.weak (C' := St w k [_, _, _, _, _]) ?_ (ss [0, 3, 4, 5, 6] z z)
   refine aJ <| aa [.p, .p, .p] z <| fR z z z z z fT co z (fG (p := 0) z) d c (cE e).1 <| aa [.fa 121 7 9 gB] z <| ff (off := 9) [I J g.1] (p := 0) (c' := [_, _, _, _, _, _, _, _, _, _, _, _]) z z z z z (by first | rfl | simp only [dd, dK, cR]) z ty3 z z (al z) z z z kp <| nR <| aa [.p, .p, .p] z <| nR <| aa [.p, .p, .p] z <| fR z z z z z fT co z (fG (p := 0) z) d c (cE e).1 <| aa [.fa 121 8 10 jF] z <| ff (off := 10) [I J (J.wrap (g.1 + 1))] (p := 0) (c' := [_, _, _, _, _, _, _, _, _, _, _, _]) z z z z z (by first | rfl | simp only [dd, dK, cR]) z ty3 z z (al z) z z z kp <| nR <| aa [.p, .p, .p] z <| nR <| aa [.p, .p, .p] z <| fR z z z z z fT co z (fG (p := 0) z) d c (cE e).1 <| aa [.fa 121 9 11 jy] z <| ff (off := 11) [I J (J.wrap ((J.wrap (g.1 + 1)) + 1))] (p := 0) (c' := [_, _, _, _, _, _, _, _, _, _, _, _]) z z z z z (by first | rfl | simp only [dd, dK, cR]) z ty3 z z (al z) z z z kp <| nQ <| aJ <| aa [.p, .p, .p] z <| aE <| cx <| ao <| aJ <| aa [.p, .p, .p] z <| ?_
   exact aE <| qq (fun j a => uc (x0 := ((Int.tmod f 3) == 0)) (x1 := J.wrap (f + 1)) (x2 := J.wrap ((J.wrap (f + 1)) + 1)) (x4 := o.1) (x7 := s.1) (x9 := g.1) (x10 := J.wrap (g.1 + 1)) (x11 := J.wrap ((J.wrap (g.1 + 1)) + 1)) [1, 2, 3, 4] a z z) fun c7 => ml (C' := St w k [_, _, _, _, _, _]) (fun _ h => h) <| qq (fun j a => unf (p := 0) (q := 5) a z z z d c) fun a0 => ml (C' := St w k [_, _, _, _, _, _, _]) (fun _ h => h) <| cz (RW.at (L ((m.set l.toNat (au.mk ((Int.tmod f 3) == 0) (bC.mk (J.wrap (f + 1)) (J.wrap ((J.wrap (f + 1)) + 1))) o.2 o.1 (aV.mk T.2 s.2) s.1 g.2 g.1 (J.wrap (g.1 + 1)) (J.wrap ((J.wrap (g.1 + 1)) + 1))))) (a0) (J.wrap ((J.wrap ((J.wrap (g.1 + 1)) + 1)) + 1)) (J.wrap (l + 1)) (H)) (ss [6] z z) (sb z))
  ·exact bb <| aw <| ay <| ax <| ao <| sR <| oPP z <| nT <| ca (rs := [.tmp 4]) (vs := [I J f]) z ⟨z, Y⟩ (fun w' hw' => by
    obtain rfl := ak H
    exact ⟨_, z, t, z, hw'.sel [0] z z⟩)
theorem uZ (w : World) {j : List Nat} {p0 : List az} {p1 : Int} {a_0_0 : Option Addr} {n_0_0 c_0_0 : Nat} {F_0_0 : List Nat} {r : Int × (List az)} (H : kc p0 p1 = U r) (HS : St w j [W (ae (ba) 79) F_0_0 p0 [S a_0_0 n_0_0 c_0_0]] w) :
    Calls Tryz.prog 78 #[S a_0_0 n_0_0 c_0_0, I J p1] w (fun en w' => ∃ v, en = .returned v ∧ ∃ (F0 : List Nat), v = I J r.1 ∧ St w j [W (ae (ba) 79) F0 r.2 [S a_0_0 n_0_0 c_0_0]] w') := by
 obtain rfl := aI (i := 0) HS z
 unfold kc at H
 refine aq Tryz.func78 z Tryz.ntmps78 z (HS) <| sR <| oP z <| nQ <| ai <| sR <| oP z <| nQ <| an <| CW.at (AE (fun (l : List az) (s : List Nat) (m : Int) (k : Int) => St w j [W (ae (ba) 79) s l [S a_0_0 p0.length c_0_0]]) (fun l s m k => [(0, S a_0_0 p0.length c_0_0), (1, I J m), (5, I J k)]) (fun kk => fun l s m k => eB p0 kk l m k = U r) (fun _ _ _ _ H => ?_) (fun k1 L l s m k H => ?_) aK (p0) (F_0_0) (p1) (0) (H)) (ss [0] z z) (sb z)
 ·unfold eB at H
  exact absurd H (by simp)
 ·unfold eB at H
  refine ai <| sR <| aa [.p, .p, .lenS 48 79 qi, .p] z <| nQ <| cI H z (fun H => ?_) (fun H => ?_)
  ·refine aj <| ao <| ai <| an <| sR <| oPP z <| bE H fun a2 f H => sd z (fun e a => foc (r := 0) a z f) fun a3 a4 a5 a6 => el z (fun e a => a.1) fun M => ?_
   obtain ⟨c, d⟩ := M
   refine mo (C' := St w j [_, _, _]) z (fun e a => a.2) <| jW z (fun e a => sB (i := 2) a z) fun a7 a8 a9 => jW z (fun _ h => h) fun b0 b1 b2 => jW z (fun _ h => h) fun b3 b4 b5 => jW z (fun _ h => h) fun b6 b7 b8 => el z (fun e a => a.1) fun P => ?_
   subst P
   refine mo (C' := St w j [_, _, _, _, _, _, _]) z (fun e a => a.2) <| fR z z z z z qi mC z (fG (p := 1) z) d c (cE f).1 <| aa [.fa 79 0 0 sX, .fa 73 0 0 eg] z <| o1 z (lG 1 0 z z z kN (by first | rfl | simp only [dd, dK, cR]) z) <| oP z <| bE H fun g Q H => aC z LR z z z z (fun e a => rO e Q (a.carve [3] z z)) fun b9 e R a u => ?_
   obtain ⟨c0, rfl, x⟩ := u
   refine ⟨St w j [_, _, _, _, _, _, _, _], a.comp [3] z z x, fun _ _ => Y, ?_⟩
   refine oP z <| nQ <| ai <| CW.weak (C' := St w j [_, _, _, _, _]) ?_ (ss [1, 4, 5, 6, 7] z z)
   refine aJ <| aa [.p, .p, .p] z <| fR z z z z z qi mC z (fG (p := 0) z) d c (cE f).1 <| aa [.fa 79 0 0 sX, .fa 73 1 1 nf] z <| ff (off := 1) [I J g.1] (p := 0) (c' := [_, _, _, _, _, _, _]) z z z z z (by first | rfl | simp only [dd, dK, cR]) z ty3 z z (al z) z z z kp <| nR <| aa [.p, .p, .p] z <| nR <| aa [.p, .p, .p, .p, .p] z <| fR z z z z z qi mC z (fG (p := 0) z) d c (cE f).1 <| aa [.fa 79 1 2 tO] z <| ff (off := 2) [B ((Int.tmod (J.wrap (g.1 + 1)) 3) == 0)] (p := 0) (c' := [_, _, _, _, _, _, _]) z z z z z (by first | rfl | simp only [dd, dK, cR]) z ty4 z z (al z) z z z kp <| nR <| aa [.p, .p, .p] z <| nR <| oPP z <| fR z z z z z qi mC z (fG (p := 0) z) d c (cE f).1 <| aa [.fa 79 2 3 qh, .fa 73 0 0 eg] z <| o1 z (lG 0 3 z z z kN (by first | rfl | simp only [dd, dK, cR]) z) <| oP z <| bE H fun o T H => aC z LR z z z z (fun e a => rO e T (a.carve [1] z z)) fun c1 e R a A => ?_
   obtain ⟨c2, rfl, C⟩ := A
   refine ⟨St w j [_, _, _, _, _, _], a.comp [1] z z C, fun _ _ => Y, ?_⟩
   refine oP z <| nR <| aa [.p, .p, .p] z <| fR z z z z z qi mC z (fG (p := 0) z) d c (cE f).1 <| aa [.fa 79 2 3 qh, .fa 73 1 1 nf] z <| ff (off := 4) [I J o.1] (p := 0) (c' := [_, _, _, _, _, _, _]) z z z z z (by first | rfl | simp only [dd, dK, cR]) z ty3 z z (al z) z z z kp <| nR <| aa [.p, .p, .p] z <| nR <| oPP z <| fR z z z z z qi mC z (fG (p := 0) z) d c (cE f).1 <| aa [.fa 79 3 5 rf, .fa 77 0 0 un, .fa 75 0 0 lu] z <| o1 z (lG 0 5 z z z fw (by first | rfl | simp only [dd, dK, cR]) z) <| oP z <| bE H fun V X H => aC z JY z z z z (fun e a => ll e X (a.carve [2] z z)) fun c3 e R a D => ?_
   obtain ⟨c4, rfl, E⟩ := D
   refine ⟨St w j [_, _, _, _, _, _, _], a.comp [2] z z E, fun _ _ => Y, ?_⟩
   refine oP z <| nQ <| CW.weak (C' := St w j [_, _, _, _, _]) ?_ (ss [0, 3, 4, 5, 6] z z)
   refine aJ <| oPP z <| fR z z z z z qi mC z (fG (p := 0) z) d c (cE f).1 <| aa [.fa 79 3 5 rf, .fa 77 1 1 tX, .fa 75 0 0 lu] z <| o1 z (lG 0 6 z z z fw (by first | rfl | simp only [dd, dK, cR]) z) <| oP z <| bE H fun t Z H => aC z JY z z z z (fun e a => ll e Z (a.carve [1] z z)) fun c5 e R a F => ?_
   obtain ⟨c6, rfl, G⟩ := F
   refine ⟨St w j [_, _, _, _, _, _], a.comp [1] z z G, fun _ _ => Y, ?_⟩
   exact oP z <| aE <| cx <| ao <| aJ <| aa [.p, .p, .p] z <| aE <| qq (fun e a => sv (x1 := g.1) (x2 := ((Int.tmod (J.wrap (g.1 + 1)) 3) == 0)) (x4 := o.1) [2, 3, 4, 5] a z z) fun c7 => ml (C' := St w j [_, _, _, _, _, _, _]) (fun _ h => h) <| qq (fun e a => unf (p := 0) (q := 6) a z z z d c) fun a0 => ml (C' := St w j [_, _, _, _, _, _, _, _]) (fun _ h => h) <| cz (RW.at (L ((l.set k.toNat (az.mk (ap.mk g.2 g.1) ((Int.tmod (J.wrap (g.1 + 1)) 3) == 0) (ap.mk o.2 o.1) (cf.mk (aA.mk V.2) (aA.mk t.2))))) (a0) (t.1) (J.wrap (k + 1)) (H)) (ss [7] z z) (sb z))
  ·exact bb <| aw <| ay <| ax <| ao <| sR <| oPP z <| nT <| ca (rs := [.tmp 4]) (vs := [I J m]) z ⟨z, Y⟩ (fun w' hw' => by
    obtain rfl := ak H
    exact ⟨_, z, s, z, hw'.sel [0] z z⟩)
theorem vr (w : World) {c : List Nat} {p0 : bP} {p1 : Int} {a_0_0 : Option Addr} {n_0_0 c_0_0 : Nat} {F_0_0 : List Nat} {r : Int × bP} (H : kQ p0 p1 = U r) (HS : St w c [W (ae (ba) 79) F_0_0 p0.j_ [S a_0_0 n_0_0 c_0_0]] w) :
    Calls Tryz.prog 41 #[.agg #[S a_0_0 n_0_0 c_0_0], I J p1] w (fun en w' => ∃ v, en = .returned v ∧ ∃ (k : List Nat), v = I J r.1 ∧ St w c [W (ae (ba) 79) k r.2.j_ [S a_0_0 n_0_0 c_0_0]] w') := by
 obtain rfl := aI (i := 0) HS z
 unfold kQ at H
 refine aq Tryz.func41 z Tryz.ntmps41 z (HS) <| sR <| ob _ z fun l => oP z <| nR <| aa [.fa 50 0 0 qo] z <| o1 z (r1 0 1 z yI z) <| oP z <| bE H fun f g H => aC z PU z z z z (fun h a => uZ h g (a.carve [0] z z)) fun m h o a d => ?_
 obtain ⟨j, rfl, e⟩ := d
 refine ⟨St w c [_, _, _], a.comp [0] z z e, fun _ _ => Y, ?_⟩
 exact oP z <| nR <| oPP z <| nT <| ca (rs := [.tmp 4]) (vs := [I J f.1]) z ⟨z, Y⟩ (fun w' hw' => by
  obtain rfl := ak H
  exact ⟨_, z, j, z, hw'.sel [2] z z⟩)
theorem wj (w : World) {k : List Nat} {p0 : List aM} {p1 : Int} {a_0_0 : Option Addr} {n_0_0 c_0_0 : Nat} {F_0_0 : List Nat} {r : Int × (List aM)} (H : lQ p0 p1 = U r) (HS : St w k [W (ae (bD) 84) F_0_0 p0 [S a_0_0 n_0_0 c_0_0]] w) :
    Calls Tryz.prog 80 #[S a_0_0 n_0_0 c_0_0, I J p1] w (fun en w' => ∃ v, en = .returned v ∧ ∃ (u : List Nat), v = I J r.1 ∧ St w k [W (ae (bD) 84) u r.2 [S a_0_0 n_0_0 c_0_0]] w') := by
 obtain rfl := aI (i := 0) HS z
 unfold lQ at H
 refine aq Tryz.func80 z Tryz.ntmps80 z (HS) <| sR <| oP z <| nQ <| ai <| sR <| oP z <| nQ <| an <| CW.at (AE (fun (e : List aM) (f : List Nat) (a : Int) (d : Int) => St w k [W (ae (bD) 84) f e [S a_0_0 p0.length c_0_0]]) (fun e f a d => [(0, S a_0_0 p0.length c_0_0), (1, I J a), (5, I J d)]) (fun kk => fun e f a d => fq p0 kk e a d = U r) (fun _ _ _ _ H => ?_) (fun F s e f a d H => ?_) aK (p0) (F_0_0) (p1) (0) (H)) (ss [0] z z) (sb z)
 ·unfold fq at H
  exact absurd H (by simp)
 ·unfold fq at H
  refine ai <| sR <| aa [.p, .p, .lenS 51 84 pi, .p] z <| nQ <| cI H z (fun H => ?_) (fun H => ?_)
  ·refine aj <| ao <| ai <| an <| sR <| aa [.p, .p, .p] z <| bE H fun x l H => sd z (fun m c => foc (r := 0) c z l) fun A C D E => el z (fun m c => c.1) fun o => ?_
   obtain ⟨g, j⟩ := o
   refine mo (C' := St w k [_, _, _]) z (fun m c => c.2) <| el z (fun m c => EN (i := 2) c z) fun o => ?_
   obtain ⟨rfl, rfl⟩ := o
   exact mo (C' := St w k [_, _]) z (fun m c => St.mask [y, y] z c) <| fR z z z z z pi nN z (fG (p := 1) z) j g (cE l).1 <| aa [.fa 84 0 0 rY] z <| ff (off := 0) [I J a] (p := 1) (c' := [_, _]) z z z z z (by first | rfl | simp only [dd, dK, cR]) z ty3 z z (al z) z z z kp <| nR <| aa [.p, .p, .p] z <| nR <| aa [.p, .p, .p] z <| fR z z z z z pi nN z (fG (p := 1) z) j g (cE l).1 <| aa [.fa 84 1 1 sc] z <| ff (off := 1) [I J (J.wrap (a + 1))] (p := 1) (c' := [_, _]) z z z z z (by first | rfl | simp only [dd, dK, cR]) z ty3 z z (al z) z z z kp <| nQ <| aJ <| aa [.p, .p, .p] z <| aE <| cx <| ao <| aJ <| aa [.p, .p, .p] z <| aE <| ml (fun _ h => St.push0 h (W (bD) [] (aM.mk a (J.wrap (a + 1))) [I J a, I J (J.wrap (a + 1))]) z ⟨z, z⟩) <| qq (fun m c => unf (p := 1) (q := 2) c z z z j g) fun t => ml (C' := St w k [_, _, _, _]) (fun _ h => h) <| cz (RW.at (s ((e.set d.toNat (aM.mk a (J.wrap (a + 1))))) (t) (J.wrap ((J.wrap (a + 1)) + 1)) (J.wrap (d + 1)) (H)) (ss [3] z z) (sb z))
  ·exact bb <| aw <| ay <| ax <| ao <| sR <| oPP z <| nT <| ca (rs := [.tmp 4]) (vs := [I J a]) z ⟨z, Y⟩ (fun w' hw' => by
    obtain rfl := ak H
    exact ⟨_, z, f, z, hw'.sel [0] z z⟩)
theorem wE (w : World) {c : List Nat} {p0 : bo} {p1 : Int} {a_0_0 : Option Addr} {n_0_0 c_0_0 : Nat} {F_0_0 : List Nat} {a_0_1 : Option Addr} {n_0_1 c_0_1 : Nat} {F_0_1 : List Nat} {r : Int × bo} (H : lH p0 p1 = U r) (HS : St w c [W (ae (ae eI 3) 69) F_0_0 p0.n_ [S a_0_0 n_0_0 c_0_0], W (ae (bD) 84) F_0_1 p0.l_ [S a_0_1 n_0_1 c_0_1]] w) :
    Calls Tryz.prog 42 #[.agg #[S a_0_0 n_0_0 c_0_0, S a_0_1 n_0_1 c_0_1], I J p1] w (fun en w' => ∃ v, en = .returned v ∧ ∃ (p : List Nat), ∃ (q : List Nat), v = I J r.1 ∧ St w c [W (ae (ae eI 3) 69) p r.2.n_ [S a_0_0 n_0_0 c_0_0], W (ae (bD) 84) q r.2.l_ [S a_0_1 n_0_1 c_0_1]] w') := by
 obtain rfl := aI (i := 0) HS z
 obtain rfl := aI (i := 1) HS z
 unfold lH at H
 refine aq Tryz.func42 z Tryz.ntmps42 z (HS) <| sR <| ob _ z fun t => oP z <| nR <| aa [.fa 53 0 0 mp] z <| o1 z (r1 0 2 z fw z) <| oP z <| bE H fun u j H => aC z JY z z z z (fun d a => ll d j (a.carve [0] z z)) fun x d s a e => ?_
 obtain ⟨k, rfl, f⟩ := e
 refine ⟨St w c [_, _, _, _], a.comp [0] z z f, fun _ _ => Y, ?_⟩
 refine oP z <| nR <| aa [.fa 53 1 1 lO] z <| o1 z (r1 1 2 z ug z) <| oP z <| bE H fun l m H => aC z Pp z z z z (fun d a => wj d m (a.carve [1] z z)) fun A d s a g => ?_
 obtain ⟨o, rfl, h⟩ := g
 refine ⟨St w c [_, _, _, _, _], a.comp [1] z z h, fun _ _ => Y, ?_⟩
 refine oP z <| nQ <| ai <| CW.weak (C' := St w c [_, _, _]) ?_ (ss [2, 3, 4] z z)
 exact aJ <| oPP z <| nT <| ca (rs := [.tmp 4]) (vs := [I J l.1]) z ⟨z, Y⟩ (fun w' hw' => by
  obtain rfl := ak H
  exact ⟨_, z, k, o, z, hw'.sel [1, 2] z z⟩)
theorem wu (w : World) {d : List Nat} {p0 : aP} {p1 : Int} {a_0_0 : Option Addr} {n_0_0 c_0_0 : Nat} {F_0_0 : List Nat} {a_0_1 : Option Addr} {n_0_1 c_0_1 : Nat} {F_0_1 : List Nat} {a_0_2 : Option Addr} {n_0_2 c_0_2 : Nat} {F_0_2 : List Nat} {a_0_3 : Option Addr} {n_0_3 c_0_3 : Nat} {F_0_3 : List Nat} {a_0_4 : Option Addr} {n_0_4 c_0_4 : Nat} {F_0_4 : List Nat} {r : Int × aP} (H : jX p0 p1 = U r) (HS : St w d [W (ae (bj) 111) F_0_0 p0.a_.p_.d_ [S a_0_0 n_0_0 c_0_0], W (ae (cy) 9) F_0_1 p0.a_.p_.m_ [S a_0_1 n_0_1 c_0_1], W (ae (ba) 79) F_0_2 p0.J_.j_ [S a_0_2 n_0_2 c_0_2], W (ae (ae eI 3) 69) F_0_3 p0.v_.n_ [S a_0_3 n_0_3 c_0_3], W (ae (bD) 84) F_0_4 p0.v_.l_ [S a_0_4 n_0_4 c_0_4]] w) :
    Calls Tryz.prog 10 #[.agg #[S a_0_0 n_0_0 c_0_0, S a_0_1 n_0_1 c_0_1, I J p0.a_.c_.L_, I J p0.a_.c_.K_, I J p0.a_.c_.M_, I J p0.a_.c_.f_, I J p0.a_.c_.b_, I J p0.a_.c_.G_, B p0.a_.c_.P_, I J p0.a_.j_, I J p0.a_.N_, I J p0.a_.O_, I J p0.a_.s_, I J p0.a_.t_, S a_0_2 n_0_2 c_0_2, S a_0_3 n_0_3 c_0_3, S a_0_4 n_0_4 c_0_4], I J p1] w (fun en w' => ∃ v, en = .returned v ∧ ∃ (C : List Nat), ∃ (D : List Nat), ∃ (E : List Nat), ∃ (F : List Nat), ∃ (G : List Nat), v = I J r.1 ∧ St w d [W (ae (bj) 111) C r.2.a_.p_.d_ [S a_0_0 n_0_0 c_0_0], W (ae (cy) 9) D r.2.a_.p_.m_ [S a_0_1 n_0_1 c_0_1], W (ae (ba) 79) E r.2.J_.j_ [S a_0_2 n_0_2 c_0_2], W (ae (ae eI 3) 69) F r.2.v_.n_ [S a_0_3 n_0_3 c_0_3], W (ae (bD) 84) G r.2.v_.l_ [S a_0_4 n_0_4 c_0_4]] w') := by
 obtain rfl := aI (i := 0) HS z
 obtain rfl := aI (i := 1) HS z
 obtain rfl := aI (i := 2) HS z
 obtain rfl := aI (i := 3) HS z
 obtain rfl := aI (i := 4) HS z
 unfold jX at H
 refine aq Tryz.func10 z Tryz.ntmps10 z (HS) <| sR <| ob _ z fun L => oP z <| nR <| aa [.fa 55 0 0 mq] z <| o1 z (rx 0 5 _ z sx z) <| oP z <| bE H fun M l H => aC z PS z z z z (fun c a => xZ c l (a.carve [0, 1] z z)) fun P c m a e => ?_
 obtain ⟨o, p, rfl, f⟩ := e
 refine ⟨St w d [_, _, _, _, _, _, _, _], a.comp [0, 1] z z f, fun _ _ => Y, ?_⟩
 refine oP z <| nQ <| ai <| CW.weak (C' := St w d [_, _, _, _, _, _]) ?_ (ss [2, 3, 4, 5, 6, 7] z z)
 refine aJ <| aa [.fa 55 1 14 sU] z <| o1 z (rx 14 3 _ z zO z) <| oP z <| bE H fun Q q H => aC z PI z z z z (fun c a => vr c q (a.carve [0] z z)) fun R c m a g => ?_
 obtain ⟨s, rfl, h⟩ := g
 refine ⟨St w d [_, _, _, _, _, _, _], a.comp [0] z z h, fun _ _ => Y, ?_⟩
 refine oP z <| nR <| aa [.fa 55 2 15 ni] z <| o1 z (rx 15 3 _ z zW z) <| oP z <| bE H fun t u H => aC z Pw z z z z (fun c a => wE c u (a.carve [1, 2] z z)) fun T c m a j => ?_
 obtain ⟨x, A, rfl, k⟩ := j
 refine ⟨St w d [_, _, _, _, _, _, _, _, _], a.comp [1, 2] z z k, fun _ _ => Y, ?_⟩
 refine oP z <| nQ <| ai <| CW.weak (C' := St w d [_, _, _, _, _, _]) ?_ (ss [3, 4, 5, 6, 7, 8] z z)
 exact aJ <| oPP z <| nT <| ca (rs := [.tmp 4]) (vs := [I J t.1]) z ⟨z, Y⟩ (fun w' hw' => by
  obtain rfl := ak H
  exact ⟨_, z, o, p, s, x, A, z, hw'.sel [1, 2, 3, 4, 5] z z⟩)
theorem wb (w : World) {g : List Nat} {p0 : List Int} {p1 : Int} {a_0_0 : Option Addr} {n_0_0 c_0_0 : Nat} {F_0_0 : List Nat} {r : Int × (List Int)} (H : jL p0 p1 = U r) (HS : St w g [W (ae e8 5) F_0_0 p0 [S a_0_0 n_0_0 c_0_0]] w) :
    Calls Tryz.prog 11 #[S a_0_0 n_0_0 c_0_0, I J p1] w (fun en w' => ∃ v, en = .returned v ∧ ∃ (k : List Nat), v = I J r.1 ∧ St w g [W (ae e8 5) k r.2 [S a_0_0 n_0_0 c_0_0]] w') := by
 obtain rfl := aI (i := 0) HS z
 unfold jL at H
 refine aq Tryz.func11 z Tryz.ntmps11 z (HS) <| sR <| oP z <| nQ <| ai <| sR <| oP z <| nQ <| an <| CW.at (uj (fun (d : List Int) (c : Int) (a : Int) => St w g [W (ae e8 5) F_0_0 d [S a_0_0 p0.length c_0_0]]) (fun d c a => [(0, S a_0_0 p0.length c_0_0), (1, I J c), (5, I J a)]) (fun kk => fun d c a => fk p0 kk d c a = U r) (fun _ _ _ H => ?_) (fun m h d c a H => ?_) aK (p0) (p1) (0) (H)) (ss [0] z z) (sb z)
 ·unfold fk at H
  exact absurd H (by simp)
 ·unfold fk at H
  refine ai <| sR <| aa [.p, .p, .lenS 40 5 eH, .p] z <| nQ <| cI H z (fun H => ?_) (fun H => ?_)
  ·exact aj <| ao <| ai <| an <| sR <| aa [.p, .p, .p, .cv 3 5 K us3 in5] z <| bE H fun l f H => bO (e := e8) (xs := d) (j := a) z z z z z eH ty5 z (aY (e := ae e8 5) (r := 0) z) f (by rw [Nat.mul_one]) <| qI (i := 0) (j := a) z z z z z z ty5 z f (fun _ => z) kp <| nQ <| aJ <| aa [.p, .p, .p] z <| aE <| cx <| ao <| aJ <| aa [.p, .p, .p] z <| aE <| cz (RW.at (h ((d.set a.toNat (K.wrap c))) (J.wrap (c + 1)) (J.wrap (a + 1)) (H)) (ss [0] z z) (sb z))
  ·exact bb <| aw <| ay <| ax <| ao <| sR <| oPP z <| nT <| ca (rs := [.tmp 4]) (vs := [I J c]) z ⟨z, Y⟩ (fun w' hw' => by
    obtain rfl := ak H
    exact ⟨_, z, F_0_0, z, hw'.sel [0] z z⟩)
theorem rQ (w : World) {p0 : List Int} {p1 : Int} {a_0 : Option Addr} {n_0 c_0 : Nat} {r : Int} (H : iR p0 p1 = U r) (f : (ae e8 5).rd w [] p0 [S a_0 n_0 c_0]) :
    Calls Tryz.prog 12 #[S a_0 n_0 c_0, I J p1] w (fun en w' => en = .returned (I J r) ∧ Ext [] w w') := by
 obtain rfl := eb f
 unfold iR at H
 refine aq Tryz.func12 z Tryz.ntmps12 z (St.init w []) <| sR <| oP z <| nQ <| ai <| sR <| oP z <| nQ <| an <| CW.at (fx (fun (c : Int) (a : Int) => St w [] []) (fun c a => [(0, S a_0 p0.length c_0), (1, I J c), (5, I J a)]) (fun kk => fun c a => ft p0 kk c a = U r) (fun _ _ H => ?_) (fun i g c a H => ?_) aK (p1) (0) (H)) (ss [] z z) (sb z)
 ·unfold ft at H
  exact absurd H (by simp)
 ·unfold ft at H
  refine ai <| sR <| aa [.p, .p, .lenS 40 5 eH, .p] z <| nQ <| cI H z (fun H => ?_) (fun H => ?_)
  ·refine aj <| ao <| ai <| an <| ai <| sR <| oPP z <| bE H fun h d H => bO (e := e8) (xs := p0) (j := a) z z z z z eH ty5 z (ab f) d (by rw [Nat.mul_one]) <| o1 z (aF z z ty5 (cq (ab f) d)) <| aa [.p, .cv 3 5 K us3 in5, .p] z <| nQ <| cI H z (fun H => ?_) (fun H => ?_)
   ·exact sR <| oP z <| nT <| af <| ar <| af <| bd <| ar <| af <| xr 4 z (by cases H; exact q1)
   ·exact aj <| ao <| aJ <| aa [.p, .p, .p] z <| aE <| cx <| ao <| aJ <| aa [.p, .p, .p] z <| aE <| cz (RW.at (g (J.wrap (c + 1)) (J.wrap (a + 1)) (H)) (ss [] z z) (sb z))
  ·exact bb <| aw <| ay <| ax <| ao <| sR <| oPP z <| nT <| xr 4 z (by cases H; exact q1)
theorem rz (w : World) {p0 : dz} {f4 : List Value} {r : Bool} (H : iq p0 = U r) (g0 : (lZ).rd w [] p0 f4) (gT : (uw Tryz.prog).rd w [] () []) :
    Calls Tryz.prog 3 #[.agg f4.toArray] w (fun en w' => en = .returned (B r) ∧ Ext [] w w') := by
 obtain ⟨q2, q3, q4, rfl, h8, h9, i0⟩ := qk g0
 obtain ⟨q5, q6, q7, q8, q9, r0, r2, rfl, i1, i2, i3, i4, i5, i6, i7⟩ := lA h8
 obtain ⟨r3, r4, rfl, F, G⟩ := gp i1
 obtain ⟨i8, i9, rfl⟩ := ah F
 obtain ⟨j0, j1, rfl⟩ := ah G
 obtain rfl := i2
 obtain rfl := i3
 obtain rfl := i4
 obtain rfl := i5
 obtain rfl := i6
 obtain rfl := i7
 obtain ⟨r5, rfl, L⟩ := kh h9
 obtain ⟨j2, j3, rfl⟩ := ah L
 obtain ⟨r6, r7, rfl, M, P⟩ := kO i0
 obtain ⟨j4, j5, rfl⟩ := ah M
 obtain ⟨j6, j7, rfl⟩ := ah P
 unfold iq at H
 refine aq Tryz.func3 z Tryz.ntmps3 z (St.init w []) <| sR <| ob _ z fun b5 => oP z <| nR <| oP z <| nR <| o1 z (rx 0 0 _ z JW z) <| oP z <| bE H fun r8 j8 H => oq z (qc z fn4 (fun d c => yW d j8 (kP (iM (fc (ab F d c) (ab G d c)) z z z z z z) (gx (ab L d c)) (ib (ab M d c) (ab P d c))))) tt2 <| oP z <| nQ <| ai <| sR <| oPP z <| nQ <| cI H z (fun H => ?_) (fun H => ?_)
 ·exact sR <| oP z <| nT <| af <| xr 2 z (by cases H; exact q1)
 ·refine aj <| ao <| sR <| o1 z (rx 0 0 _ z JW z) <| bE H fun h j9 H => aC z fn6 z z z z (fun d c => mW d j9 (c.carve [] z z) (kP (iM (fc (ab F d c) (ab G d c)) z z z z z z) (gx (ab L d c)) (ib (ab M d c) (ab P d c)))) fun r9 d T c f5 => ?_
  obtain ⟨a7, s0, a8, k0, a9, s1, b0, k1, b6, s2, b7, k2, b8, s3, b9, k3, c7, s4, c8, k4, rfl, D⟩ := f5
  obtain rfl := aI (i := 0) D z
  obtain rfl := aI (i := 1) D z
  obtain rfl := aI (i := 2) D z
  obtain rfl := aI (i := 3) D z
  obtain rfl := aI (i := 4) D z
  refine ⟨St w [] [_, _, _, _, _, _], c.comp [] z z D, fun _ _ => Y, ?_⟩
  refine bE H fun b1 k5 H => aC z fn5 z z z z (fun d c => vX d k5 (c.carve [] z z) (ij (x := h) (c0 := [S a7 h.a_.p_.d_.length a8, S a9 h.a_.p_.m_.length b0, I J h.a_.c_.L_, I J h.a_.c_.K_, I J h.a_.c_.M_, I J h.a_.c_.f_, I J h.a_.c_.b_, I J h.a_.c_.G_, B h.a_.c_.P_, I J h.a_.j_, I J h.a_.N_, I J h.a_.O_, I J h.a_.s_, I J h.a_.t_]) (c1 := [S b6 h.J_.j_.length b7]) (c2 := [S b8 h.v_.n_.length b9, S c7 h.v_.l_.length c8]) (cl (x := h.a_) (c0 := [S a7 h.a_.p_.d_.length a8, S a9 h.a_.p_.m_.length b0]) (c1 := [I J h.a_.c_.L_, I J h.a_.c_.K_, I J h.a_.c_.M_, I J h.a_.c_.f_, I J h.a_.c_.b_, I J h.a_.c_.G_, B h.a_.c_.P_]) (c2 := [I J h.a_.j_]) (c3 := [I J h.a_.N_]) (c4 := [I J h.a_.O_]) (c5 := [I J h.a_.s_]) (c6 := [I J h.a_.t_]) (av (x := h.a_.p_) (c0 := [S a7 h.a_.p_.d_.length a8]) (c1 := [S a9 h.a_.p_.m_.length b0]) (aY (e := ae (bj) 111) (r := 1) z d c) (aY (e := ae (cy) 9) (r := 2) z d c)) z z z z z z) (dV (x := h.J_) (c0 := [S b6 h.J_.j_.length b7]) (aY (e := ae (ba) 79) (r := 3) z d c)) (ei (x := h.v_) (c0 := [S b8 h.v_.n_.length b9]) (c1 := [S c7 h.v_.l_.length c8]) (aY (e := ae (ae eI 3) 69) (r := 4) z d c) (aY (e := ae (bD) 84) (r := 5) z d c)))) fun s5 d T c f6 => ?_
  obtain ⟨c9, s6, d0, k6, rfl, d1⟩ := f6
  obtain rfl := aI (i := 0) d1 z
  refine ⟨St w [] [_, _, _, _, _, _, _], c.comp [] z z d1, fun _ _ => Y, ?_⟩
  refine oP z <| nR <| o1 z (rx 0 0 _ z JW z) <| bE H fun a k7 H => aC z fn6 z z z z (fun d c => mW d k7 (c.carve [] z z) (kP (iM (fc (ab F d c) (ab G d c)) z z z z z z) (gx (ab L d c)) (ib (ab M d c) (ab P d c)))) fun s7 d T c f7 => ?_
  obtain ⟨u, s8, v, k8, A, s9, C, k9, l, l1, m, f8, o, l2, q, f9, s, l3, t, g1, rfl, E⟩ := f7
  obtain rfl := aI (i := 0) E z
  obtain rfl := aI (i := 1) E z
  obtain rfl := aI (i := 2) E z
  obtain rfl := aI (i := 3) E z
  obtain rfl := aI (i := 4) E z
  refine ⟨St w [] [_, _, _, _, _, _, _, _, _, _, _, _], c.comp [] z z E, fun _ _ => Y, ?_⟩
  refine bL z z z z yH (fun _ => kp) fun g2 => sC 0 [S u a.a_.p_.d_.length v, S A a.a_.p_.m_.length C, I J a.a_.c_.L_, I J a.a_.c_.K_, I J a.a_.c_.M_, I J a.a_.c_.f_, I J a.a_.c_.b_, I J a.a_.c_.G_, B a.a_.c_.P_, I J a.a_.j_, I J a.a_.N_, I J a.a_.O_, I J a.a_.s_, I J a.a_.t_, S l a.J_.j_.length m, S o a.v_.n_.length q, S s a.v_.l_.length t] [_, _, _, _, _, _, _, _, _, _, _, _, _, _, _, _, _] 12 z yH z <| nR <| o1 z (rx 0 12 _ z yH z) <| bE H fun Q g3 H => aC z fn7 z z z z (fun d c => qQ d g3 (c.carve [] z z) (ij (x := a) (c0 := [S u a.a_.p_.d_.length v, S A a.a_.p_.m_.length C, I J a.a_.c_.L_, I J a.a_.c_.K_, I J a.a_.c_.M_, I J a.a_.c_.f_, I J a.a_.c_.b_, I J a.a_.c_.G_, B a.a_.c_.P_, I J a.a_.j_, I J a.a_.N_, I J a.a_.O_, I J a.a_.s_, I J a.a_.t_]) (c1 := [S l a.J_.j_.length m]) (c2 := [S o a.v_.n_.length q, S s a.v_.l_.length t]) (cl (x := a.a_) (c0 := [S u a.a_.p_.d_.length v, S A a.a_.p_.m_.length C]) (c1 := [I J a.a_.c_.L_, I J a.a_.c_.K_, I J a.a_.c_.M_, I J a.a_.c_.f_, I J a.a_.c_.b_, I J a.a_.c_.G_, B a.a_.c_.P_]) (c2 := [I J a.a_.j_]) (c3 := [I J a.a_.N_]) (c4 := [I J a.a_.O_]) (c5 := [I J a.a_.s_]) (c6 := [I J a.a_.t_]) (av (x := a.a_.p_) (c0 := [S u a.a_.p_.d_.length v]) (c1 := [S A a.a_.p_.m_.length C]) (aY (e := ae (bj) 111) (r := 7) z d c) (aY (e := ae (cy) 9) (r := 8) z d c)) z z z z z z) (dV (x := a.J_) (c0 := [S l a.J_.j_.length m]) (aY (e := ae (ba) 79) (r := 9) z d c)) (ei (x := a.v_) (c0 := [S o a.v_.n_.length q]) (c1 := [S s a.v_.l_.length t]) (aY (e := ae (ae eI 3) 69) (r := 10) z d c) (aY (e := ae (bD) 84) (r := 11) z d c))) (ab gT d c)) fun l4 d T c e5 => ?_
  obtain ⟨V, l5, X, g4, rfl, b2⟩ := e5
  obtain rfl := aI (i := 0) b2 z
  refine ⟨St w [] [_, _, _, _, _, _, _, _, _, _, _, _, _, _], c.comp [] z z b2, fun _ _ => Y, ?_⟩
  refine oP z <| nQ <| ai <| sR <| oPP z <| bE H fun l6 g5 H => oq z (qc z fn8 (fun d c => qj d g5 (aY (e := ae e8 5) (r := 13) z d c) (aY (e := ae e8 5) (r := 6) z d c))) tt2 <| oP z <| nQ <| cI H z (fun H => ?_) (fun H => ?_)
  ·exact sR <| oP z <| nT <| af <| xr 2 z (by cases H; exact q1)
  ·refine aj <| ao <| ai <| ai <| tj 3 [(0, y), (1, y), (2, n)] (St w [] [b b5 38 [S i8 p0.a_.p_.d_.length i9, S j0 p0.a_.p_.m_.length j1, I J p0.a_.c_.L_, I J p0.a_.c_.K_, I J p0.a_.c_.M_, I J p0.a_.c_.f_, I J p0.a_.c_.b_, I J p0.a_.c_.G_, B p0.a_.c_.P_, I J p0.a_.j_, I J p0.a_.N_, I J p0.a_.O_, I J p0.a_.s_, I J p0.a_.t_, S j2 p0.J_.j_.length j3, S j4 p0.v_.n_.length j5, S j6 p0.v_.l_.length j7], W (ae (bj) 111) k0 h.a_.p_.d_ [S a7 h.a_.p_.d_.length a8], W (ae (cy) 9) k1 h.a_.p_.m_ [S a9 h.a_.p_.m_.length b0], W (ae (ba) 79) k2 h.J_.j_ [S b6 h.J_.j_.length b7], W (ae (ae eI 3) 69) k3 h.v_.n_ [S b8 h.v_.n_.length b9], W (ae (bD) 84) k4 h.v_.l_ [S c7 h.v_.l_.length c8], W (ae e8 5) k6 b1 [S c9 b1.length d0], W (ae (bj) 111) k8 a.a_.p_.d_ [S u a.a_.p_.d_.length v], W (ae (cy) 9) k9 a.a_.p_.m_ [S A a.a_.p_.m_.length C], W (ae (ba) 79) f8 a.J_.j_ [S l a.J_.j_.length m], W (ae (ae eI 3) 69) f9 a.v_.n_ [S o a.v_.n_.length q], W (ae (bD) 84) g1 a.v_.l_ [S s a.v_.l_.length t], b g2 55 [S u a.a_.p_.d_.length v, S A a.a_.p_.m_.length C, I J a.a_.c_.L_, I J a.a_.c_.K_, I J a.a_.c_.M_, I J a.a_.c_.f_, I J a.a_.c_.b_, I J a.a_.c_.G_, B a.a_.c_.P_, I J a.a_.j_, I J a.a_.N_, I J a.a_.O_, I J a.a_.s_, I J a.a_.t_, S l a.J_.j_.length m, S o a.v_.n_.length q, S s a.v_.l_.length t], W (ae e8 5) g4 Q [S V Q.length X]]) eR (by kernel_rfl) (iS (iS kw)) (tk 14 z) <| nr z (bU z) (rx 0 12 _ z yH z) <| nr z (bU z) (rx 0 0 _ z JW z) <| bE H fun f g6 H => aC z fn6 z z z z (fun d c => mW d g6 (c.carve [] z z) (kP (iM (fc (ab F d c) (ab G d c)) z z z z z z) (gx (ab L d c)) (ib (ab M d c) (ab P d c)))) fun l7 d T c e6 => ?_
   obtain ⟨Z, l8, a0, l9, a1, m0, a2, m1, d2, m2, d3, m3, d4, m4, d5, m5, d6, m6, d7, m7, rfl, j⟩ := e6
   obtain rfl := aI (i := 0) j z
   obtain rfl := aI (i := 1) j z
   obtain rfl := aI (i := 2) j z
   obtain rfl := aI (i := 3) j z
   obtain rfl := aI (i := 4) j z
   refine ⟨St w [] [_, _, _, _, _, _, _, _, _, _, _, _, _, _, _, _, _, _, _], c.comp [] z z j, (tk 14 z), ?_⟩
   refine sV <| Fz <| bE H fun m8 g7 H => oq z (qc z fn9 (fun d c => yE d g7 (ij (x := a) (c0 := [S u a.a_.p_.d_.length v, S A a.a_.p_.m_.length C, I J a.a_.c_.L_, I J a.a_.c_.K_, I J a.a_.c_.M_, I J a.a_.c_.f_, I J a.a_.c_.b_, I J a.a_.c_.G_, B a.a_.c_.P_, I J a.a_.j_, I J a.a_.N_, I J a.a_.O_, I J a.a_.s_, I J a.a_.t_]) (c1 := [S l a.J_.j_.length m]) (c2 := [S o a.v_.n_.length q, S s a.v_.l_.length t]) (cl (x := a.a_) (c0 := [S u a.a_.p_.d_.length v, S A a.a_.p_.m_.length C]) (c1 := [I J a.a_.c_.L_, I J a.a_.c_.K_, I J a.a_.c_.M_, I J a.a_.c_.f_, I J a.a_.c_.b_, I J a.a_.c_.G_, B a.a_.c_.P_]) (c2 := [I J a.a_.j_]) (c3 := [I J a.a_.N_]) (c4 := [I J a.a_.O_]) (c5 := [I J a.a_.s_]) (c6 := [I J a.a_.t_]) (av (x := a.a_.p_) (c0 := [S u a.a_.p_.d_.length v]) (c1 := [S A a.a_.p_.m_.length C]) (aY (e := ae (bj) 111) (r := 7) z d c) (aY (e := ae (cy) 9) (r := 8) z d c)) z z z z z z) (dV (x := a.J_) (c0 := [S l a.J_.j_.length m]) (aY (e := ae (ba) 79) (r := 9) z d c)) (ei (x := a.v_) (c0 := [S o a.v_.n_.length q]) (c1 := [S s a.v_.l_.length t]) (aY (e := ae (ae eI 3) 69) (r := 10) z d c) (aY (e := ae (bD) 84) (r := 11) z d c))) (ij (x := f) (c0 := [S Z f.a_.p_.d_.length a0, S a1 f.a_.p_.m_.length a2, I J f.a_.c_.L_, I J f.a_.c_.K_, I J f.a_.c_.M_, I J f.a_.c_.f_, I J f.a_.c_.b_, I J f.a_.c_.G_, B f.a_.c_.P_, I J f.a_.j_, I J f.a_.N_, I J f.a_.O_, I J f.a_.s_, I J f.a_.t_]) (c1 := [S d2 f.J_.j_.length d3]) (c2 := [S d4 f.v_.n_.length d5, S d6 f.v_.l_.length d7]) (cl (x := f.a_) (c0 := [S Z f.a_.p_.d_.length a0, S a1 f.a_.p_.m_.length a2]) (c1 := [I J f.a_.c_.L_, I J f.a_.c_.K_, I J f.a_.c_.M_, I J f.a_.c_.f_, I J f.a_.c_.b_, I J f.a_.c_.G_, B f.a_.c_.P_]) (c2 := [I J f.a_.j_]) (c3 := [I J f.a_.N_]) (c4 := [I J f.a_.O_]) (c5 := [I J f.a_.s_]) (c6 := [I J f.a_.t_]) (av (x := f.a_.p_) (c0 := [S Z f.a_.p_.d_.length a0]) (c1 := [S a1 f.a_.p_.m_.length a2]) (aY (e := ae (bj) 111) (r := 14) z d c) (aY (e := ae (cy) 9) (r := 15) z d c)) z z z z z z) (dV (x := f.J_) (c0 := [S d2 f.J_.j_.length d3]) (aY (e := ae (ba) 79) (r := 16) z d c)) (ei (x := f.v_) (c0 := [S d4 f.v_.n_.length d5]) (c1 := [S d6 f.v_.l_.length d7]) (aY (e := ae (ae eI 3) 69) (r := 17) z d c) (aY (e := ae (bD) 84) (r := 18) z d c))))) tt2 <| oP z <| nQ <| cI H z (fun H => ?_) (fun H => ?_)
   ·exact sR <| oP z <| nT <| af <| xr 2 z (by cases H; exact q1)
   ·refine aj <| ao <| sR <| oP z <| nR <| o1 z (rx 0 12 _ z yH z) <| oP z <| bE H fun d8 g8 H => aC z Po z z z z (fun d c => wu d g8 (c.carve [7, 8, 9, 10, 11] z z)) fun m9 d T c e7 => ?_
    obtain ⟨n0, n1, n2, n3, n4, rfl, e9⟩ := e7
    refine ⟨St w [] [_, _, _, _, _, _, _, _, _, _, _, _, _, _, _, _, _, _, _, _, _, _, _, _], c.comp [7, 8, 9, 10, 11] z z e9, fun _ _ => Y, ?_⟩
    refine oP z <| nQ <| ai <| ai <| CW.weak (C' := St w [] [_, _, _, _, _, _, _, _, _, _, _, _, _, _, _, _, _, _, _]) ?_ (ss [0, 1, 2, 3, 4, 5, 6, 12, 13, 14, 15, 16, 17, 18, 19, 20, 21, 22, 23] z z)
    refine aJ <| aa [.p, .p, .p] z <| bE H fun g9 b3 H => aL [(42, B g9), (1, O (U ⟨b5, 0, N⟩)), (4, S c9 b1.length d0), (6, S V Q.length X)] 5 ?_ (fun key => OW.sub (R := [(1, O (U ⟨b5, 0, N⟩)), (4, S c9 b1.length d0), (6, S V Q.length X), (37, B (decide (d8.1 < 0)))]) ?_ (sb z))
    ·refine nQ <| cI H z (fun H => ?_) (fun H => ?_)
     ·exact sR <| oP z <| nT <| af <| xr 2 z (by cases H; exact q1)
     ·refine aj <| ao <| sR <| oP z <| nR <| oPP z <| bE H fun n5 h0 H => aC z Ps z z z z (fun d c => wb d h0 (c.carve [8] z z)) fun n6 d T c f0 => ?_
      obtain ⟨n7, rfl, f1⟩ := f0
      refine ⟨St w [] [_, _, _, _, _, _, _, _, _, _, _, _, _, _, _, _, _, _, _, _], c.comp [8] z z f1, fun _ _ => Y, ?_⟩
      refine oP z <| nR <| oP z <| nR <| oPP z <| bE H fun n8 h1 H => oq z (qc z Na (fun d c => rQ d h1 (aY (e := ae e8 5) (r := 19) z d c))) tt2 <| oP z <| nQ <| ai <| sR <| oPP z <| nQ <| cI H z (fun H => ?_) (fun H => ?_)
      ·exact sR <| oP z <| nT <| af <| xr 2 z (by cases H; exact q1)
      ·refine aj <| ao <| ai <| sR <| aa [.p, .p, .p] z <| nQ <| cI H z (fun H => ?_) (fun H => ?_)
       ·exact sR <| oP z <| nT <| af <| xr 2 z (by cases H; exact q1)
       ·refine aj <| ao <| sR <| o1 z (rx 0 0 _ z JW z) <| bE H fun g h2 H => aC z fn6 z z z z (fun d c => mW d h2 (c.carve [] z z) (kP (iM (fc (ab F d c) (ab G d c)) z z z z z z) (gx (ab L d c)) (ib (ab M d c) (ab P d c)))) fun n9 d T c f2 => ?_
        obtain ⟨a3, o0, a4, o2, a5, o3, a6, o4, d9, o5, e0, o6, e1, o7, e2, o8, e3, o9, e4, p1, rfl, k⟩ := f2
        obtain rfl := aI (i := 0) k z
        obtain rfl := aI (i := 1) k z
        obtain rfl := aI (i := 2) k z
        obtain rfl := aI (i := 3) k z
        obtain rfl := aI (i := 4) k z
        refine ⟨St w [] [_, _, _, _, _, _, _, _, _, _, _, _, _, _, _, _, _, _, _, _, _, _, _, _, _], c.comp [] z z k, fun _ _ => Y, ?_⟩
        refine bE H fun p2 h3 H => aC z fn7 z z z z (fun d c => qQ d h3 (c.carve [] z z) (ij (x := g) (c0 := [S a3 g.a_.p_.d_.length a4, S a5 g.a_.p_.m_.length a6, I J g.a_.c_.L_, I J g.a_.c_.K_, I J g.a_.c_.M_, I J g.a_.c_.f_, I J g.a_.c_.b_, I J g.a_.c_.G_, B g.a_.c_.P_, I J g.a_.j_, I J g.a_.N_, I J g.a_.O_, I J g.a_.s_, I J g.a_.t_]) (c1 := [S d9 g.J_.j_.length e0]) (c2 := [S e1 g.v_.n_.length e2, S e3 g.v_.l_.length e4]) (cl (x := g.a_) (c0 := [S a3 g.a_.p_.d_.length a4, S a5 g.a_.p_.m_.length a6]) (c1 := [I J g.a_.c_.L_, I J g.a_.c_.K_, I J g.a_.c_.M_, I J g.a_.c_.f_, I J g.a_.c_.b_, I J g.a_.c_.G_, B g.a_.c_.P_]) (c2 := [I J g.a_.j_]) (c3 := [I J g.a_.N_]) (c4 := [I J g.a_.O_]) (c5 := [I J g.a_.s_]) (c6 := [I J g.a_.t_]) (av (x := g.a_.p_) (c0 := [S a3 g.a_.p_.d_.length a4]) (c1 := [S a5 g.a_.p_.m_.length a6]) (aY (e := ae (bj) 111) (r := 20) z d c) (aY (e := ae (cy) 9) (r := 21) z d c)) z z z z z z) (dV (x := g.J_) (c0 := [S d9 g.J_.j_.length e0]) (aY (e := ae (ba) 79) (r := 22) z d c)) (ei (x := g.v_) (c0 := [S e1 g.v_.n_.length e2]) (c1 := [S e3 g.v_.l_.length e4]) (aY (e := ae (ae eI 3) 69) (r := 23) z d c) (aY (e := ae (bD) 84) (r := 24) z d c))) (ab gT d c)) fun p3 d T c f3 => ?_
        obtain ⟨p4, p5, p6, p7, rfl, b4⟩ := f3
        obtain rfl := aI (i := 0) b4 z
        refine ⟨St w [] [_, _, _, _, _, _, _, _, _, _, _, _, _, _, _, _, _, _, _, _, _, _, _, _, _, _], c.comp [] z z b4, fun _ _ => Y, ?_⟩
        refine oP z <| nQ <| ai <| sR <| oPP z <| bE H fun p8 h4 H => oq z (qc z fn8 (fun d c => qj d h4 (aY (e := ae e8 5) (r := 25) z d c) (aY (e := ae e8 5) (r := 6) z d c))) tt2 <| oP z <| nQ <| cI H z (fun H => ?_) (fun H => ?_)
        ·exact sR <| oP z <| nT <| af <| xr 2 z (by cases H; exact q1)
        ·refine aj <| ao <| sR <| oP z <| nR <| oPP z <| bE H fun p9 h5 H => oq z (qc z Na (fun d c => rQ d h5 (aY (e := ae e8 5) (r := 19) z d c))) tt2 <| oP z <| nQ <| ai <| sR <| oPP z <| nQ <| cI H z (fun H => ?_) (fun H => ?_)
         ·exact sR <| oP z <| nT <| af <| xr 2 z (by cases H; exact q1)
         ·refine aj <| ao <| ai <| sR <| aa [.p, .p, .p] z <| nQ <| cI H z (fun H => ?_) (fun H => ?_)
          ·exact sR <| oP z <| nT <| af <| xr 2 z (by cases H; exact q1)
          ·exact aj <| ao <| sR <| oP z <| nT <| xr 2 z (by cases H; exact q1)
    ·clear H
     have H := b3
     clear b3
     generalize (decide (d8.1 < 0)) = h6 at H key ⊢
     cases h6
     ·have H := aQ z H
      refine oPP z <| bE H fun q0 h7 H => oq z (qc z fn8 (fun d c => qj d h7 (aY (e := ae e8 5) (r := 8) z d c) (aY (e := ae e8 5) (r := 6) z d c))) tt2 <| oP z <| oP z <| ?_
      obtain rfl := ak H
      exact OW.sub key (sb z)
     ·have H := aR z H
      refine aa [.p, .p, .p, .p, .p] z ?_
      obtain rfl := ak H
      exact OW.sub key (sb z)
end Go.Vk
