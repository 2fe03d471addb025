/- The code does what the functions of data say. Printed by program. -/
import Derived.Test.YtdckhcfbccnjiaaGreatDoorWTlE
namespace Go.Vk
open Value renaming int → I, slice → S, pointer → O, bool → B
open IntKind renaming i64 → J, u8 → K
open Bool renaming true → y, false → n
open Option renaming some → U, none → N
open Res renaming box → b, own → W
open Go.Proofs Go.RowKit
set_option maxHeartbeats 4000000
set_option maxRecDepth 100000
theorem jv (w : World) {p0 : List (List UInt8)} {a_0 : Option Addr} {n_0 c_0 : Nat} {r : Bool} (H : eh p0 = U r) (f : (af (da) 9).rd w [] p0 [S a_0 n_0 c_0]) :
    Calls Tryz.prog 76 #[S a_0 n_0 c_0] w (fun en w' => en = .returned (B r) ∧ Ext [] w w') := by
 obtain rfl := ee f
 unfold eh at H
 refine aG Tryz.func76 z Tryz.ntmps76 z (St.init w []) <| sR <| oP z <| nQ <| ak <| sR <| aa [.p, .lenS 25 9 ek, .p] z <| nQ <| aB <| CW.at (fL (fun (a : Int) => St w [] []) (fun a => [(0, S a_0 p0.length c_0), (5, S a_0 p0.length c_0), (6, I J (p0.length : Int)), (7, I J a)]) (fun kk => fun a => dY p0 kk a = U r) (fun _ H => ?_) (fun E m a H => ?_) bh (0) (H)) (ss [] z z) (sb z)
 ·unfold dY at H
  exact absurd H (by simp)
 ·unfold dY at H
  refine sR <| oP z <| nQ <| ak <| cI H z (fun H => ?_) (fun H => ?_)
  ·refine aw <| az <| ak <| aB <| sR <| oP z <| bE H fun o h H => bq (e := da) (xs := p0) (j := a) z z z z z ek ty9 z (ab f) h (by rw [Nat.mul_one]) <| o1 z (aF z z ty9 (bC (ab f) h)) <| oPP z <| nR <| oP z <| bE H fun i q H => oq z (qc z AY (fun g k => oT g q)) tt2 <| oPP z <| bE H fun s d H => aQ [(21, B s), (0, S a_0 p0.length c_0), (5, S a_0 p0.length c_0), (6, I J (p0.length : Int)), (7, I J a)] 6 ?_ (fun key => OW.sub (R := [(0, S a_0 p0.length c_0), (3, I J a), (4, vS o), (5, S a_0 p0.length c_0), (6, I J (p0.length : Int)), (7, I J a), (15, B (!i))]) ?_ (sb z))
   ·refine nQ <| cI H z (fun H => ?_) (fun H => ?_)
    ·exact sR <| oP z <| nT <| aP <| ap <| bZ <| aP <| ap <| xr 2 z (by cases H; exact q1)
    ·exact aw <| ca <| az <| aT <| oPP z <| ay <| cQ (RW.at (m (J.wrap (a + 1)) (H)) (ss [] z z) (sb z))
   ·clear H
    have H := d
    clear d
    generalize (!i) = t at H key ⊢
    cases t
    ·have H := ba z H
     refine oPP z <| bE H fun l u H => wT z z z z ek ty9 z z z u f fun C c => ?_
     obtain ⟨v, x, rfl⟩ := AR c
     have c : (af (da) 9).rd w [] l [S v l.length x] := c
     refine oP z <| bE H fun D A H => oq z (qc z CJ (fun g k => jy g A (ab c g k))) tt2 <| oP z <| ?_
     obtain rfl := ai H
     exact OW.sub key (sb z)
    ·have H := bb z H
     refine aa [.p, .p, .p, .p, .p, .p] z ?_
     obtain rfl := ai H
     exact OW.sub key (sb z)
  ·exact bH <| aN <| aS <| aM <| az <| sR <| oP z <| nT <| xr 2 z (by cases H; exact q1)
theorem li (w : World) {p0 : List Int} {a_0 : Option Addr} {n_0 c_0 : Nat} {r : Bool} (H : fz p0 = U r) (c : (af eI 3).rd w [] p0 [S a_0 n_0 c_0]) :
    Calls Tryz.prog 103 #[S a_0 n_0 c_0] w (fun en w' => en = .returned (B r) ∧ Ext [] w w') := by
 obtain rfl := ee c
 unfold fz at H
 refine aG Tryz.func103 z Tryz.ntmps103 z (St.init w []) <| sR <| oP z <| nQ <| ak <| sR <| oP z <| nQ <| aB <| CW.at (fL (fun (a : Int) => St w [] []) (fun a => [(0, S a_0 p0.length c_0), (3, I J a)]) (fun kk => fun a => ec p0 kk a = U r) (fun _ H => ?_) (fun k g a H => ?_) bh (1) (H)) (ss [] z z) (sb z)
 ·unfold ec at H
  exact absurd H (by simp)
 ·unfold ec at H
  refine ak <| sR <| aa [.p, .p, .lenS 31 3 aO, .p] z <| nQ <| cI H z (fun H => ?_) (fun H => ?_)
  ·refine aw <| az <| ak <| aB <| ak <| dJ bT (by kernel_rfl) <| oPP z <| bE H fun h d H => bq (e := eI) (xs := p0) (j := a) z z z z z aO ty3 z (ab c) d (by rw [Nat.mul_one]) <| o1 z (aF z z ty3 (bC (ab c) d)) <| aa [.p, .p, .p] z <| bE H fun i f H => bq (e := eI) (xs := p0) (j := J.wrap (a - 1)) z z z z z aO ty3 z (ab c) f (by rw [Nat.mul_one]) <| o1 z (aF z z ty3 (bC (ab c) f)) <| oP z <| cx <| az <| cI H z (fun H => ?_) (fun H => ?_)
   ·exact sR <| oP z <| nT <| aP <| ap <| bZ <| aP <| ap <| xr 2 z (by cases H; exact q1)
   ·exact aw <| ca <| az <| aT <| aa [.p, .p, .p] z <| ay <| cQ (RW.at (g (J.wrap (a + 1)) (H)) (ss [] z z) (sb z))
  ·exact bH <| aN <| aS <| aM <| az <| sR <| oP z <| nT <| xr 2 z (by cases H; exact q1)
theorem tt (w : World) {p0 : Int} {r : Bool} (H : ow p0 = U r)   :
    Calls Tryz.prog 131 #[I J p0] w (fun en w' => en = .returned (B r) ∧ Ext [] w w') := by
 unfold ow at H
 exact aG Tryz.func131 z Tryz.ntmps131 z (St.init w []) <| sR <| oP z <| nR <| oP z <| bE H fun d a H => oq z (qc z oR (fun c e => cE c a)) tt2 <| oP z <| nT <| xr 2 z (by cases H; exact q1)
theorem qV (w : World) {p0 : Int} {r : Bool} (H : lM p0 = U r)   :
    Calls Tryz.prog 130 #[I J p0] w (fun en w' => en = .returned (B r) ∧ Ext [] w w') := by
 unfold lM at H
 exact aG Tryz.func130 z Tryz.ntmps130 z (St.init w []) <| sR <| oP z <| nR <| oP z <| bE H fun d a H => oq z (qc z Dn (fun c e => tt c a)) tt2 <| oPP z <| nT <| xr 2 z (by cases H; exact q1)
theorem ib (w : World) {p0 : List Int} {a_0 : Option Addr} {n_0 c_0 : Nat} {r : Int} (H : cL p0 = U r) (d : (af eI 3).rd w [] p0 [S a_0 n_0 c_0]) :
    Calls Tryz.prog 129 #[S a_0 n_0 c_0, .func (.func 130) #[] #[]] w (fun en w' => en = .returned (I J r) ∧ Ext [] w w') := by
 obtain rfl := ee d
 unfold cL at H
 refine aG Tryz.func129 z Tryz.ntmps129 z (St.init w []) <| sR <| oP z <| nQ <| ak <| sR <| aa [.p, .lenS 31 3 aO, .p] z <| nQ <| aB <| CW.at (fL (fun (a : Int) => St w [] []) (fun a => [(0, S a_0 p0.length c_0), (1, .func (.func 130) #[] #[]), (7, I J (p0.length : Int)), (8, I J a)]) (fun kk => fun a => bG p0 kk a = U r) (fun _ H => ?_) (fun m f a H => ?_) bh (0) (H)) (ss [] z z) (sb z)
 ·unfold bG at H
  exact absurd H (by simp)
 ·unfold bG at H
  refine sR <| oP z <| nQ <| ak <| cI H z (fun H => ?_) (fun H => ?_)
  ·refine aw <| az <| ak <| aB <| sR <| oPP z <| nR <| aa [.p, .p, .p] z <| bE H fun i c H => bq (e := eI) (xs := p0) (j := a) z z z z z aO ty3 z (ab d) c (by rw [Nat.mul_one]) <| o1 z (aF z z ty3 (bC (ab d) c)) <| bE H fun k g H => zM z z (ax z) (sH (cap := []) z Cw z z (fun h l => qV h g)) (fun _ _ => Y) <| nQ <| cI H z (fun H => ?_) (fun H => ?_)
   ·exact sR <| oPP z <| nT <| aP <| ap <| bZ <| aP <| ap <| xr 4 z (by cases H; exact q1)
   ·exact aw <| ca <| az <| aT <| oPP z <| ay <| cQ (RW.at (f (J.wrap (a + 1)) (H)) (ss [] z z) (sb z))
  ·exact bH <| aN <| aS <| aM <| az <| sR <| oP z <| nT <| xr 4 z (by cases H; exact q1)
theorem gv (w : World) {p0 : List Int} {a_0 : Option Addr} {n_0 c_0 : Nat} {r : Bool} (H : cC p0 = U r) (a : (af eI 3).rd w [] p0 [S a_0 n_0 c_0]) :
    Calls Tryz.prog 104 #[S a_0 n_0 c_0, .func (.func 130) #[] #[]] w (fun en w' => en = .returned (B r) ∧ Ext [] w w') := by
 obtain rfl := ee a
 unfold cC at H
 exact aG Tryz.func104 z Tryz.ntmps104 z (St.init w []) <| sR <| oP z <| nR <| oPP z <| bE H fun f c H => oq z (qc z yY (fun d e => ib d c (ab a d e))) tt2 <| oPP z <| nT <| xr 4 z (by cases H; exact q1)
theorem ta (w : World) {p0 : List Int} {a_0 : Option Addr} {n_0 c_0 : Nat} {r : Bool} (H : ma p0 = U r) (h : (af eI 3).rd w [] p0 [S a_0 n_0 c_0]) :
    Calls Tryz.prog 107 #[S a_0 n_0 c_0] w (fun en w' => en = .returned (B r) ∧ Ext [] w w') := by
 obtain rfl := ee h
 unfold ma at H
 refine aG Tryz.func107 z Tryz.ntmps107 z (St.init w []) <| sR <| oP z <| nR <| aa [.p, .lenS 31 3 aO] z <| bE H fun g i H => oq z (qc z oR (fun a c => cE a i)) tt2 <| oP z <| bE H fun d e H => aQ [(9, B d), (0, S a_0 p0.length c_0), (2, B n)] 3 ?_ (fun key => OW.sub (R := [(0, S a_0 p0.length c_0), (2, B n), (6, B g)]) ?_ (sb z))
 ·refine oP z <| bE H fun j f H => aQ [(14, B j), (2, B n)] 4 ?_ (fun key => OW.sub (R := [(0, S a_0 p0.length c_0), (2, B n), (10, B d)]) ?_ (sb z))
  ·exact oP z <| nT <| xr 2 z (by cases H; exact q1)
  ·clear H
   have H := f
   clear f
   generalize d = k at H key ⊢
   cases k
   ·have H := ba z H
    refine aa [.p, .p, .p, .p] z ?_
    obtain rfl := ai H
    exact OW.sub key (sb z)
   ·have H := bb z H
    refine oP z <| bE H fun q l H => oq z (qc z yn (fun a c => gv a l (ab h a c))) tt2 <| oP z <| oP z <| ?_
    obtain rfl := ai H
    exact OW.sub key (sb z)
 ·clear H
  have H := e
  clear e
  generalize g = m at H key ⊢
  cases m
  ·have H := ba z H
   refine aa [.p, .p, .p] z ?_
   obtain rfl := ai H
   exact OW.sub key (sb z)
  ·have H := bb z H
   refine oP z <| bE H fun s o H => oq z (qc z zj (fun a c => li a o (ab h a c))) tt2 <| oP z <| ?_
   obtain rfl := ai H
   exact OW.sub key (sb z)
theorem sG (w : World) {p0 : bi} {f : List Value} {r : Bool} (H : lY p0 = U r) (x : (cf).rd w [] p0 f) :
    Calls Tryz.prog 65 #[.agg f.toArray] w (fun en w' => en = .returned (B r) ∧ Ext [] w w') := by
 obtain ⟨A, C, D, rfl, k, g, h⟩ := bW x
 obtain rfl := k
 obtain ⟨E, F, rfl⟩ := am g
 obtain ⟨G, L, rfl⟩ := am h
 unfold lY at H
 refine aG Tryz.func65 z Tryz.ntmps65 z (St.init w []) <| sR <| ob _ z fun i => oP z <| nQ <| ak <| sR <| aa [.fa 63 0 0 oy] z <| o1 z (r1 0 0 z ty9 z) <| bE H fun M l H => oq z (qc z AY (fun a c => oT a l)) tt2 <| oP z <| nQ <| cI H z (fun H => ?_) (fun H => ?_)
 ·exact sR <| oP z <| nT <| ap <| xr 2 z (by cases H; exact q1)
 ·refine aw <| az <| ak <| sR <| aa [.fa 63 1 1 gx] z <| o1 z (r1 1 0 z cw z) <| aa [.lenS 31 3 aO, .p] z <| nQ <| cI H z (fun H => ?_) (fun H => ?_)
  ·refine sR <| aa [.fa 63 2 2 lu] z <| o1 z (r1 2 0 z ja z) <| aa [.lenS 25 9 ek] z <| bE H fun j m H => oq z (qc z oR (fun a c => cE a m)) tt2 <| oP z <| bE H fun o d H => aQ [(19, B o), (2, B n)] 4 ?_ (fun key => OW.sub (R := [(1, O (U ⟨i, 0, N⟩)), (2, B n), (15, B j)]) ?_ (sb z))
   ·exact oP z <| nT <| ap <| xr 2 z (by cases H; exact q1)
   ·clear H
    have H := d
    clear d
    generalize j = q at H key ⊢
    cases q
    ·have H := ba z H
     refine aa [.p, .p, .p, .p] z ?_
     obtain rfl := ai H
     exact OW.sub key (sb z)
    ·have H := bb z H
     refine aa [.fa 63 2 2 lu] z <| o1 z (r1 2 0 z ja z) <| bE H fun P s H => oq z (qc z Bt (fun a c => jv a s (ab h a c))) tt2 <| oP z <| ?_
     obtain rfl := ai H
     exact OW.sub key (sb z)
  ·refine aw <| az <| sR <| aa [.fa 63 2 2 lu] z <| o1 z (r1 2 0 z ja z) <| aa [.lenS 25 9 ek, .p, .p] z <| bE H fun t e H => aQ [(28, B t), (2, B n)] 4 ?_ (fun key => OW.sub (R := [(1, O (U ⟨i, 0, N⟩)), (2, B n), (24, B ((p0.y_.length : Int) == 0))]) ?_ (sb z))
   ·exact oP z <| nT <| xr 2 z (by cases H; exact q1)
   ·clear H
    have H := e
    clear e
    generalize ((p0.y_.length : Int) == 0) = u at H key ⊢
    cases u
    ·have H := ba z H
     refine aa [.p, .p, .p, .p] z ?_
     obtain rfl := ai H
     exact OW.sub key (sb z)
    ·have H := bb z H
     refine aa [.fa 63 1 1 gx] z <| o1 z (r1 1 0 z cw z) <| bE H fun Q v H => oq z (qc z CQ (fun a c => ta a v (ab g a c))) tt2 <| oP z <| ?_
     obtain rfl := ai H
     exact OW.sub key (sb z)
theorem ka (w : World) {p0 : ae} {G : List Value} {r : Bool} (H : fS p0 = U r) (g0 : (aX).rd w [] p0 G) :
    Calls Tryz.prog 38 #[.agg G.toArray] w (fun en w' => en = .returned (B r) ∧ Ext [] w w') := by
 obtain ⟨c6, c7, rfl, L, M⟩ := aI g0
 obtain ⟨a7, a8, rfl⟩ := am L
 obtain ⟨c8, c9, rfl⟩ := am M
 unfold fS at H
 refine aG Tryz.func38 z Tryz.ntmps38 z (St.init w []) <| sR <| ob _ z fun k => oP z <| nQ <| ak <| sR <| aa [.fa 27 0 0 dq] z <| o1 z (r1 0 0 z iH z) <| aa [.lenS 24 63 iw] z <| bE H fun P a9 H => oq z (qc z oR (fun d c => cE d a9)) tt2 <| oPP z <| bE H fun m o H => aQ [(17, B m), (1, O (U ⟨k, 0, N⟩))] 6 ?_ (fun key => OW.sub (R := [(1, O (U ⟨k, 0, N⟩)), (11, B (!P))]) ?_ (sb z))
 ·refine oP z <| bE H fun b0 q H => aQ [(23, B b0), (1, O (U ⟨k, 0, N⟩))] 5 ?_ (fun key => OW.sub (R := [(1, O (U ⟨k, 0, N⟩)), (18, B m)]) ?_ (sb z))
  ·refine nQ <| cI H z (fun H => ?_) (fun H => ?_)
   ·exact sR <| oP z <| nT <| ap <| xr 2 z (by cases H; exact q1)
   ·refine aw <| az <| sR <| bM (e := da) z z z z ek ty9 (fun _ => kp) fun Q => oP z <| nQ <| ak <| sR <| aa [.fa 27 0 0 dq] z <| o1 z (r1 0 0 z iH z) <| aa [.lenS 24 63 iw, .p] z <| nQ <| aB <| CW.at (iz (fun (g : Int) (f : List (List UInt8)) (h : Option Addr) (j : Nat) (l : List Nat) => St w [] [W (af (da) 9) l f [S h f.length j]]) (fun g f h j l => [(3, S h f.length j), (26, S a7 p0.b_.length a8), (27, I J (p0.b_.length : Int)), (28, I J g)]) (fun kk => fun g f h j l => h.isNone = n ∧ dU p0 kk g f = U r) (fun _ _ _ _ _ H => ?_) (fun k1 X g f h j l ⟨b6, H⟩ => ?_) bh (0) (([] : List (List UInt8))) ((U ⟨Q, 0, N⟩)) (0) ([Q]) (⟨z, H⟩)) (ss [1] z z) (sb z)
    ·unfold dU at H
     exact absurd H (by simp)
    ·unfold dU at H
     refine sR <| oP z <| nQ <| ak <| cI H z (fun H => ?_) (fun H => ?_)
     ·refine aw <| az <| ak <| aB <| sR <| bE H fun a Z H => cB z z z z z iw dI z L Z fun b7 b8 D E => ?_
      obtain ⟨b9, c0, c1, rfl, a0, s, t⟩ := bW D
      obtain rfl := a0
      obtain ⟨u, v, rfl⟩ := am s
      obtain ⟨x, A, rfl⟩ := am t
      refine o1 z (cV (cs := [vS a.x_, S u a.t_.length v, S x a.y_.length A]) z z dI (co bor E) z) <| aC z z z z dI (fun _ => kp) fun c2 => sC 0 [vS a.x_, S u a.t_.length v, S x a.y_.length A] [_, _, _] 1 z dI z <| nQ <| ak <| sR <| o1 z (rx 0 1 _ z dI z) <| bE H fun c3 a1 H => oq z (qc z Dw (fun d c => sG d a1 (dd z (ab s d c) (ab t d c)))) tt2 <| oP z <| nQ <| cI H z (fun H => ?_) (fun H => ?_)
      ·exact sR <| oP z <| nT <| ap <| aP <| ap <| bZ <| aP <| ap <| xr 2 z (by cases H; exact q1)
      ·exact aw <| az <| aT <| aa [.p, .fa 63 0 0 oy] z <| o1 z (r1 0 1 z ty9 z) <| bA (val := vS) (h1 := fun _ => z) [a.x_] [(0, [vS a.x_])] z z z z z ek ty9 z z z ⟨z, z, nl z, Y⟩ z z (fun _ => kp) fun c4 => bE H fun a2 C H => bY (r := 0) (ys := ([a.x_] : List (List UInt8))) z z z z z z ek ty9 z z z (fun d c => au (e := af (da) 9) (r := 2) z d c) C (fun _ _ _ => kp) fun a3 a4 a5 => cg z (fun d c => eD (i := 0) c z (eG C)) fun F => oP z <| ay <| ca <| az <| aT <| oPP z <| ay <| cQ (RW.at (X (J.wrap (g + 1)) (a2) (a3) (a4) (a5) (⟨F, H⟩)) (ss [0] z z) (sb z))
     ·exact bH <| aN <| aS <| aM <| az <| sR <| oP z <| bE H fun c5 a6 H => oq z (qc z Bt (fun d c => jv d a6 (au (e := af (da) 9) (r := 0) z d c))) tt2 <| oP z <| nT <| xr 2 z (by cases H; exact q1)
  ·clear H
   have H := q
   clear q
   generalize m = b1 at H key ⊢
   cases b1
   ·have H := ba z H
    refine aa [.fa 27 1 1 fZ] z <| o1 z (r1 1 0 z ja z) <| bE H fun d0 b2 H => oq z (qc z Bt (fun d c => jv d b2 (ab M d c))) tt2 <| oP z <| oP z <| ?_
    obtain rfl := ai H
    exact OW.sub key (sb z)
   ·have H := bb z H
    refine aa [.p, .p, .p, .p, .p] z ?_
    obtain rfl := ai H
    exact OW.sub key (sb z)
 ·clear H
  have H := o
  clear o
  generalize (!P) = b3 at H key ⊢
  cases b3
  ·have H := ba z H
   refine aa [.fa 27 1 1 fZ] z <| o1 z (r1 1 0 z ja z) <| aa [.lenS 25 9 ek] z <| bE H fun d1 b4 H => oq z (qc z oR (fun d c => cE d b4)) tt2 <| oP z <| oP z <| ?_
   obtain rfl := ai H
   exact OW.sub key (sb z)
  ·have H := bb z H
   refine aa [.p, .p, .p, .p, .p, .p] z ?_
   obtain rfl := ai H
   exact OW.sub key (sb z)
theorem qC (w : World) {p0 : Int} {r : Bool} (H : lh p0 = U r)   :
    Calls Tryz.prog 136 #[I J p0] w (fun en w' => en = .returned (B r) ∧ Ext [] w w') := by
 unfold lh at H
 exact aG Tryz.func136 z Tryz.ntmps136 z (St.init w []) <| sR <| oP z <| nR <| oP z <| bE H fun d a H => oq z (qc z oR (fun c e => cE c a)) tt2 <| oPP z <| nT <| xr 2 z (by cases H; exact q1)
theorem hH (w : World) {p0 : List Int} {a_0 : Option Addr} {n_0 c_0 : Nat} {r : Int} (H : cF p0 = U r) (d : (af eI 3).rd w [] p0 [S a_0 n_0 c_0]) :
    Calls Tryz.prog 129 #[S a_0 n_0 c_0, .func (.func 136) #[] #[]] w (fun en w' => en = .returned (I J r) ∧ Ext [] w w') := by
 obtain rfl := ee d
 unfold cF at H
 refine aG Tryz.func129 z Tryz.ntmps129 z (St.init w []) <| sR <| oP z <| nQ <| ak <| sR <| aa [.p, .lenS 31 3 aO, .p] z <| nQ <| aB <| CW.at (fL (fun (a : Int) => St w [] []) (fun a => [(0, S a_0 p0.length c_0), (1, .func (.func 136) #[] #[]), (7, I J (p0.length : Int)), (8, I J a)]) (fun kk => fun a => bB p0 kk a = U r) (fun _ H => ?_) (fun m f a H => ?_) bh (0) (H)) (ss [] z z) (sb z)
 ·unfold bB at H
  exact absurd H (by simp)
 ·unfold bB at H
  refine sR <| oP z <| nQ <| ak <| cI H z (fun H => ?_) (fun H => ?_)
  ·refine aw <| az <| ak <| aB <| sR <| oPP z <| nR <| aa [.p, .p, .p] z <| bE H fun i c H => bq (e := eI) (xs := p0) (j := a) z z z z z aO ty3 z (ab d) c (by rw [Nat.mul_one]) <| o1 z (aF z z ty3 (bC (ab d) c)) <| bE H fun k g H => zM z z (ax z) (sH (cap := []) z BZ z z (fun h l => qC h g)) (fun _ _ => Y) <| nQ <| cI H z (fun H => ?_) (fun H => ?_)
   ·exact sR <| oPP z <| nT <| aP <| ap <| bZ <| aP <| ap <| xr 4 z (by cases H; exact q1)
   ·exact aw <| ca <| az <| aT <| oPP z <| ay <| cQ (RW.at (f (J.wrap (a + 1)) (H)) (ss [] z z) (sb z))
  ·exact bH <| aN <| aS <| aM <| az <| sR <| oP z <| nT <| xr 4 z (by cases H; exact q1)
theorem gn (w : World) {p0 : List Int} {a_0 : Option Addr} {n_0 c_0 : Nat} {r : Bool} (H : cd p0 = U r) (a : (af eI 3).rd w [] p0 [S a_0 n_0 c_0]) :
    Calls Tryz.prog 104 #[S a_0 n_0 c_0, .func (.func 136) #[] #[]] w (fun en w' => en = .returned (B r) ∧ Ext [] w w') := by
 obtain rfl := ee a
 unfold cd at H
 exact aG Tryz.func104 z Tryz.ntmps104 z (St.init w []) <| sR <| oP z <| nR <| oPP z <| bE H fun f c H => oq z (qc z yY (fun d e => hH d c (ab a d e))) tt2 <| oPP z <| nT <| xr 4 z (by cases H; exact q1)
theorem oI (w : World) {p0 : List Int} {p1 : Int} {a_0 : Option Addr} {n_0 c_0 : Nat} {r : Bool} (H : jN p0 p1 = U r) (c : (af eI 3).rd w [] p0 [S a_0 n_0 c_0]) :
    Calls Tryz.prog 118 #[S a_0 n_0 c_0, I J p1] w (fun en w' => en = .returned (B r) ∧ Ext [] w w') := by
 obtain rfl := ee c
 unfold jN at H
 refine aG Tryz.func118 z Tryz.ntmps118 z (St.init w []) <| sR <| oP z <| nR <| aa [.p, .lenS 31 3 aO, .p, .p, .p] z <| bE H fun d a H => aQ [(13, B d), (4, B n)] 4 ?_ (fun key => OW.sub (R := [(0, S a_0 p0.length c_0), (4, B n), (9, B ((p0.length : Int) == p1))]) ?_ (sb z))
 ·exact oP z <| nT <| xr 4 z (by cases H; exact q1)
 ·clear H
  have H := a
  clear a
  generalize ((p0.length : Int) == p1) = e at H key ⊢
  cases e
  ·have H := ba z H
   refine aa [.p, .p, .p, .p] z ?_
   obtain rfl := ai H
   exact OW.sub key (sb z)
  ·have H := bb z H
   refine oP z <| bE H fun i f H => oq z (qc z yn (fun g h => gn g f (ab c g h))) tt2 <| oP z <| oP z <| ?_
   obtain rfl := ai H
   exact OW.sub key (sb z)
theorem pQ (w : World) {p0 : List Int} {a_0 : Option Addr} {n_0 c_0 : Nat} {r : Int} (H : kD p0 = U r) (f : (af eI 3).rd w [] p0 [S a_0 n_0 c_0]) :
    Calls Tryz.prog 101 #[S a_0 n_0 c_0] w (fun en w' => en = .returned (I J r) ∧ Ext [] w w') := by
 obtain rfl := ee f
 unfold kD at H
 refine aG Tryz.func101 z Tryz.ntmps101 z (St.init w []) <| sR <| oP z <| nR <| oP z <| nQ <| ak <| sR <| aa [.p, .lenS 31 3 aO, .p] z <| nQ <| aB <| CW.at (ic (fun (c : Int) (a : Int) => St w [] []) (fun c a => [(3, I J c), (6, S a_0 p0.length c_0), (7, I J (p0.length : Int)), (8, I J a)]) (fun kk => fun c a => iD p0 kk c a = U r) (fun _ _ H => ?_) (fun i g c a H => ?_) bh (0) (0) (H)) (ss [] z z) (sb z)
 ·unfold iD at H
  exact absurd H (by simp)
 ·unfold iD at H
  refine sR <| oP z <| nQ <| ak <| cI H z (fun H => ?_) (fun H => ?_)
  ·exact aw <| az <| ak <| aB <| sR <| bE H fun h d H => bq (e := eI) (xs := p0) (j := a) z z z z z aO ty3 z (ab f) d (by rw [Nat.mul_one]) <| o1 z (aF z z ty3 (bC (ab f) d)) <| oP z <| nQ <| aT <| aa [.p, .p, .p, .p] z <| ay <| ca <| az <| aT <| oPP z <| ay <| cQ (RW.at (g (J.wrap (c + h)) (J.wrap (a + 1)) (H)) (ss [] z z) (sb z))
  ·exact bH <| aN <| aS <| aM <| az <| sR <| oPP z <| nT <| xr 2 z (by cases H; exact q1)
theorem oh (w : World) {p0 : bi} {a : List Value} {r : Int} (H : gg p0 = U r) (f : (cf).rd w [] p0 a) :
    Calls Tryz.prog 40 #[.agg a.toArray] w (fun en w' => en = .returned (I J r) ∧ Ext [] w w') := by
 obtain ⟨g, h, i, rfl, c, d, e⟩ := bW f
 obtain rfl := c
 obtain ⟨j, k, rfl⟩ := am d
 obtain ⟨l, m, rfl⟩ := am e
 unfold gg at H
 refine aG Tryz.func40 z Tryz.ntmps40 z (St.init w []) <| sR <| ob _ z fun o => oP z <| nQ <| ak <| sR <| aa [.fa 63 1 1 gx] z <| o1 z (r1 1 0 z cw z) <| aa [.lenS 31 3 aO, .p] z <| nQ <| cI H z (fun H => ?_) (fun H => ?_)
 ·exact sR <| aa [.fa 63 1 1 gx] z <| o1 z (r1 1 0 z cw z) <| aa [.lenS 31 3 aO, .p, .p] z <| nT <| ap <| xr 2 z (by cases H; exact q1)
 ·exact aw <| az <| sR <| aa [.fa 63 2 2 lu] z <| o1 z (r1 2 0 z ja z) <| aa [.lenS 25 9 ek, .p] z <| nT <| xr 2 z (by cases H; exact q1)
theorem tw (w : World) {d : List Nat} {p0 : Int} {r : List Int} (H : og p0 = U r) (HS : St w d [] w) :
    Calls Tryz.prog 119 #[I J p0] w (fun en w' => ∃ v, en = .returned v ∧ ∃ (f : Option Addr), ∃ (g : Nat), ∃ (c0 : Nat), ∃ (i : List Nat), v = S f g c0 ∧ St w d [W (af eI 3) i r [S f g c0]] w') := by
 unfold og at H
 exact aG Tryz.func119 z Tryz.ntmps119 z (HS) <| sR <| oP z <| nR <| oP z <| bE H fun a h H => pG (e := eI) (zero := (0 : Int)) z z z z z z aO ty3 z z z z (fun _ => ⟨z, z⟩) h (fun _ => kp) fun c => oP z <| nT <| aY (rs := [.tmp 2]) (vs := [S (U ⟨c, 0, N⟩) a.length a.length]) z ⟨z, Y⟩ (fun w' hw' => by
  obtain rfl := ai H
  exact ⟨_, z, (U ⟨c, 0, N⟩), a.length, a.length, [c], z, hw'.sel [0] z z⟩)
theorem oH (w : World) {p0 : ae} {p1 : av} {a7 : List Value} {a8 : List Value} {r : Bool} (H : ji p0 p1 = U r) (g0 : (aX).rd w [] p0 a7) (g1 : (cn).rd w [] p1 a8) :
    Calls Tryz.prog 87 #[.agg a7.toArray, .agg a8.toArray] w (fun en w' => en = .returned (B r) ∧ Ext [] w w') := by
 obtain ⟨g4, g5, rfl, A, a9⟩ := aI g0
 obtain ⟨b0, b1, rfl⟩ := am A
 obtain ⟨b2, b3, rfl⟩ := am a9
 obtain ⟨g6, g7, rfl, q, b4⟩ := aL g1
 obtain ⟨b5, b6, rfl⟩ := am q
 obtain ⟨u, v, rfl⟩ := am b4
 unfold ji at H
 refine aG Tryz.func87 z Tryz.ntmps87 z (St.init w []) <| sR <| ob _ z fun h => ob _ z fun k => oP z <| nR <| aa [.fa 27 1 1 fZ] z <| o1 z (r1 1 0 z ja z) <| aa [.lenS 25 9 ek, .p] z <| nQ <| ak <| sR <| o1 z (rx 0 0 _ z bU z) <| bE H fun b7 d8 H => oq z (qc z zC (fun c a => ka c d8 (ah (ab A c a) (ab a9 c a)))) tt2 <| oPP z <| bE H fun C D H => aQ [(23, B C), (2, O (U ⟨h, 0, N⟩)), (3, O (U ⟨k, 0, N⟩)), (5, I J (p0.k_.length : Int))] 6 ?_ (fun key => OW.sub (R := [(2, O (U ⟨h, 0, N⟩)), (3, O (U ⟨k, 0, N⟩)), (5, I J (p0.k_.length : Int)), (17, B (!b7))]) ?_ (sb z))
 ·refine oP z <| bE H fun d9 E H => aQ [(29, B d9), (2, O (U ⟨h, 0, N⟩)), (3, O (U ⟨k, 0, N⟩)), (5, I J (p0.k_.length : Int))] 5 ?_ (fun key => OW.sub (R := [(2, O (U ⟨h, 0, N⟩)), (3, O (U ⟨k, 0, N⟩)), (5, I J (p0.k_.length : Int)), (24, B C)]) ?_ (sb z))
  ·refine nQ <| cI H z (fun H => ?_) (fun H => ?_)
   ·exact sR <| oP z <| nT <| ap <| xr 4 z (by cases H; exact q1)
   ·refine aw <| az <| ak <| sR <| aa [.fa 69 1 1 dL] z <| o1 z (r1 1 1 z jm z) <| aa [.lenS 67 31 gL, .p] z <| nQ <| cI H z (fun H => ?_) (fun H => ?_)
    ·exact sR <| oP z <| nT <| ap <| xr 4 z (by cases H; exact q1)
    ·refine aw <| az <| ak <| sR <| aa [.fa 69 1 1 dL] z <| o1 z (r1 1 1 z jm z) <| aa [.lenS 67 31 gL, .fa 27 0 0 dq] z <| o1 z (r1 0 0 z iH z) <| aa [.lenS 24 63 iw, .p] z <| nQ <| cI H z (fun H => ?_) (fun H => ?_)
     ·exact sR <| oP z <| nT <| ap <| xr 4 z (by cases H; exact q1)
     ·refine aw <| az <| ak <| sR <| aa [.fa 69 1 1 dL] z <| o1 z (r1 1 1 z jm z) <| aa [.lenS 67 31 gL, .p] z <| nQ <| aB <| CW.at (fL (fun (f : Int) => St w [] [b h 27 [S b0 p0.b_.length b1, S b2 p0.k_.length b3], b k 69 [S b5 p1.e_.length b6, S u p1.d_.length v]]) (fun f => [(2, O (U ⟨h, 0, N⟩)), (3, O (U ⟨k, 0, N⟩)), (5, I J (p0.k_.length : Int)), (42, S u p1.d_.length v), (43, I J (p1.d_.length : Int)), (44, I J f)]) (fun kk => fun f => dc p1 p0 kk f = U r) (fun _ H => ?_) (fun k1 b8 f H => ?_) bh (0) (H)) (ss [0, 1] z z) (sb z)
      ·unfold dc at H
       exact absurd H (by simp)
      ·unfold dc at H
       refine sR <| oP z <| nQ <| ak <| cI H z (fun H => ?_) (fun H => ?_)
       ·refine aw <| az <| ak <| aB <| sR <| oP z <| bE H fun o b9 H => cB z z z z z gL cw z b4 b9 fun e7 e9 l a3 => ?_
        obtain ⟨c0, c1, rfl⟩ := am l
        refine o1 z (aF z z cw (co bor a3)) <| oPP z <| nQ <| ak <| sR <| aa [.p, .fa 27 0 0 dq] z <| o1 z (r1 0 0 z iH z) <| oP z <| bE H fun s c2 H => cB z z z z z iw dI z A c2 fun f0 f1 a4 a5 => ?_
        obtain ⟨f2, f3, f4, rfl, c3, F, G⟩ := bW a4
        obtain rfl := c3
        obtain ⟨c4, c5, rfl⟩ := am F
        obtain ⟨c6, c7, rfl⟩ := am G
        refine o1 z (cV (cs := [vS s.x_, S c4 s.t_.length c5, S c6 s.y_.length c7]) z z dI (co bor a5) z) <| bE H fun f5 c8 H => oq z (qc z BT (fun c a => oh c c8 (dd z (ab F c a) (ab G c a)))) tt2 <| oPP z <| bE H fun f6 c9 H => oq z (qc z AZ (fun c a => oI c c9 (ab l c a))) tt2 <| oP z <| nQ <| cI H z (fun H => ?_) (fun H => ?_)
        ·exact sR <| oP z <| nT <| ap <| aP <| ap <| bZ <| aP <| ap <| xr 4 z (by cases H; exact q1)
        ·refine aw <| az <| sR <| oP z <| bE H fun t d0 H => aq z CC z z z z (fun c a => tw c d0 (a.carve [] z z)) fun f7 c w2 a a6 => ?_
         obtain ⟨L, f8, M, d1, rfl, x⟩ := a6
         obtain rfl := aH (i := 0) x z
         refine ⟨St w [] [_, _, _], a.comp [] z z x, fun _ _ => Y, ?_⟩
         refine oP z <| nR <| aa [.p, .lenS 31 3 aO, .p] z <| nQ <| aB <| CW.at (ic (fun (g : Int) (d : List Int) => St w [] [b h 27 [S b0 p0.b_.length b1, S b2 p0.k_.length b3], b k 69 [S b5 p1.e_.length b6, S u p1.d_.length v], W (af eI 3) d1 d [S L t.length M]]) (fun g d => [(2, O (U ⟨h, 0, N⟩)), (3, O (U ⟨k, 0, N⟩)), (5, I J (p0.k_.length : Int)), (8, S L t.length M), (42, S u p1.d_.length v), (43, I J (p1.d_.length : Int)), (44, I J f), (62, S c0 o.length c1), (63, I J (o.length : Int)), (64, I J g)]) (fun kk => fun g d => dm o p0 p1 (dc p1 p0 k1) f kk g d = U r) (fun _ _ H => ?_) (fun k2 d2 g d H => ?_) bh (0) (t) (H)) (ss [0, 1, 2] z z) (sb z)
         ·unfold dm at H
          exact absurd H (by simp)
         ·unfold dm at H
          refine sR <| oP z <| nQ <| ak <| cI H z (fun H => ?_) (fun H => ?_)
          ·refine aw <| az <| ak <| aB <| sR <| oP z <| bE H fun P Q H => bq (e := eI) (xs := o) (j := g) z z z z z aO ty3 z (ab l) Q (by rw [Nat.mul_one]) <| o1 z (aF z z ty3 (bC (ab l) Q)) <| oPP z <| nR <| aa [.p, .p, .p] z <| bE H fun m d3 H => o1 z (pA z z z d3) <| bE H fun X Z H => bq (e := eI) (xs := d) (j := m) z z z z z aO ty3 z (au (e := af eI 3) (r := 2) z) Z (by rw [Nat.mul_one]) <| o1 z (aF z z ty3 (bC (au (e := af eI 3) (r := 2) z) Z)) <| oPP z <| bE H fun f9 a0 H => bq (e := eI) (xs := d) (j := m) z z z z z aO ty3 z (au (e := af eI 3) (r := 2) z) a0 (by rw [Nat.mul_one]) <| jK (i := 2) (j := m) z z z z z z ty3 z a0 (fun _ => z) kp <| nQ <| ak <| dJ bT (by kernel_rfl) <| aa [.p, .p, .p] z <| bE H fun d4 d5 H => o1 z (pA z z z d5) <| bE H fun g2 a1 H => bq (e := eI) (xs := (d.set m.toNat (J.wrap (X + P)))) (j := d4) z z z z z aO ty3 z (au (e := af eI 3) (r := 2) z) a1 (by rw [Nat.mul_one]) <| o1 z (aF z z ty3 (bC (au (e := af eI 3) (r := 2) z) a1)) <| aa [.fa 69 0 0 hG] z <| o1 z (r1 0 1 z cw z) <| oPP z <| bE H fun d6 d7 H => o1 z (pA z z z d7) <| ?_
           refine bE H fun g3 a2 H => bq (e := eI) (xs := p1.e_) (j := d6) z z z z z aO ty3 z (ab q) a2 (by rw [Nat.mul_one]) <| o1 z (aF z z ty3 (bC (ab q) a2)) <| oP z <| cx <| az <| cI H z (fun H => ?_) (fun H => ?_)
           ·exact sR <| oP z <| nT <| aP <| ap <| bZ <| aP <| aP <| ap <| bZ <| aP <| ap <| xr 4 z (by cases H; exact q1)
           ·exact aw <| ca <| az <| aT <| oPP z <| ay <| cQ (RW.at (d2 (J.wrap (g + 1)) ((d.set m.toNat (J.wrap (X + P)))) (H)) (ss [0, 1, 2] z z) (sb z))
          ·exact bH <| aN <| aS <| aM <| ca <| az <| aT <| oPP z <| ay <| cQ (RW.at (b8 (J.wrap (f + 1)) (H)) (ss [0, 1] z z) (sb z))
       ·exact bH <| aN <| aS <| aM <| az <| sR <| oP z <| nT <| xr 4 z (by cases H; exact q1)
  ·clear H
   have H := E
   clear E
   generalize C = e0 at H key ⊢
   cases e0
   ·have H := ba z H
    refine aa [.fa 69 0 0 hG] z <| o1 z (r1 0 1 z cw z) <| bE H fun g8 e1 H => oq z (qc z AH (fun c a => pQ c e1 (ab q c a))) tt2 <| oP z <| oP z <| ?_
    obtain rfl := ai H
    exact OW.sub key (sb z)
   ·have H := bb z H
    refine aa [.p, .p, .p, .p, .p] z ?_
    obtain rfl := ai H
    exact OW.sub key (sb z)
 ·clear H
  have H := D
  clear D
  generalize (!b7) = e2 at H key ⊢
  cases e2
  ·have H := ba z H
   refine aa [.fa 69 0 0 hG] z <| o1 z (r1 0 1 z cw z) <| oP z <| bE H fun g9 e3 H => oq z (qc z AZ (fun c a => oI c e3 (ab q c a))) tt2 <| oP z <| oP z <| ?_
   obtain rfl := ai H
   exact OW.sub key (sb z)
  ·have H := bb z H
   refine aa [.p, .p, .p, .p, .p, .p] z ?_
   obtain rfl := ai H
   exact OW.sub key (sb z)
theorem rY (w : World) {p0 : ae} {p1 : List Int} {o : List Value} {a_1 : Option Addr} {n_1 c_1 : Nat} {r : Bool} (H : lf p0 p1 = U r) (G : (aX).rd w [] p0 o) (f : (af eI 3).rd w [] p1 [S a_1 n_1 c_1]) :
    Calls Tryz.prog 100 #[.agg o.toArray, S a_1 n_1 c_1] w (fun en w' => en = .returned (B r) ∧ Ext [] w w') := by
 obtain ⟨L, M, rfl, q, s⟩ := aI G
 obtain ⟨P, Q, rfl⟩ := am q
 obtain ⟨X, Z, rfl⟩ := am s
 obtain rfl := ee f
 unfold lf at H
 refine aG Tryz.func100 z Tryz.ntmps100 z (St.init w []) <| sR <| ob _ z fun a => oP z <| nQ <| ak <| dJ bT (by kernel_rfl) <| o1 z (rx 0 0 _ z bU z) <| bE H fun c v H => oq z (qc z zC (fun g d => ka g v (ah (ab q g d) (ab s g d)))) tt2 <| oP z <| aQ [(11, B (c && (decide ((p1.length : Int) > 0)))), (1, S a_1 p1.length c_1), (2, O (U ⟨a, 0, N⟩)), (4, B n)] 4 ?_ (fun key => OW.sub (R := [(1, S a_1 p1.length c_1), (2, O (U ⟨a, 0, N⟩)), (4, B n), (7, B c)]) ?_ (sb z))
 ·refine oP z <| bE H fun h i H => aQ [(15, B h), (1, S a_1 p1.length c_1), (2, O (U ⟨a, 0, N⟩)), (4, B n)] 3 ?_ (fun key => OW.sub (R := [(1, S a_1 p1.length c_1), (2, O (U ⟨a, 0, N⟩)), (4, B n), (12, B (c && (decide ((p1.length : Int) > 0))))]) ?_ (sb z))
  ·refine oP z <| bE H fun k l H => aQ [(21, B k), (1, S a_1 p1.length c_1), (2, O (U ⟨a, 0, N⟩)), (4, B n)] 5 ?_ (fun key => OW.sub (R := [(1, S a_1 p1.length c_1), (2, O (U ⟨a, 0, N⟩)), (4, B n), (16, B h)]) ?_ (sb z))
   ·refine oP z <| bE H fun x m H => aQ [(33, B x), (4, B n)] 11 ?_ (fun key => OW.sub (R := [(1, S a_1 p1.length c_1), (2, O (U ⟨a, 0, N⟩)), (4, B n), (22, B k)]) ?_ (sb z))
    ·exact oP z <| cx <| az <| pT <| xr 4 z (by cases H; exact q1)
    ·clear H
     have H := m
     clear m
     generalize k = A at H key ⊢
     cases A
     ·have H := ba z H
      refine aa [.p, .p, .p, .p, .p, .p, .p, .p, .p, .p, .p] z ?_
      obtain rfl := ai H
      exact OW.sub key (sb z)
     ·have H := bb z H
      refine aa [.p, .p, .lenS 31 3 aO, .p] z <| bE H fun a0 t H => bq (e := eI) (xs := p1) (j := J.wrap ((p1.length : Int) - 1)) z z z z z aO ty3 z (ab f) t (by rw [Nat.mul_one]) <| o1 z (aF z z ty3 (bC (ab f) t)) <| aa [.fa 27 0 0 dq] z <| o1 z (r1 0 0 z iH z) <| aa [.lenS 24 63 iw, .p] z <| oP z <| ?_
      obtain rfl := ai H
      exact OW.sub key (sb z)
   ·clear H
    have H := l
    clear l
    generalize h = C at H key ⊢
    cases C
    ·have H := ba z H
     refine aa [.p, .p, .p, .p, .p] z ?_
     obtain rfl := ai H
     exact OW.sub key (sb z)
    ·have H := bb z H
     refine oP z <| bE H fun a1 u H => bq (e := eI) (xs := p1) (j := 0) z z z z z aO ty3 z (ab f) u (by rw [Nat.mul_one]) <| o1 z (aF z z ty3 (bC (ab f) u)) <| oP z <| oP z <| ?_
     obtain rfl := ai H
     exact OW.sub key (sb z)
  ·clear H
   have H := i
   clear i
   generalize (c && (decide ((p1.length : Int) > 0))) = D at H key ⊢
   cases D
   ·have H := ba z H
    refine aa [.p, .p, .p] z ?_
    obtain rfl := ai H
    exact OW.sub key (sb z)
   ·have H := bb z H
    refine oP z <| bE H fun a2 E H => oq z (qc z zj (fun g d => li g E (ab f g d))) tt2 <| oP z <| ?_
    obtain rfl := ai H
    exact OW.sub key (sb z)
 ·generalize c = F at key ⊢
  cases F
  ·exact aa [.p, .p, .p, .p] z <| OW.sub key (sb z)
  ·exact aa [.p, .lenS 31 3 aO, .p] z <| oP z <| OW.sub key (sb z)
theorem mF (w : World) {p0 : ae} {p1 : ar} {g : List Value} {r : Bool} (H : jb p0 p1 = U r) (P : (aX).rd w [] p0 g) :
    Calls Tryz.prog 91 #[.agg g.toArray, .agg #[I J p1.g_, I J p1.c_]] w (fun en w' => en = .returned (B r) ∧ Ext [] w w') := by
 obtain ⟨Q, X, rfl, e, h⟩ := aI P
 obtain ⟨Z, a0, rfl⟩ := am e
 obtain ⟨a1, a2, rfl⟩ := am h
 unfold jb at H
 refine aG Tryz.func91 z Tryz.ntmps91 z (St.init w []) <| sR <| ob _ z fun i => ob _ z fun j => oP z <| nQ <| ak <| sR <| o1 z (rx 0 0 _ z bU z) <| bE H fun k x H => oq z (qc z zC (fun a c => ka a x (ah (ab e a c) (ab h a c)))) tt2 <| oPP z <| bE H fun A f H => aQ [(19, B A), (2, O (U ⟨i, 0, N⟩)), (3, O (U ⟨j, 0, N⟩))] 9 ?_ (fun key => OW.sub (R := [(2, O (U ⟨i, 0, N⟩)), (3, O (U ⟨j, 0, N⟩)), (10, B (!k))]) ?_ (sb z))
 ·refine nQ <| cI H z (fun H => ?_) (fun H => ?_)
  ·exact sR <| oP z <| nT <| ap <| xr 4 z (by cases H; exact q1)
  ·refine aw <| az <| sR <| aa [.fa 27 0 0 dq] z <| o1 z (r1 0 0 z iH z) <| aa [.fa 66 0 0 kf] z <| o1 z (r1 0 1 z ty3 z) <| bE H fun d C H => cB z z z z z iw dI z e C fun a3 a4 u v => ?_
   obtain ⟨a5, a6, a7, rfl, D, l, m⟩ := bW u
   obtain rfl := D
   obtain ⟨o, q, rfl⟩ := am l
   obtain ⟨s, t, rfl⟩ := am m
   refine o1 z (cV (cs := [vS d.x_, S o d.t_.length q, S s d.y_.length t]) z z dI (co bor v) z) <| aC z z z z dI (fun _ => kp) fun a8 => sC 0 [vS d.x_, S o d.t_.length q, S s d.y_.length t] [_, _, _] 2 z dI z <| nR <| o1 z (rx 0 2 _ z dI z) <| bE H fun a9 E H => oq z (qc z BT (fun a c => oh a E (dd z (ab l a c) (ab m a c)))) tt2 <| oPP z <| nQ <| ak <| sR <| aa [.fa 63 1 1 gx] z <| o1 z (r1 1 2 z cw z) <| aa [.lenS 31 3 aO, .p] z <| nQ <| cI H z (fun H => ?_) (fun H => ?_)
   ·exact aT <| aa [.p, .p, .p] z <| nR <| aa [.fa 66 1 1 ly] z <| o1 z (r1 1 1 z ty3 z) <| oP z <| bE H fun b0 F H => oq z (qc z oR (fun a c => cE a F)) tt2 <| oP z <| nT <| xr 4 z (by cases H; exact q1)
   ·exact aw <| az <| sR <| aa [.fa 66 1 1 ly] z <| o1 z (r1 1 1 z ty3 z) <| oP z <| bE H fun b1 G H => oq z (qc z oR (fun a c => cE a G)) tt2 <| oP z <| nT <| xr 4 z (by cases H; exact q1)
 ·clear H
  have H := f
  clear f
  generalize (!k) = L at H key ⊢
  cases L
  ·have H := ba z H
   refine aa [.fa 66 0 0 kf] z <| o1 z (r1 0 1 z ty3 z) <| aa [.fa 27 0 0 dq] z <| o1 z (r1 0 0 z iH z) <| aa [.lenS 24 63 iw, .p] z <| bE H fun b2 M H => oq z (qc z oR (fun a c => cE a M)) tt2 <| oP z <| oP z <| ?_
   obtain rfl := ai H
   exact OW.sub key (sb z)
  ·have H := bb z H
   refine aa [.p, .p, .p, .p, .p, .p, .p, .p, .p] z ?_
   obtain rfl := ai H
   exact OW.sub key (sb z)
theorem rb (w : World) {p0 : ae} {p1 : ar} {f : List Value} {r : Int} (H : iG p0 p1 = U r) (v : (aX).rd w [] p0 f) :
    Calls Tryz.prog 102 #[.agg f.toArray, .agg #[I J p1.g_, I J p1.c_]] w (fun en w' => en = .returned (I J r) ∧ Ext [] w w') := by
 obtain ⟨x, A, rfl, d, g⟩ := aI v
 obtain ⟨C, D, rfl⟩ := am d
 obtain ⟨E, F, rfl⟩ := am g
 unfold iG at H
 refine aG Tryz.func102 z Tryz.ntmps102 z (St.init w []) <| sR <| ob _ z fun G => ob _ z fun L => oP z <| nQ <| ak <| aB <| sR <| o1 z (rx 0 0 _ z bU z) <| o1 z (rx 0 1 _ z cH z) <| bE H fun M l H => oq z (qc z Bq (fun c a => mF c (p1 := p1) l (ah (ab d c a) (ab g c a)))) tt2 <| oPP z <| nQ <| cI H z (fun H => ?_) (fun H => ?_)
 ·exact sR <| oP z <| nT <| aP <| ap <| xr 4 z (by cases H; exact q1)
 ·refine sR <| aa [.fa 66 1 1 ly] z <| o1 z (r1 1 1 z ty3 z) <| oPP z <| nQ <| cI H z (fun H => ?_) (fun H => ?_)
  ·refine sR <| aa [.fa 27 0 0 dq] z <| o1 z (r1 0 0 z iH z) <| aa [.fa 66 0 0 kf] z <| o1 z (r1 0 1 z ty3 z) <| bE H fun e m H => cB z z z z z iw dI z d m fun P Q j k => ?_
   obtain ⟨R, X, Z, rfl, o, h, i⟩ := bW j
   obtain rfl := o
   obtain ⟨p, q, rfl⟩ := am h
   obtain ⟨s, t, rfl⟩ := am i
   exact o1 z (cV (cs := [vS e.x_, S p e.t_.length q, S s e.y_.length t]) z z dI (co bor k) z) <| bE H fun a0 u H => oq z (qc z BT (fun c a => oh c u (dd z (ab h c a) (ab i c a)))) tt2 <| oP z <| nT <| aP <| ap <| xr 4 z (by cases H; exact q1)
  ·exact aw <| ca <| az <| sR <| oP z <| nT <| xr 4 z (by cases H; exact q1)
theorem qY (w : World) {p0 : Int} {p1 : Int} {p2 : aj} {q_1 : Addr} {cs_1 : List Value} {q_2 : Addr} {cs_2 : List Value} {r : Bool} (H : ki p0 p1 p2 = U r) (g_1 : eI.rd w [] p1 cs_1) (hA_1 : At w [] q_1 cs_1) (g_2 : (cU).rd w [] p2 cs_2) (hA_2 : At w [] q_2 cs_2) :
    Calls Tryz.prog 105 #[I J p0, O (U q_1), O (U q_2)] w (fun en w' => en = .returned (B r) ∧ Ext [] w w') := by
 obtain rfl := g_1
 obtain ⟨F, G, rfl, c, g⟩ := cr g_2
 obtain ⟨L, M, rfl⟩ := am c
 obtain rfl := g
 unfold ki at H
 refine aG Tryz.func105 z Tryz.ntmps105 z (St.init w []) <| sR <| oP z <| nQ <| ak <| dJ bT (by kernel_rfl) <| oP z <| o1 z (aF z z ty3 (co bor hA_1)) <| aa [.p, .fa 30 0 0 cb] z <| o1 z (aF z z ef (co bor (lk hA_2 0 1))) <| aa [.lenS 28 71 dZ, .p] z <| bE H fun d h H => oq z (qc z oR (fun E P => cE E h)) tt2 <| oPP z <| bE H fun i a H => aQ [(23, B i), (4, B n)] 9 ?_ (fun key => OW.sub (R := [(0, I J p0), (1, O (U q_1)), (2, O (U q_2)), (4, B n), (14, B (!d))]) ?_ (sb z))
 ·exact oP z <| cx <| az <| pT <| xr 4 z (by cases H; exact q1)
 ·clear H
  have H := a
  clear a
  generalize (!d) = j at H key ⊢
  cases j
  ·have H := ba z H
   refine aa [.fa 30 0 0 cb] z <| o1 z (aF z z ef (co bor (lk hA_2 0 1))) <| oP z <| bE H fun Q k H => cB z z z z z dZ cc z c k fun X Z e f => ?_
   obtain ⟨a0, a1, a2, a3, a4, a5, a6, a7, a8, a9, rfl, l, m, o, q, s, t, u, v, x, A⟩ := bn e
   obtain rfl := l
   obtain rfl := m
   obtain ⟨b0, b1, rfl⟩ := am o
   obtain rfl := q
   obtain ⟨b2, b3, rfl, C, D⟩ := aL s
   obtain ⟨b4, b5, rfl⟩ := am C
   obtain ⟨b6, b7, rfl⟩ := am D
   obtain rfl := t
   obtain ⟨b8, b9, rfl⟩ := am u
   obtain rfl := v
   obtain rfl := x
   obtain rfl := A
   refine aa [.fa 71 8 10 nA] z <| o1 z (aF z z ty3 (co bor (lk f 10 1))) <| o1 z (aF z z ty3 (co bor hA_1)) <| oP z <| oP z <| ?_
   obtain rfl := ai H
   exact OW.sub key (sb z)
  ·have H := bb z H
   refine aa [.p, .p, .p, .p, .p, .p, .p, .p, .p] z ?_
   obtain rfl := ai H
   exact OW.sub key (sb z)
theorem ia (w : World) {p0 : List Int} {p1_0 : Int} {p1_1 : aj} {a_0 : Option Addr} {n_0 c_0 : Nat} {q_1_0 : Addr} {cs_1_0 : List Value} {q_1_1 : Addr} {cs_1_1 : List Value} {r : Int} (H : cM p0 p1_0 p1_1 = U r) (h : (af eI 3).rd w [] p0 [S a_0 n_0 c_0]) (g_1_0 : eI.rd w [] p1_0 cs_1_0) (hA_1_0 : At w [] q_1_0 cs_1_0) (g_1_1 : (cU).rd w [] p1_1 cs_1_1) (hA_1_1 : At w [] q_1_1 cs_1_1) :
    Calls Tryz.prog 129 #[S a_0 n_0 c_0, .func (.func 105) #[] #[O (U q_1_0), O (U q_1_1)]] w (fun en w' => en = .returned (I J r) ∧ Ext [] w w') := by
 obtain rfl := ee h
 obtain rfl := g_1_0
 obtain ⟨q, s, rfl, f, k⟩ := cr g_1_1
 obtain ⟨l, m, rfl⟩ := am f
 obtain rfl := k
 unfold cM at H
 refine aG Tryz.func129 z Tryz.ntmps129 z (St.init w []) <| sR <| oP z <| nQ <| ak <| sR <| aa [.p, .lenS 31 3 aO, .p] z <| nQ <| aB <| CW.at (fL (fun (a : Int) => St w [] []) (fun a => [(0, S a_0 p0.length c_0), (1, .func (.func 105) #[] #[O (U q_1_0), O (U q_1_1)]), (7, I J (p0.length : Int)), (8, I J a)]) (fun kk => fun a => bD p0 p1_0 p1_1 kk a = U r) (fun _ H => ?_) (fun v i a H => ?_) bh (0) (H)) (ss [] z z) (sb z)
 ·unfold bD at H
  exact absurd H (by simp)
 ·unfold bD at H
  refine sR <| oP z <| nQ <| ak <| cI H z (fun H => ?_) (fun H => ?_)
  ·refine aw <| az <| ak <| aB <| sR <| oPP z <| nR <| aa [.p, .p, .p] z <| bE H fun t g H => bq (e := eI) (xs := p0) (j := a) z z z z z aO ty3 z (ab h) g (by rw [Nat.mul_one]) <| o1 z (aF z z ty3 (bC (ab h) g)) <| bE H fun u o H => zM z z (ax z) (sH (cap := [O (U q_1_0), O (U q_1_1)]) z CH z z (fun d c => qY d (cs_1 := [I J p1_0]) (cs_2 := [S l p1_1.a_.length m, I J p1_1.j_]) o z (co bor hA_1_0 d c) (aU (ab f d c) z) (co bor hA_1_1 d c))) (fun _ _ => Y) <| nQ <| cI H z (fun H => ?_) (fun H => ?_)
   ·exact sR <| oPP z <| nT <| aP <| ap <| bZ <| aP <| ap <| xr 4 z (by cases H; exact q1)
   ·exact aw <| ca <| az <| aT <| oPP z <| ay <| cQ (RW.at (i (J.wrap (a + 1)) (H)) (ss [] z z) (sb z))
  ·exact bH <| aN <| aS <| aM <| az <| sR <| oP z <| nT <| xr 4 z (by cases H; exact q1)
theorem gq (w : World) {p0 : List Int} {p1_0 : Int} {p1_1 : aj} {a_0 : Option Addr} {n_0 c_0 : Nat} {q_1_0 : Addr} {cs_1_0 : List Value} {q_1_1 : Addr} {cs_1_1 : List Value} {r : Bool} (H : ce p0 p1_0 p1_1 = U r) (e : (af eI 3).rd w [] p0 [S a_0 n_0 c_0]) (g_1_0 : eI.rd w [] p1_0 cs_1_0) (hA_1_0 : At w [] q_1_0 cs_1_0) (g_1_1 : (cU).rd w [] p1_1 cs_1_1) (hA_1_1 : At w [] q_1_1 cs_1_1) :
    Calls Tryz.prog 104 #[S a_0 n_0 c_0, .func (.func 105) #[] #[O (U q_1_0), O (U q_1_1)]] w (fun en w' => en = .returned (B r) ∧ Ext [] w w') := by
 obtain rfl := ee e
 obtain rfl := g_1_0
 obtain ⟨j, k, rfl, d, f⟩ := cr g_1_1
 obtain ⟨g, h, rfl⟩ := am d
 obtain rfl := f
 unfold ce at H
 exact aG Tryz.func104 z Tryz.ntmps104 z (St.init w []) <| sR <| oP z <| nR <| oPP z <| bE H fun l i H => oq z (qc z yY (fun c a => ia c (cs_1_0 := [I J p1_0]) (cs_1_1 := [S g p1_1.a_.length h, I J p1_1.j_]) i (ab e c a) z (co bor hA_1_0 c a) (aU (ab d c a) z) (co bor hA_1_1 c a))) tt2 <| oPP z <| nT <| xr 4 z (by cases H; exact q1)
theorem tf (w : World) {p0 : ae} {p1 : aj} {p2 : Int} {a2 : List Value} {a3 : List Value} {r : Bool} (H : lT p0 p1 p2 = U r) (g0 : (aX).rd w [] p0 a2) (g1 : (cU).rd w [] p1 a3) :
    Calls Tryz.prog 63 #[.agg a2.toArray, .agg a3.toArray, I J p2] w (fun en w' => en = .returned (B r) ∧ Ext [] w w') := by
 obtain ⟨f2, f3, rfl, m, o⟩ := aI g0
 obtain ⟨f4, f5, rfl⟩ := am m
 obtain ⟨f6, f7, rfl⟩ := am o
 obtain ⟨f8, f9, rfl, t, b6⟩ := cr g1
 obtain ⟨b7, b8, rfl⟩ := am t
 obtain rfl := b6
 unfold lT at H
 refine aG Tryz.func63 z Tryz.ntmps63 z (St.init w []) <| sR <| ob _ z fun l => ob _ z fun f => ob _ z fun g => oP z <| nR <| aa [.fa 30 0 0 cb] z <| o1 z (r1 0 1 z ef z) <| o1 z (r1 0 2 z ty3 z) <| bE H fun a b9 H => cB z z z z z dZ cc z t b9 fun g2 g3 a7 a8 => ?_
 obtain ⟨g4, g5, g6, g7, g8, g9, h0, h1, h2, h3, rfl, c0, c1, u, c2, c3, c4, a4, c5, c6, c7⟩ := bn a7
 obtain rfl := c0
 obtain rfl := c1
 obtain ⟨v, x, rfl⟩ := am u
 obtain rfl := c2
 obtain ⟨h4, h5, rfl, A, a5⟩ := aL c3
 obtain ⟨C, D, rfl⟩ := am A
 obtain ⟨E, F, rfl⟩ := am a5
 obtain rfl := c4
 obtain ⟨G, L, rfl⟩ := am a4
 obtain rfl := c5
 obtain rfl := c6
 obtain rfl := c7
 refine o1 z (cV (cs := [B a.s_, I J a.l_.g_, I J a.l_.c_, S v a.r_.length x, I J a.w_, S C a.n_.e_.length D, S E a.n_.d_.length F, I J a.v_, S G a.b_.length L, I J a.m_, I J a.o_, I J a.p_]) z z cc (co bor a8) z) <| aC z z z z cc (fun _ => kp) fun d => sC 0 [B a.s_, I J a.l_.g_, I J a.l_.c_, S v a.r_.length x, I J a.w_, S C a.n_.e_.length D, S E a.n_.d_.length F, I J a.v_, S G a.b_.length L, I J a.m_, I J a.o_, I J a.p_] [_, _, _, _, _, _, _, _, _, _, _, _] 3 z cc z <| nQ <| ak <| sR <| aa [.fa 71 7 9 ke] z <| o1 z (r1 9 3 z ty3 z) <| bE H fun a6 c8 H => oq z (qc z oR (fun e c => cE e c8)) tt2 <| oPP z <| bE H fun M P H => aQ [(26, B M), (3, O (U ⟨l, 0, N⟩)), (4, O (U ⟨f, 0, N⟩)), (5, O (U ⟨g, 0, N⟩)), (7, O (U ⟨d, 0, N⟩))] 7 ?_ (fun key => OW.sub (R := [(3, O (U ⟨l, 0, N⟩)), (4, O (U ⟨f, 0, N⟩)), (5, O (U ⟨g, 0, N⟩)), (7, O (U ⟨d, 0, N⟩)), (19, B (!a6))]) ?_ (sb z))
 ·refine oP z <| bE H fun Q X H => aQ [(33, B Q), (3, O (U ⟨l, 0, N⟩)), (4, O (U ⟨f, 0, N⟩)), (5, O (U ⟨g, 0, N⟩)), (7, O (U ⟨d, 0, N⟩))] 6 ?_ (fun key => OW.sub (R := [(3, O (U ⟨l, 0, N⟩)), (4, O (U ⟨f, 0, N⟩)), (5, O (U ⟨g, 0, N⟩)), (7, O (U ⟨d, 0, N⟩)), (27, B M)]) ?_ (sb z))
  ·refine oP z <| bE H fun c9 Z H => aQ [(40, B c9), (3, O (U ⟨l, 0, N⟩)), (4, O (U ⟨f, 0, N⟩)), (5, O (U ⟨g, 0, N⟩)), (7, O (U ⟨d, 0, N⟩))] 6 ?_ (fun key => OW.sub (R := [(3, O (U ⟨l, 0, N⟩)), (4, O (U ⟨f, 0, N⟩)), (5, O (U ⟨g, 0, N⟩)), (7, O (U ⟨d, 0, N⟩)), (34, B Q)]) ?_ (sb z))
   ·refine nQ <| cI H z (fun H => ?_) (fun H => ?_)
    ·exact sR <| oP z <| nT <| ap <| xr 6 z (by cases H; exact q1)
    ·refine aw <| az <| ak <| sR <| aa [.fa 71 0 0 ls] z <| o1 z (r1 0 3 z ty4 z) <| nQ <| cI H z (fun H => ?_) (fun H => ?_)
     ·refine sR <| aa [.fa 71 4 5 eR, .fa 69 0 0 hG] z <| o1 z (r1 5 3 z cw z) <| bE H fun d0 d1 H => oq z (qc z AH (fun e c => pQ e d1 (ab A e c))) tt2 <| oP z <| nQ <| wD (fun (j : Int) => St w [] [b d 71 [B a.s_, I J a.l_.g_, I J a.l_.c_, S v a.r_.length x, I J a.w_, S C a.n_.e_.length D, S E a.n_.d_.length F, I J a.v_, S G a.b_.length L, I J a.m_, I J a.o_, I J a.p_]]) (fun j => [(7, O (U ⟨d, 0, N⟩)), (8, I J j)]) (fun j => iW a j = U r) (fun j H => ?_) (fun J1 => ?_)
      ·unfold iW at H
       refine sR <| aa [.fa 71 1 1 mL] z <| o1 z (rx 1 0 _ z cH z) <| o1 z (bI [] [I J 0, I J 0] z z cH un z Y z) <| o1 z (zB (xs := [I J a.l_.g_, I J a.l_.c_]) (ys := [I J 0, I J 0]) z z z (Cd a.l_.g_ 0 a.l_.c_ 0)) <| oP z <| aQ [(61, B ((a.l_.g_ == 0 && (a.l_.c_ == 0 && y)) && ((a.r_.length : Int) == 0))), (7, O (U ⟨d, 0, N⟩)), (8, I J j)] 5 ?_ (fun key => OW.sub (R := [(7, O (U ⟨d, 0, N⟩)), (8, I J j), (56, B (a.l_.g_ == 0 && (a.l_.c_ == 0 && y)))]) ?_ (sb z))
       ·refine oP z <| aQ [(66, B (((a.l_.g_ == 0 && (a.l_.c_ == 0 && y)) && ((a.r_.length : Int) == 0)) && (a.w_ == 0))), (7, O (U ⟨d, 0, N⟩)), (8, I J j)] 4 ?_ (fun key => OW.sub (R := [(7, O (U ⟨d, 0, N⟩)), (8, I J j), (62, B ((a.l_.g_ == 0 && (a.l_.c_ == 0 && y)) && ((a.r_.length : Int) == 0)))]) ?_ (sb z))
        ·refine oP z <| bE H fun d3 a0 H => aQ [(72, B d3)] 5 ?_ (fun key => OW.sub (R := [(7, O (U ⟨d, 0, N⟩)), (8, I J j), (67, B (((a.l_.g_ == 0 && (a.l_.c_ == 0 && y)) && ((a.r_.length : Int) == 0)) && (a.w_ == 0)))]) ?_ (sb z))
         ·exact oP z <| nT <| ap <| xr 6 z (by cases H; exact q1)
         ·clear H
          have H := a0
          clear a0
          generalize (((a.l_.g_ == 0 && (a.l_.c_ == 0 && y)) && ((a.r_.length : Int) == 0)) && (a.w_ == 0)) = d4 at H key ⊢
          cases d4
          ·have H := ba z H
           refine aa [.p, .p, .p, .p, .p] z ?_
           obtain rfl := ai H
           exact OW.sub key ⟨z, Y⟩
          ·have H := bb z H
           refine aa [.fa 71 5 7 mh] z <| o1 z (r1 7 0 z ty3 z) <| oP z <| bE H fun h6 d5 H => oq z (qc z oR (fun e c => cE e d5)) tt2 <| oP z <| ?_
           obtain rfl := ai H
           exact OW.sub key ⟨z, Y⟩
        ·generalize ((a.l_.g_ == 0 && (a.l_.c_ == 0 && y)) && ((a.r_.length : Int) == 0)) = d6 at key ⊢
         cases d6
         ·exact aa [.p, .p, .p, .p] z <| OW.sub key (sb z)
         ·exact aa [.fa 71 3 4 qn] z <| o1 z (r1 4 0 z ty3 z) <| oP z <| oP z <| OW.sub key (sb z)
       ·generalize (a.l_.g_ == 0 && (a.l_.c_ == 0 && y)) = d7 at key ⊢
        cases d7
        ·exact aa [.p, .p, .p, .p, .p] z <| OW.sub key (sb z)
        ·exact aa [.fa 71 2 3 gV] z <| o1 z (r1 3 0 z cw z) <| aa [.lenS 31 3 aO, .p] z <| oP z <| OW.sub key (sb z)
      ·refine sR <| aa [.fa 71 4 5 eR, .fa 69 1 1 dL] z <| o1 z (r1 6 3 z jm z) <| aa [.lenS 67 31 gL, .p] z <| nQ <| cI H z (fun H => ?_) (fun H => ?_)
       ·exact aT <| oP z <| ay <| XW.at (J1 (0) (H)) (ss [3] z z) (sb z)
       ·exact aw <| XW.at (J1 (d0) (H)) (ss [3] z z) (sb z)
     ·refine aw <| az <| sR <| o1 z (rx 0 0 _ z bU z) <| aa [.fa 71 1 1 mL] z <| o1 z (rx 1 3 _ z cH z) <| bE H fun h d8 H => oq z (qc z Cz (fun e c => rb e (p1 := a.l_) d8 (ah (ab m e c) (ab o e c)))) tt2 <| oP z <| nQ <| ak <| sR <| aa [.p, .p, .p] z <| aQ [(85, B ((h == 0) || ((a.r_.length : Int) != h))), (4, O (U ⟨f, 0, N⟩)), (5, O (U ⟨g, 0, N⟩)), (7, O (U ⟨d, 0, N⟩)), (9, I J h)] 6 ?_ (fun key => OW.sub (R := [(4, O (U ⟨f, 0, N⟩)), (5, O (U ⟨g, 0, N⟩)), (7, O (U ⟨d, 0, N⟩)), (9, I J h), (79, B (h == 0))]) ?_ (sb z))
      ·refine oP z <| bE H fun a1 q H => aQ [(91, B a1), (4, O (U ⟨f, 0, N⟩)), (5, O (U ⟨g, 0, N⟩)), (7, O (U ⟨d, 0, N⟩)), (9, I J h)] 5 ?_ (fun key => OW.sub (R := [(4, O (U ⟨f, 0, N⟩)), (5, O (U ⟨g, 0, N⟩)), (7, O (U ⟨d, 0, N⟩)), (9, I J h), (86, B ((h == 0) || ((a.r_.length : Int) != h)))]) ?_ (sb z))
       ·refine oP z <| bE H fun k s H => aQ [(99, B k), (4, O (U ⟨f, 0, N⟩)), (5, O (U ⟨g, 0, N⟩)), (7, O (U ⟨d, 0, N⟩))] 7 ?_ (fun key => OW.sub (R := [(4, O (U ⟨f, 0, N⟩)), (5, O (U ⟨g, 0, N⟩)), (7, O (U ⟨d, 0, N⟩)), (9, I J h), (92, B a1)]) ?_ (sb z))
        ·refine oP z <| aQ [(106, B (k || ((a.n_.d_.length : Int) != 0))), (4, O (U ⟨f, 0, N⟩)), (5, O (U ⟨g, 0, N⟩)), (7, O (U ⟨d, 0, N⟩))] 6 ?_ (fun key => OW.sub (R := [(4, O (U ⟨f, 0, N⟩)), (5, O (U ⟨g, 0, N⟩)), (7, O (U ⟨d, 0, N⟩)), (100, B k)]) ?_ (sb z))
         ·refine oP z <| aQ [(111, B ((k || ((a.n_.d_.length : Int) != 0)) || (a.v_ != 0))), (4, O (U ⟨f, 0, N⟩)), (5, O (U ⟨g, 0, N⟩)), (7, O (U ⟨d, 0, N⟩))] 4 ?_ (fun key => OW.sub (R := [(4, O (U ⟨f, 0, N⟩)), (5, O (U ⟨g, 0, N⟩)), (7, O (U ⟨d, 0, N⟩)), (107, B (k || ((a.n_.d_.length : Int) != 0)))]) ?_ (sb z))
          ·refine nQ <| cI H z (fun H => ?_) (fun H => ?_)
           ·exact sR <| oP z <| nT <| ap <| xr 6 z (by cases H; exact q1)
           ·exact aw <| az <| sR <| aa [.fa 71 2 3 gV] z <| o1 z (r1 3 3 z cw z) <| o1 z (vz z z) <| bE H fun e9 a9 H => oq z (qc z yn (fun e c => gq e (cs_1_0 := [I J p2]) (cs_1_1 := [S b7 p1.a_.length b8, I J p1.j_]) a9 (ab u e c) z (bl (T := 3) 0 (bK (i := 2) z) z e c) (aU (ab t e c) z) (bl (T := 30) 0 (bK (i := 1) z) z e c))) tt2 <| oPP z <| nT <| xr 6 z (by cases H; exact q1)
          ·generalize (k || ((a.n_.d_.length : Int) != 0)) = b0 at key ⊢
           cases b0
           ·exact aa [.fa 71 5 7 mh] z <| o1 z (r1 7 3 z ty3 z) <| oP z <| oP z <| OW.sub key (sb z)
           ·exact aa [.p, .p, .p, .p] z <| OW.sub key (sb z)
         ·generalize k = b1 at key ⊢
          cases b1
          ·exact aa [.fa 71 4 5 eR, .fa 69 1 1 dL] z <| o1 z (r1 6 3 z jm z) <| aa [.lenS 67 31 gL, .p] z <| oP z <| OW.sub key (sb z)
          ·exact aa [.p, .p, .p, .p, .p, .p] z <| OW.sub key (sb z)
        ·clear H
         have H := s
         clear s
         generalize a1 = b2 at H key ⊢
         cases b2
         ·have H := ba z H
          refine aa [.fa 71 3 4 qn] z <| o1 z (r1 4 3 z ty3 z) <| oPP z <| bE H fun f0 b3 H => oq z (qc z oR (fun e c => cE e b3)) tt2 <| oP z <| oP z <| ?_
          obtain rfl := ai H
          exact OW.sub key (sb z)
         ·have H := bb z H
          refine aa [.p, .p, .p, .p, .p, .p, .p] z ?_
          obtain rfl := ai H
          exact OW.sub key (sb z)
       ·clear H
        have H := q
        clear q
        generalize ((h == 0) || ((a.r_.length : Int) != h)) = b4 at H key ⊢
        cases b4
        ·have H := ba z H
         refine aa [.fa 71 2 3 gV] z <| o1 z (r1 3 3 z cw z) <| bE H fun f1 b5 H => oq z (qc z zj (fun e c => li e b5 (ab u e c))) tt2 <| oP z <| oP z <| ?_
         obtain rfl := ai H
         exact OW.sub key (sb z)
        ·have H := bb z H
         refine aa [.p, .p, .p, .p, .p] z ?_
         obtain rfl := ai H
         exact OW.sub key (sb z)
      ·generalize (h == 0) = d9 at key ⊢
       cases d9
       ·exact aa [.fa 71 2 3 gV] z <| o1 z (r1 3 3 z cw z) <| aa [.lenS 31 3 aO, .p, .p] z <| oP z <| OW.sub key (sb z)
       ·exact aa [.p, .p, .p, .p, .p, .p] z <| OW.sub key (sb z)
   ·clear H
    have H := Z
    clear Z
    generalize Q = e0 at H key ⊢
    cases e0
    ·have H := ba z H
     refine o1 z (rx 0 0 _ z bU z) <| aa [.fa 71 6 8 oX] z <| o1 z (r1 8 3 z cw z) <| bE H fun h7 e1 H => oq z (qc z Dg (fun e c => rY e e1 (ah (ab m e c) (ab o e c)) (ab a4 e c))) tt2 <| oP z <| oP z <| ?_
     obtain rfl := ai H
     exact OW.sub key (sb z)
    ·have H := bb z H
     refine aa [.p, .p, .p, .p, .p, .p] z ?_
     obtain rfl := ai H
     exact OW.sub key (sb z)
  ·clear H
   have H := X
   clear X
   generalize M = e2 at H key ⊢
   cases e2
   ·have H := ba z H
    refine o1 z (rx 0 0 _ z bU z) <| aa [.fa 71 4 5 eR] z <| o1 z (rx 5 3 _ z cP z) <| bE H fun h8 e3 H => oq z (qc z Cl (fun e c => oH e e3 (ah (ab m e c) (ab o e c)) (aE (ab A e c) (ab a5 e c)))) tt2 <| oP z <| oP z <| ?_
    obtain rfl := ai H
    exact OW.sub key (sb z)
   ·have H := bb z H
    refine aa [.p, .p, .p, .p, .p, .p] z ?_
    obtain rfl := ai H
    exact OW.sub key (sb z)
 ·clear H
  have H := P
  clear P
  generalize (!a6) = e4 at H key ⊢
  cases e4
  ·have H := ba z H
   refine aa [.fa 71 9 11 nx] z <| o1 z (r1 11 3 z ty3 z) <| aa [.fa 30 1 1 mo] z <| o1 z (r1 1 1 z ty3 z) <| bE H fun h9 e5 H => oq z (qc z oR (fun e c => cE e e5)) tt2 <| oP z <| oP z <| ?_
   obtain rfl := ai H
   exact OW.sub key (sb z)
  ·have H := bb z H
   refine aa [.p, .p, .p, .p, .p, .p, .p] z ?_
   obtain rfl := ai H
   exact OW.sub key (sb z)
theorem iV (w : World) {p0 : List Int} {p1 : Int} {a_0 : Option Addr} {n_0 c_0 : Nat} {r : Int} (H : dt p0 p1 = U r) (d : (af eI 3).rd w [] p0 [S a_0 n_0 c_0]) :
    Calls Tryz.prog 31 #[S a_0 n_0 c_0, I J p1] w (fun en w' => en = .returned (I J r) ∧ Ext [] w w') := by
 obtain rfl := ee d
 unfold dt at H
 refine aG Tryz.func31 z Tryz.ntmps31 z (St.init w []) <| sR <| oP z <| nQ <| ak <| sR <| aa [.p, .lenS 31 3 aO, .p] z <| nQ <| aB <| CW.at (fL (fun (a : Int) => St w [] []) (fun a => [(0, S a_0 p0.length c_0), (1, I J p1), (7, I J (p0.length : Int)), (8, I J a)]) (fun kk => fun a => bR p0 p1 kk a = U r) (fun _ H => ?_) (fun h f a H => ?_) bh (0) (H)) (ss [] z z) (sb z)
 ·unfold bR at H
  exact absurd H (by simp)
 ·unfold bR at H
  refine sR <| oP z <| nQ <| ak <| cI H z (fun H => ?_) (fun H => ?_)
  ·refine aw <| az <| ak <| aB <| sR <| oPP z <| nR <| aa [.p, .p, .p] z <| bE H fun g c H => bq (e := eI) (xs := p0) (j := a) z z z z z aO ty3 z (ab d) c (by rw [Nat.mul_one]) <| o1 z (aF z z ty3 (bC (ab d) c)) <| oP z <| nQ <| cI H z (fun H => ?_) (fun H => ?_)
   ·exact sR <| oPP z <| nT <| aP <| ap <| bZ <| aP <| ap <| xr 4 z (by cases H; exact q1)
   ·exact aw <| ca <| az <| aT <| oPP z <| ay <| cQ (RW.at (f (J.wrap (a + 1)) (H)) (ss [] z z) (sb z))
  ·exact bH <| aN <| aS <| aM <| az <| sR <| oP z <| nT <| xr 4 z (by cases H; exact q1)
theorem kO (w : World) {p0 : List Int} {p1 : Int} {a_0 : Option Addr} {n_0 c_0 : Nat} {r : Bool} (H : dx p0 p1 = U r) (a : (af eI 3).rd w [] p0 [S a_0 n_0 c_0]) :
    Calls Tryz.prog 64 #[S a_0 n_0 c_0, I J p1] w (fun en w' => en = .returned (B r) ∧ Ext [] w w') := by
 obtain rfl := ee a
 unfold dx at H
 exact aG Tryz.func64 z Tryz.ntmps64 z (St.init w []) <| sR <| oP z <| nR <| oPP z <| bE H fun f c H => oq z (qc z Dk (fun d e => iV d c (ab a d e))) tt2 <| oPP z <| nT <| xr 4 z (by cases H; exact q1)
theorem sr (w : World) {p0 : ae} {p1 : aj} {b0 : List Value} {b1 : List Value} {r : Bool} (H : lR p0 p1 = U r) (g0 : (aX).rd w [] p0 b0) (g1 : (cU).rd w [] p1 b1) :
    Calls Tryz.prog 28 #[.agg b0.toArray, .agg b1.toArray] w (fun en w' => en = .returned (B r) ∧ Ext [] w w') := by
 obtain ⟨j3, j4, rfl, s, t⟩ := aI g0
 obtain ⟨e6, e7, rfl⟩ := am s
 obtain ⟨e9, f0, rfl⟩ := am t
 obtain ⟨j5, j6, rfl, o, f1⟩ := cr g1
 obtain ⟨g, h, rfl⟩ := am o
 obtain rfl := f1
 unfold lR at H
 refine aG Tryz.func28 z Tryz.ntmps28 z (St.init w []) <| sR <| ob _ z fun e => ob _ z fun f => oP z <| nQ <| ak <| sR <| o1 z (rx 0 0 _ z bU z) <| bE H fun b2 f2 H => oq z (qc z zC (fun i j => ka i f2 (ah (ab s i j) (ab t i j)))) tt2 <| oPP z <| bE H fun u v H => aQ [(17, B u), (2, O (U ⟨e, 0, N⟩)), (3, O (U ⟨f, 0, N⟩))] 6 ?_ (fun key => OW.sub (R := [(2, O (U ⟨e, 0, N⟩)), (3, O (U ⟨f, 0, N⟩)), (11, B (!b2))]) ?_ (sb z))
 ·refine oP z <| bE H fun f3 x H => aQ [(23, B f3), (2, O (U ⟨e, 0, N⟩)), (3, O (U ⟨f, 0, N⟩))] 5 ?_ (fun key => OW.sub (R := [(2, O (U ⟨e, 0, N⟩)), (3, O (U ⟨f, 0, N⟩)), (18, B u)]) ?_ (sb z))
  ·refine nQ <| cI H z (fun H => ?_) (fun H => ?_)
   ·exact sR <| oP z <| nT <| ap <| xr 4 z (by cases H; exact q1)
   ·refine aw <| az <| ak <| sR <| aa [.fa 30 0 0 cb] z <| o1 z (r1 0 1 z ef z) <| aa [.lenS 28 71 dZ, .p] z <| nQ <| aB <| CW.at (fL (fun (d : Int) => St w [] [b e 27 [S e6 p0.b_.length e7, S e9 p0.k_.length f0], b f 30 [S g p1.a_.length h, I J p1.j_]]) (fun d => [(2, O (U ⟨e, 0, N⟩)), (3, O (U ⟨f, 0, N⟩)), (25, S g p1.a_.length h), (26, I J (p1.a_.length : Int)), (27, I J d)]) (fun kk => fun d => dC p1 p0 kk d = U r) (fun _ H => ?_) (fun k1 A d H => ?_) bh (0) (H)) (ss [0, 1] z z) (sb z)
    ·unfold dC at H
     exact absurd H (by simp)
    ·unfold dC at H
     refine sR <| oP z <| nQ <| ak <| cI H z (fun H => ?_) (fun H => ?_)
     ·refine aw <| az <| ak <| aB <| sR <| oP z <| bE H fun a b3 H => cB z z z z z dZ cc z o b3 fun g2 g3 a6 a7 => ?_
      obtain ⟨g4, g5, g6, g7, g8, g9, h0, h1, h2, h3, rfl, b4, b5, b6, b7, b8, b9, c0, c1, c2, c3⟩ := bn a6
      obtain rfl := b4
      obtain rfl := b5
      obtain ⟨C, D, rfl⟩ := am b6
      obtain rfl := b7
      obtain ⟨h4, h5, rfl, c4, c5⟩ := aL b8
      obtain ⟨E, F, rfl⟩ := am c4
      obtain ⟨G, L, rfl⟩ := am c5
      obtain rfl := b9
      obtain ⟨M, P, rfl⟩ := am c0
      obtain rfl := c1
      obtain rfl := c2
      obtain rfl := c3
      refine o1 z (cV (cs := [B a.s_, I J a.l_.g_, I J a.l_.c_, S C a.r_.length D, I J a.w_, S E a.n_.e_.length F, S G a.n_.d_.length L, I J a.v_, S M a.b_.length P, I J a.m_, I J a.o_, I J a.p_]) z z cc (co bor a7) z) <| aC z z z z cc (fun _ => kp) fun k => oP z <| sC 0 [B a.s_, I J a.l_.g_, I J a.l_.c_, S C a.r_.length D, I J a.w_, S E a.n_.e_.length F, S G a.n_.d_.length L, I J a.v_, S M a.b_.length P, I J a.m_, I J a.o_, I J a.p_] [_, _, _, _, _, _, _, _, _, _, _, _] 2 z cc z <| nQ <| ak <| sR <| o1 z (rx 0 0 _ z bU z) <| o1 z (rx 0 1 _ z bv z) <| oP z <| bE H fun h6 c6 H => oq z (qc z Dx (fun i j => tf i c6 (ah (ab s i j) (ab t i j)) (aU (ab o i j) z))) tt2 <| oP z <| nQ <| cI H z (fun H => ?_) (fun H => ?_)
      ·exact sR <| oP z <| nT <| ap <| aP <| ap <| bZ <| aP <| ap <| xr 4 z (by cases H; exact q1)
      ·refine aw <| az <| ak <| sR <| oPP z <| nQ <| cI H z (fun H => ?_) (fun H => ?_)
       ·refine ak <| sR <| aa [.fa 71 8 10 nA] z <| o1 z (r1 10 2 z ty3 z) <| oPP z <| aQ [(46, B ((a.o_ != (-1)) || (a.m_ != 0))), (2, O (U ⟨e, 0, N⟩)), (3, O (U ⟨f, 0, N⟩)), (6, O (U ⟨k, 0, N⟩)), (25, S g p1.a_.length h), (26, I J (p1.a_.length : Int)), (27, I J d)] 4 ?_ (fun key => OW.sub (R := [(2, O (U ⟨e, 0, N⟩)), (3, O (U ⟨f, 0, N⟩)), (6, O (U ⟨k, 0, N⟩)), (25, S g p1.a_.length h), (26, I J (p1.a_.length : Int)), (27, I J d), (42, B (a.o_ != (-1)))]) ?_ (sb z))
        ·refine oP z <| aQ [(51, B (((a.o_ != (-1)) || (a.m_ != 0)) || (a.p_ != 0))), (2, O (U ⟨e, 0, N⟩)), (3, O (U ⟨f, 0, N⟩)), (25, S g p1.a_.length h), (26, I J (p1.a_.length : Int)), (27, I J d)] 4 ?_ (fun key => OW.sub (R := [(2, O (U ⟨e, 0, N⟩)), (3, O (U ⟨f, 0, N⟩)), (6, O (U ⟨k, 0, N⟩)), (25, S g p1.a_.length h), (26, I J (p1.a_.length : Int)), (27, I J d), (47, B ((a.o_ != (-1)) || (a.m_ != 0)))]) ?_ (sb z))
         ·refine nQ <| cI H z (fun H => ?_) (fun H => ?_)
          ·exact sR <| oP z <| nT <| ap <| ap <| aP <| ap <| bZ <| aP <| ap <| xr 4 z (by cases H; exact q1)
          ·exact aw <| az <| bH <| aN <| aM <| az <| aT <| oPP z <| ay <| cQ (RW.at (A (J.wrap (d + 1)) (H)) (ss [0, 1] z z) (sb z))
         ·generalize ((a.o_ != (-1)) || (a.m_ != 0)) = c7 at key ⊢
          cases c7
          ·exact aa [.fa 71 9 11 nx] z <| o1 z (r1 11 2 z ty3 z) <| oP z <| oP z <| OW.sub key (sb z)
          ·exact aa [.p, .p, .p, .p] z <| OW.sub key (sb z)
        ·generalize (a.o_ != (-1)) = c8 at key ⊢
         cases c8
         ·exact aa [.fa 71 7 9 ke] z <| o1 z (r1 9 2 z ty3 z) <| oP z <| oP z <| OW.sub key (sb z)
         ·exact aa [.p, .p, .p, .p] z <| OW.sub key (sb z)
       ·refine aw <| az <| ak <| sR <| aa [.fa 71 8 10 nA] z <| o1 z (r1 10 2 z ty3 z) <| oPP z <| bE H fun h7 c9 H => oq z (qc z oR (fun i j => cE i c9)) tt2 <| oP z <| nQ <| cI H z (fun H => ?_) (fun H => ?_)
        ·exact sR <| oP z <| nT <| ap <| aP <| ap <| bZ <| aP <| ap <| xr 4 z (by cases H; exact q1)
        ·refine aw <| az <| sR <| aa [.fa 30 0 0 cb] z <| o1 z (r1 0 1 z ef z) <| aa [.fa 71 8 10 nA] z <| o1 z (r1 10 2 z ty3 z) <| bE H fun c d0 H => cB z z z z z dZ cc z o d0 fun h8 h9 a8 a9 => ?_
         obtain ⟨i0, i1, i2, i3, i4, i5, i6, i7, i8, i9, rfl, d1, d2, Q, d3, d4, d5, d6, d7, d8, d9⟩ := bn a8
         obtain rfl := d1
         obtain rfl := d2
         obtain ⟨X, Z, rfl⟩ := am Q
         obtain rfl := d3
         obtain ⟨j0, j1, rfl, e0, e1⟩ := aL d4
         obtain ⟨a0, a1, rfl⟩ := am e0
         obtain ⟨a2, a3, rfl⟩ := am e1
         obtain rfl := d5
         obtain ⟨a4, a5, rfl⟩ := am d6
         obtain rfl := d7
         obtain rfl := d8
         obtain rfl := d9
         refine o1 z (cV (cs := [B c.s_, I J c.l_.g_, I J c.l_.c_, S X c.r_.length Z, I J c.w_, S a0 c.n_.e_.length a1, S a2 c.n_.d_.length a3, I J c.v_, S a4 c.b_.length a5, I J c.m_, I J c.o_, I J c.p_]) z z cc (co bor a9) z) <| aC z z z z cc (fun _ => kp) fun m => sC 0 [B c.s_, I J c.l_.g_, I J c.l_.c_, S X c.r_.length Z, I J c.w_, S a0 c.n_.e_.length a1, S a2 c.n_.d_.length a3, I J c.v_, S a4 c.b_.length a5, I J c.m_, I J c.o_, I J c.p_] [_, _, _, _, _, _, _, _, _, _, _, _] 3 z cc z <| nR <| aa [.fa 71 0 0 ls] z <| o1 z (r1 0 3 z ty4 z) <| oP z <| bE H fun l q H => aQ [(72, B l), (2, O (U ⟨e, 0, N⟩)), (3, O (U ⟨f, 0, N⟩)), (6, O (U ⟨k, 0, N⟩)), (7, O (U ⟨m, 0, N⟩)), (25, S g p1.a_.length h), (26, I J (p1.a_.length : Int)), (27, I J d)] 6 ?_ (fun key => OW.sub (R := [(2, O (U ⟨e, 0, N⟩)), (3, O (U ⟨f, 0, N⟩)), (5, I J d), (6, O (U ⟨k, 0, N⟩)), (7, O (U ⟨m, 0, N⟩)), (25, S g p1.a_.length h), (26, I J (p1.a_.length : Int)), (27, I J d), (66, B c.s_)]) ?_ (sb z))
         ·refine oP z <| aQ [(80, B (l || (c.m_ != (J.wrap (a.m_ - 1))))), (2, O (U ⟨e, 0, N⟩)), (3, O (U ⟨f, 0, N⟩)), (6, O (U ⟨k, 0, N⟩)), (7, O (U ⟨m, 0, N⟩)), (25, S g p1.a_.length h), (26, I J (p1.a_.length : Int)), (27, I J d)] 7 ?_ (fun key => OW.sub (R := [(2, O (U ⟨e, 0, N⟩)), (3, O (U ⟨f, 0, N⟩)), (6, O (U ⟨k, 0, N⟩)), (7, O (U ⟨m, 0, N⟩)), (25, S g p1.a_.length h), (26, I J (p1.a_.length : Int)), (27, I J d), (73, B l)]) ?_ (sb z))
          ·refine oP z <| aQ [(87, B ((l || (c.m_ != (J.wrap (a.m_ - 1)))) || (decide (c.p_ > a.p_)))), (2, O (U ⟨e, 0, N⟩)), (3, O (U ⟨f, 0, N⟩)), (25, S g p1.a_.length h), (26, I J (p1.a_.length : Int)), (27, I J d)] 6 ?_ (fun key => OW.sub (R := [(2, O (U ⟨e, 0, N⟩)), (3, O (U ⟨f, 0, N⟩)), (6, O (U ⟨k, 0, N⟩)), (7, O (U ⟨m, 0, N⟩)), (25, S g p1.a_.length h), (26, I J (p1.a_.length : Int)), (27, I J d), (81, B (l || (c.m_ != (J.wrap (a.m_ - 1)))))]) ?_ (sb z))
           ·refine nQ <| cI H z (fun H => ?_) (fun H => ?_)
            ·exact sR <| oP z <| nT <| aP <| ap <| bZ <| aP <| ap <| xr 4 z (by cases H; exact q1)
            ·exact aw <| ca <| az <| aT <| oPP z <| ay <| cQ (RW.at (A (J.wrap (d + 1)) (H)) (ss [0, 1] z z) (sb z))
           ·generalize (l || (c.m_ != (J.wrap (a.m_ - 1)))) = e2 at key ⊢
            cases e2
            ·exact aa [.fa 71 9 11 nx] z <| o1 z (r1 11 3 z ty3 z) <| aa [.fa 71 9 11 nx] z <| o1 z (r1 11 2 z ty3 z) <| oP z <| oP z <| OW.sub key (sb z)
            ·exact aa [.p, .p, .p, .p, .p, .p] z <| OW.sub key (sb z)
          ·generalize l = e3 at key ⊢
           cases e3
           ·exact aa [.fa 71 7 9 ke] z <| o1 z (r1 9 3 z ty3 z) <| aa [.fa 71 7 9 ke] z <| o1 z (r1 9 2 z ty3 z) <| oPP z <| oP z <| OW.sub key (sb z)
           ·exact aa [.p, .p, .p, .p, .p, .p, .p] z <| OW.sub key (sb z)
         ·clear H
          have H := q
          clear q
          generalize c.s_ = e4 at H key ⊢
          cases e4
          ·have H := ba z H
           refine aa [.fa 71 2 3 gV] z <| o1 z (r1 3 3 z cw z) <| oP z <| bE H fun j2 e5 H => oq z (qc z Dr (fun i j => kO i e5 (ab Q i j))) tt2 <| oP z <| oP z <| ?_
           obtain rfl := ai H
           exact OW.sub key (sb z)
          ·have H := bb z H
           refine aa [.p, .p, .p, .p, .p, .p] z ?_
           obtain rfl := ai H
           exact OW.sub key (sb z)
     ·exact bH <| aN <| aS <| aM <| az <| sR <| oP z <| nT <| xr 4 z (by cases H; exact q1)
  ·clear H
   have H := x
   clear x
   generalize u = f4 at H key ⊢
   cases f4
   ·have H := ba z H
    refine aa [.fa 30 1 1 mo] z <| o1 z (r1 1 1 z ty3 z) <| bE H fun j7 f5 H => oq z (qc z oR (fun i j => cE i f5)) tt2 <| oP z <| oP z <| ?_
    obtain rfl := ai H
    exact OW.sub key (sb z)
   ·have H := bb z H
    refine aa [.p, .p, .p, .p, .p] z ?_
    obtain rfl := ai H
    exact OW.sub key (sb z)
 ·clear H
  have H := v
  clear v
  generalize (!b2) = f6 at H key ⊢
  cases f6
  ·have H := ba z H
   refine aa [.fa 30 0 0 cb] z <| o1 z (r1 0 1 z ef z) <| aa [.lenS 28 71 dZ] z <| bE H fun j8 f7 H => oq z (qc z oR (fun i j => cE i f7)) tt2 <| oP z <| oP z <| ?_
   obtain rfl := ai H
   exact OW.sub key (sb z)
  ·have H := bb z H
   refine aa [.p, .p, .p, .p, .p, .p] z ?_
   obtain rfl := ai H
   exact OW.sub key (sb z)
theorem iS (w : World) {p0 : Int} {r : List UInt8} (H : gH p0 = U r) (gT : (ol Tryz.prog).rd w [] () []) :
    Calls Tryz.prog 51 #[I J p0] w (fun en w' => en = .returned (vS r) ∧ Ext [] w w') := by
 unfold gH at H
 exact aG Tryz.func51 z Tryz.ntmps51 z (St.init w []) <| sR <| oP z <| nR <| oP z <| bE H fun e a H => oq z (qc z DK (fun c d => zU Tryz.laysM171 c a (ab gT c d))) tt2 <| oP z <| nT <| xr 2 z (by cases H; exact q1)
theorem sQ (w : World) {p0 : aR} {a : List Value} {r : Bool} (H : nj p0 = U r) (t : (aD).rd w [] p0 a) :
    Calls Tryz.prog 88 #[.agg a.toArray] w (fun en w' => en = .returned (B r) ∧ Ext [] w w') := by
 obtain ⟨u, v, x, A, C, D, E, F, G, L, rfl, c, d, e, f, g, h, i, j, k, l⟩ := bn t
 obtain rfl := c
 obtain rfl := d
 obtain ⟨M, P, rfl⟩ := am e
 obtain rfl := f
 obtain ⟨Q, X, rfl, m, o⟩ := aL g
 obtain ⟨Z, a0, rfl⟩ := am m
 obtain ⟨a1, a2, rfl⟩ := am o
 obtain rfl := h
 obtain ⟨a3, a4, rfl⟩ := am i
 obtain rfl := j
 obtain rfl := k
 obtain rfl := l
 unfold nj at H
 refine aG Tryz.func88 z Tryz.ntmps88 z (St.init w []) <| sR <| ob _ z fun q => oP z <| nR <| aa [.fa 71 0 0 ls] z <| o1 z (r1 0 0 z ty4 z) <| oP z <| aQ [(11, B (p0.s_ && (decide ((p0.n_.d_.length : Int) > 0)))), (2, B n)] 6 ?_ (fun key => OW.sub (R := [(1, O (U ⟨q, 0, N⟩)), (2, B n), (5, B p0.s_)]) ?_ (sb z))
 ·exact oP z <| nT <| xr 2 z (by cases H; exact q1)
 ·generalize p0.s_ = s at key ⊢
  cases s
  ·exact aa [.p, .p, .p, .p, .p, .p] z <| OW.sub key (sb z)
  ·exact aa [.fa 71 4 5 eR, .fa 69 1 1 dL] z <| o1 z (r1 6 0 z jm z) <| aa [.lenS 67 31 gL, .p] z <| oP z <| OW.sub key (sb z)
theorem pJ (w : World) {p0 : List Int} {p1 : List UInt8} {a_0 : Option Addr} {n_0 c_0 : Nat} {r : List UInt8} (H : iM p0 p1 = U r) (s : (af eI 3).rd w [] p0 [S a_0 n_0 c_0]) (gT : (ol Tryz.prog).rd w [] () []) :
    Calls Tryz.prog 120 #[S a_0 n_0 c_0, vS p1] w (fun en w' => en = .returned (vS r) ∧ Ext [] w w') := by
 obtain rfl := ee s
 unfold iM at H
 refine aG Tryz.func120 z Tryz.ntmps120 z (St.init w []) <| sR <| oP z <| nR <| bM (e := da) z z z z ek ty9 (fun _ => kp) fun m => oP z <| nQ <| ak <| sR <| aa [.p, .lenS 31 3 aO, .p] z <| nQ <| aB <| CW.at (iz (fun (a : Int) (c : List (List UInt8)) (f : Option Addr) (g : Nat) (k : List Nat) => St w [] [W (af (da) 9) k c [S f c.length g]]) (fun a c f g k => [(1, vS p1), (5, S f c.length g), (9, S a_0 p0.length c_0), (10, I J (p0.length : Int)), (11, I J a)]) (fun kk => fun a c f g k => f.isNone = n ∧ dj p0 p1 kk a c = U r) (fun _ _ _ _ _ H => ?_) (fun P t a c f g k ⟨F, H⟩ => ?_) bh (0) (([] : List (List UInt8))) ((U ⟨m, 0, N⟩)) (0) ([m]) (⟨z, H⟩)) (ss [0] z z) (sb z)
 ·unfold dj at H
  exact absurd H (by simp)
 ·unfold dj at H
  refine sR <| oP z <| nQ <| ak <| cI H z (fun H => ?_) (fun H => ?_)
  ·exact aw <| az <| ak <| aB <| sR <| bE H fun G o H => bq (e := eI) (xs := p0) (j := a) z z z z z aO ty3 z (ab s) o (by rw [Nat.mul_one]) <| o1 z (aF z z ty3 (bC (ab s) o)) <| oP z <| nQ <| aT <| oPP z <| bE H fun l v H => oq z (qc z xC (fun h d => iS h v (ab gT h d))) tt2 <| bA (val := vS) (h1 := fun _ => z) [l] [(0, [vS l])] z z z z z ek ty9 z z z ⟨z, z, nl z, Y⟩ z z (fun _ => kp) fun L => bE H fun x q H => bY (r := 0) (ys := ([l] : List (List UInt8))) z z z z z z ek ty9 z z z (fun h d => au (e := af (da) 9) (r := 1) z h d) q (fun _ _ _ => kp) fun A C D => cg z (fun h d => eD (i := 0) d z (eG q)) fun u => oP z <| ay <| ca <| az <| aT <| oPP z <| ay <| cQ (RW.at (t (J.wrap (a + 1)) (x) (A) (C) (D) (⟨u, H⟩)) (ss [0] z z) (sb z))
  ·exact bH <| aN <| aS <| aM <| az <| sR <| oPP z <| bE H fun M E H => oq z (qc z BD (fun h d => uG (T := 9) Tryz.lays156 Tryz.Builder_Extra_156 h E (au (e := af (da) 9) (r := 0) z h d))) tt2 <| oP z <| nT <| xr 4 z (by cases H; exact q1)
theorem qf (w : World) {p0 : List Int} {a_0 : Option Addr} {n_0 c_0 : Nat} {r : List UInt8} (H : kx p0 = U r) (d : (af eI 3).rd w [] p0 [S a_0 n_0 c_0]) (gT : (ol Tryz.prog).rd w [] () []) :
    Calls Tryz.prog 89 #[S a_0 n_0 c_0] w (fun en w' => en = .returned (vS r) ∧ Ext [] w w') := by
 obtain rfl := ee d
 unfold kx at H
 exact aG Tryz.func89 z Tryz.ntmps89 z (St.init w []) <| sR <| oP z <| nR <| oP z <| bE H fun f e H => oq z (qc z Cq (fun c a => pJ c e (ab d c a) (ab gT c a))) tt2 <| oP z <| nT <| xr 2 z (by cases H; exact q1)
theorem mn (w : World) {p0 : List Int} {a_0 : Option Addr} {n_0 c_0 : Nat} {r : Int} (H : eJ p0 = U r) (d : (af eI 3).rd w [] p0 [S a_0 n_0 c_0]) :
    Calls Tryz.prog 121 #[S a_0 n_0 c_0] w (fun en w' => en = .returned (I J r) ∧ Ext [] w w') := by
 obtain rfl := ee d
 unfold eJ at H
 refine aG Tryz.func121 z Tryz.ntmps121 z (St.init w []) <| sR <| oP z <| nQ <| ak <| sR <| aa [.p, .lenS 31 3 aO, .p] z <| nQ <| cI H z (fun H => ?_) (fun H => ?_)
 ·exact nomatch H
 ·refine aw <| az <| sR <| oP z <| bE H fun k f H => bq (e := eI) (xs := p0) (j := 0) z z z z z aO ty3 z (ab d) f (by rw [Nat.mul_one]) <| o1 z (aF z z ty3 (bC (ab d) f)) <| oP z <| nQ <| ak <| sR <| oP z <| nQ <| aB <| CW.at (ic (fun (a : Int) (c : Int) => St w [] []) (fun a c => [(0, S a_0 p0.length c_0), (3, I J a), (4, I J c)]) (fun kk => fun a c => cD p0 kk a c = U r) (fun _ _ H => ?_) (fun l i a c H => ?_) bh (k) (1) (H)) (ss [] z z) (sb z)
  ·unfold cD at H
   exact absurd H (by simp)
  ·unfold cD at H
   refine ak <| sR <| aa [.p, .p, .lenS 31 3 aO, .p] z <| nQ <| cI H z (fun H => ?_) (fun H => ?_)
   ·exact aw <| az <| ak <| aB <| aT <| aa [.p, .p, .p] z <| bE H fun g h H => bq (e := eI) (xs := p0) (j := c) z z z z z aO ty3 z (ab d) h (by rw [Nat.mul_one]) <| o1 z (aF z z ty3 (bC (ab d) h)) <| o1 z (BK z z z) <| oP z <| ay <| ca <| az <| aT <| aa [.p, .p, .p] z <| ay <| cQ (RW.at (i ((if a < g then g else a)) (J.wrap (c + 1)) (H)) (ss [] z z) (sb z))
   ·exact bH <| aN <| aS <| aM <| az <| sR <| oPP z <| nT <| xr 2 z (by cases H; exact q1)
theorem tx (w : World) {p0 : List Int} {a_0 : Option Addr} {n_0 c_0 : Nat} {r : Int} (H : lC p0 = U r) (d : (af eI 3).rd w [] p0 [S a_0 n_0 c_0]) :
    Calls Tryz.prog 90 #[S a_0 n_0 c_0] w (fun en w' => en = .returned (I J r) ∧ Ext [] w w') := by
 obtain rfl := ee d
 unfold lC at H
 refine aG Tryz.func90 z Tryz.ntmps90 z (St.init w []) <| sR <| oP z <| nQ <| ak <| sR <| aa [.p, .lenS 31 3 aO, .p] z <| nQ <| cI H z (fun H => ?_) (fun H => ?_)
 ·exact sR <| oP z <| nT <| ap <| xr 2 z (by cases H; exact q1)
 ·exact aw <| az <| sR <| oPP z <| bE H fun g e H => oq z (qc z CO (fun a c => mn a e (ab d a c))) tt2 <| bE H fun h f H => oq z (qc z Dk (fun a c => iV a f (ab d a c))) tt2 <| oP z <| nT <| xr 2 z (by cases H; exact q1)
theorem kd (w : World) {f : List Nat} {p0 : List (List UInt8)} {a_0 : Option Addr} {n_0 c_0 : Nat} {r : List (List UInt8)} (H : dQ p0 = U r) (HS : St w f [] w) (g : (af (da) 9).rd w f p0 [S a_0 n_0 c_0]) :
    Calls Tryz.prog 122 #[S a_0 n_0 c_0] w (fun en w' => ∃ v, en = .returned v ∧ ∃ (i : Option Addr), ∃ (j : Nat), ∃ (c0 : Nat), ∃ (m : List Nat), v = S i j c0 ∧ St w f [W (af (da) 9) m r [S i j c0]] w') := by
 obtain rfl := ee g
 unfold dQ at H
 refine aG Tryz.func122 z Tryz.ntmps122 z (HS) <| sR <| oP z <| nQ <| ak <| sR <| oP z <| o1 z (zW z z ek z) <| nQ <| Cm z (fun hb => ?_) (fun _ => ?_)
 ·obtain rfl : p0 = [] := xk g hb
  have H : U ([] : List (List UInt8)) = U r := by simpa [app] using H
  exact sR <| oP z <| nT <| ap <| fo (fun _ h => St.pushNil (e := da) (T := 9) h) <| aY (rs := [.tmp 2]) (vs := [S N 0 0]) z ⟨z, Y⟩ (fun w' hw' => by
   obtain rfl := ai H
   exact ⟨_, z, N, 0, 0, [], z, hw'.sel [0] z z⟩)
 ·exact aw <| az <| sR <| bM (e := da) z z z z ek ty9 (fun _ => kp) fun o => oP z <| bE H fun a k H => bY (r := 0) (ys := p0) z z z z z z ek ty9 z z z (ab g) k (fun _ _ _ => kp) fun c d l => oP z <| nT <| aY (rs := [.tmp 2]) (vs := [S c a.length d]) z ⟨z, Y⟩ (fun w' hw' => by
   obtain rfl := ai H
   exact ⟨_, z, c, a.length, d, l, z, hw'.sel [0] z z⟩)
theorem rc (w : World) {p0 : ae} {p1 : ar} {q : List Value} {r : List UInt8} (H : kj p0 p1 = U r) (g0 : (aX).rd w [] p0 q) (gT : (ol Tryz.prog).rd w [] () []) :
    Calls Tryz.prog 92 #[.agg q.toArray, .agg #[I J p1.g_, I J p1.c_]] w (fun en w' => en = .returned (vS r) ∧ Ext [] w w') := by
 obtain ⟨a8, a9, rfl, f, s⟩ := aI g0
 obtain ⟨D, E, rfl⟩ := am f
 obtain ⟨F, G, rfl⟩ := am s
 unfold kj at H
 refine aG Tryz.func92 z Tryz.ntmps92 z (St.init w []) <| sR <| ob _ z fun L => ob _ z fun M => oP z <| nQ <| ak <| sR <| o1 z (rx 0 0 _ z bU z) <| o1 z (rx 0 1 _ z cH z) <| bE H fun b0 P H => oq z (qc z Bq (fun d a => mF d (p1 := p1) P (ah (ab f d a) (ab s d a)))) tt2 <| oP z <| nQ <| cI H z (fun H => ?_) (fun H => ?_)
 ·exact sR <| oP z <| nT <| ap <| xr 4 z (by cases H; exact q1)
 ·refine aw <| az <| sR <| aa [.fa 27 0 0 dq] z <| o1 z (r1 0 0 z iH z) <| aa [.fa 66 0 0 kf] z <| o1 z (r1 0 1 z ty3 z) <| bE H fun c Q H => cB z z z z z iw dI z f Q fun b1 b2 x A => ?_
  obtain ⟨b3, b4, b5, rfl, R, g, t⟩ := bW x
  obtain rfl := R
  obtain ⟨h, k, rfl⟩ := am g
  obtain ⟨l, m, rfl⟩ := am t
  refine o1 z (cV (cs := [vS c.x_, S h c.t_.length k, S l c.y_.length m]) z z dI (co bor A) z) <| aC z z z z dI (fun _ => kp) fun X => sC 0 [vS c.x_, S h c.t_.length k, S l c.y_.length m] [_, _, _] 2 z dI z <| nQ <| ak <| aB <| sR <| aa [.fa 66 1 1 ly] z <| o1 z (r1 1 1 z ty3 z) <| oPP z <| nQ <| cI H z (fun H => ?_) (fun H => ?_)
  ·exact sR <| aa [.fa 63 0 0 oy] z <| o1 z (r1 0 2 z ty9 z) <| bE H fun b6 Z H => o1 z (lP z z z Z) <| oP z <| nT <| aP <| ap <| xr 4 z (by cases H; exact q1)
  ·refine sR <| aa [.fa 63 1 1 gx] z <| o1 z (r1 1 2 z cw z) <| aa [.lenS 31 3 aO, .p, .p] z <| nQ <| cI H z (fun H => ?_) (fun H => ?_)
   ·exact ak <| dJ bT (by kernel_rfl) <| aa [.fa 63 0 0 oy] z <| o1 z (r1 0 2 z ty9 z) <| bE H fun b7 a0 H => o1 z (lP z z z a0) <| aa [.fa 63 1 1 gx] z <| o1 z (r1 1 2 z cw z) <| aa [.fa 66 1 1 ly] z <| o1 z (r1 1 1 z ty3 z) <| bE H fun b8 u H => bq (e := eI) (xs := c.t_) (j := p1.c_) z z z z z aO ty3 z (ab g) u (by rw [Nat.mul_one]) <| o1 z (aF z z ty3 (bC (ab g) u)) <| bE H fun b9 a1 H => oq z (qc z xC (fun d a => iS d a1 (ab gT d a))) tt2 <| bE H fun c0 a2 H => o1 z (lP z z z a2) <| oP z <| cx <| az <| pT <| aP <| ap <| xr 4 z (by cases H; exact q1)
   ·refine aw <| ca <| az <| ak <| bE H fun c1 a3 H => bE H fun a4 a5 H => bE H fun c2 v H => om 10 [(0, y), (1, y), (2, y), (3, y), (4, y), (6, y), (7, y), (5, n), (8, n), (9, n)] Br.done (St w [] [b L 27 [S D p0.b_.length E, S F p0.k_.length G], b M 66 [I J p1.g_, I J p1.c_], b X 63 [vS c.x_, S h c.t_.length k, S l c.y_.length m]]) bT (by kernel_rfl) (aV be) (tk 3 z) <| aa [.fa 63 0 0 oy] z <| br z (ax z) (r1 0 2 z ty9 z) <| br z (ax z) (lP z z z a3) <| aa [.fa 63 2 2 lu] z <| br z (ax z) (r1 2 2 z ja z) <| aa [.fa 66 1 1 ly] z <| br z (ax z) (r1 1 1 z ty3 z) <| aq z Cc z z z z (fun d a => kd d a5 (a.carve [] z z) (ab t d a)) fun c3 d w2 a C => ?_
    obtain ⟨c4, c5, c6, c7, rfl, o⟩ := C
    obtain rfl := aH (i := 0) o z
    refine ⟨St w [] [_, _, _, _], a.comp [] z z o, (tk 3 z), ?_⟩
    exact xa (e := da) (xs := a4) (j := p1.c_) z z z z z z ek ty9 z (fun d a => au (e := af (da) 9) (r := 3) z d a) v (by rw [Nat.mul_one]) <| tR z z (ax z) (aF z z ty9 (bC (fun d a => au (e := af (da) 9) (r := 3) z d a) v)) <| aJ <| cK <| bE H fun c8 a6 H => o1 z (lP z z z a6) <| oP z <| nT <| xr 4 z (by cases H; exact q1)
theorem rq (w : World) {p0 : ae} {p1 : aR} {E : List Value} {F : List Value} {r : List UInt8} (H : kl p0 p1 = U r) (g0 : (aX).rd w [] p0 E) (g1 : (aD).rd w [] p1 F) (gT : (ol Tryz.prog).rd w [] () []) :
    Calls Tryz.prog 52 #[.agg E.toArray, .agg F.toArray] w (fun en w' => en = .returned (vS r) ∧ Ext [] w w') := by
 obtain ⟨e4, e5, rfl, q, h⟩ := aI g0
 obtain ⟨a9, b0, rfl⟩ := am q
 obtain ⟨b1, b2, rfl⟩ := am h
 obtain ⟨e6, e7, e9, f0, f1, f2, f3, f4, f5, f6, rfl, b3, b4, s, b5, b6, b7, G, b8, b9, c0⟩ := bn g1
 obtain rfl := b3
 obtain rfl := b4
 obtain ⟨L, M, rfl⟩ := am s
 obtain rfl := b5
 obtain ⟨f7, f8, rfl, l, u⟩ := aL b6
 obtain ⟨c1, c2, rfl⟩ := am l
 obtain ⟨c3, c4, rfl⟩ := am u
 obtain rfl := b7
 obtain ⟨c5, c6, rfl⟩ := am G
 obtain rfl := b8
 obtain rfl := b9
 obtain rfl := c0
 unfold kl at H
 refine aG Tryz.func52 z Tryz.ntmps52 z (St.init w []) <| sR <| ob _ z fun P => ob _ z fun Q => oP z <| nQ <| ak <| sR <| aa [.fa 71 0 0 ls] z <| o1 z (r1 0 1 z ty4 z) <| nQ <| cI H z (fun H => ?_) (fun H => ?_)
 ·refine ak <| sR <| o1 z (rx 0 0 _ z bU z) <| aa [.fa 71 4 5 eR] z <| o1 z (rx 5 1 _ z cP z) <| bE H fun f9 c7 H => oq z (qc z Cl (fun c a => oH c c7 (ah (ab q c a) (ab h c a)) (aE (ab l c a) (ab u c a)))) tt2 <| oP z <| nQ <| cI H z (fun H => ?_) (fun H => ?_)
  ·exact sR <| oP z <| nT <| ap <| ap <| xr 4 z (by cases H; exact q1)
  ·refine aw <| az <| sR <| oP z <| nQ <| wD (fun (d : List UInt8) => St w [] [b P 27 [S a9 p0.b_.length b0, S b1 p0.k_.length b2], b Q 71 [B p1.s_, I J p1.l_.g_, I J p1.l_.c_, S L p1.r_.length M, I J p1.w_, S c1 p1.n_.e_.length c2, S c3 p1.n_.d_.length c4, I J p1.v_, S c5 p1.b_.length c6, I J p1.m_, I J p1.o_, I J p1.p_]]) (fun d => [(2, O (U ⟨P, 0, N⟩)), (3, O (U ⟨Q, 0, N⟩)), (5, vS d)]) (fun d => gO p1 p0 d = U r) (fun d H => ?_) (fun J1 => ?_)
   ·unfold gO at H
    exact ak <| oa 16 bT (by kernel_rfl) <| aa [.p, .fa 71 4 5 eR, .fa 69 0 0 hG] z <| o1 z (r1 5 1 z cw z) <| bE H fun R c9 H => oq z (qc z Du (fun c a => qf c c9 (ab l c a) (ab gT c a))) tt2 <| aa [.fa 27 1 1 fZ] z <| o1 z (r1 1 0 z ja z) <| aa [.fa 71 4 5 eR, .fa 69 0 0 hG] z <| o1 z (r1 5 1 z cw z) <| bE H fun d0 d1 H => oq z (qc z DH (fun c a => tx c d1 (ab l c a))) tt2 <| bE H fun X Z H => bq (e := da) (xs := p0.k_) (j := d0) z z z z z ek ty9 z (ab h) Z (by rw [Nat.mul_one]) <| o1 z (aF z z ty9 (bC (ab h) Z)) <| aa [.fa 71 5 7 mh] z <| o1 z (r1 7 1 z ty3 z) <| bE H fun a0 d2 H => oq z (qc z xC (fun c a => iS c d2 (ab gT c a))) tt2 <| cx <| bA (val := vS) (h1 := fun _ => z) [d, R, X, ([115, 105, 110, 99, 101] : List UInt8), a0] [(0, [vS d]), (1, [vS R]), (2, [vS X]), (3, [vS ([115, 105, 110, 99, 101] : List UInt8)]), (4, [vS a0])] z z z z z ek ty9 z z z ⟨z, z, nl z, z, z, nl z, z, z, nl z, z, z, nl z, z, z, nl z, Y⟩ z z (fun _ => kp) fun g2 => bE H fun g3 d3 H => oq z (qc z BD (fun c a => uG (T := 9) Tryz.lays156 Tryz.Builder_Extra_156 c d3 (au (e := af (da) 9) (r := 2) z c a))) tt2 <| oP z <| nT <| ap <| xr 4 z (by cases H; exact q1)
   ·refine sR <| o1 z (rx 0 1 _ z cc z) <| bE H fun g4 d4 H => oq z (qc z Ec (fun c a => sQ c d4 (gU z z (ab s c a) z (aE (ab l c a) (ab u c a)) z (ab G c a) z z z))) tt2 <| nQ <| cI H z (fun H => ?_) (fun H => ?_)
    ·exact aT <| oP z <| ay <| XW.at (J1 (([108, 101, 97, 102] : List UInt8)) (H)) (ss [0, 1] z z) (sb z)
    ·exact aw <| XW.at (J1 (([116, 104, 105, 110] : List UInt8)) (H)) (ss [0, 1] z z) (sb z)
 ·refine aw <| az <| ak <| sR <| o1 z (rx 0 0 _ z bU z) <| aa [.fa 71 1 1 mL] z <| o1 z (rx 1 1 _ z cH z) <| bE H fun g5 d5 H => oq z (qc z Bq (fun c a => mF c (p1 := p1.l_) d5 (ah (ab q c a) (ab h c a)))) tt2 <| oP z <| nQ <| cI H z (fun H => ?_) (fun H => ?_)
  ·exact sR <| oP z <| nT <| ap <| xr 4 z (by cases H; exact q1)
  ·refine aw <| az <| ak <| oa 7 bT (by kernel_rfl) <| o1 z (rx 0 0 _ z bU z) <| aa [.fa 71 1 1 mL] z <| o1 z (rx 1 1 _ z cH z) <| bE H fun v d6 H => oq z (qc z DV (fun c a => rc c (p1 := p1.l_) d6 (ah (ab q c a) (ab h c a)) (ab gT c a))) tt2 <| aa [.fa 71 3 4 qn] z <| o1 z (r1 4 1 z ty3 z) <| bE H fun x d7 H => oq z (qc z xC (fun c a => iS c d7 (ab gT c a))) tt2 <| cx <| bA (val := vS) (h1 := fun _ => z) [v, ([109, 105, 115, 115] : List UInt8), x] [(0, [vS v]), (1, [vS ([109, 105, 115, 115] : List UInt8)]), (2, [vS x])] z z z z z ek ty9 z z z ⟨z, z, nl z, z, z, nl z, z, z, nl z, Y⟩ z z (fun _ => kp) fun a1 => oP z <| nQ <| ak <| sR <| aa [.fa 71 2 3 gV] z <| o1 z (r1 3 1 z cw z) <| aa [.lenS 31 3 aO, .p] z <| nQ <| aB <| CW.at (iz (fun (f : Int) (g : List (List UInt8)) (k : Option Addr) (m : Nat) (t : List Nat) => St w [] [W (af (da) 9) t g [S k g.length m]]) (fun f g k m t => [(6, S k g.length m), (50, S L p1.r_.length M), (51, I J (p1.r_.length : Int)), (52, I J f)]) (fun kk => fun f g k m t => k.isNone = n ∧ dT p1 kk f g = U r) (fun _ _ _ _ _ H => ?_) (fun k1 a2 f g k m t ⟨e0, H⟩ => ?_) bh (0) (([v, ([109, 105, 115, 115] : List UInt8), x] : List (List UInt8))) ((U ⟨a1, 0, N⟩)) (3) ([a1]) (⟨z, H⟩)) (ss [2] z z) (sb z)
   ·unfold dT at H
    exact absurd H (by simp)
   ·unfold dT at H
    refine sR <| oP z <| nQ <| ak <| cI H z (fun H => ?_) (fun H => ?_)
    ·exact aw <| az <| ak <| aB <| sR <| bE H fun e1 A H => bq (e := eI) (xs := p1.r_) (j := f) z z z z z aO ty3 z (ab s) A (by rw [Nat.mul_one]) <| o1 z (aF z z ty3 (bC (ab s) A)) <| oP z <| nQ <| aT <| oPP z <| bE H fun o a3 H => oq z (qc z xC (fun c a => iS c a3 (ab gT c a))) tt2 <| bA (val := vS) (h1 := fun _ => z) [o] [(0, [vS o])] z z z z z ek ty9 z z z ⟨z, z, nl z, Y⟩ z z (fun _ => kp) fun e2 => bE H fun a4 C H => bY (r := 0) (ys := ([o] : List (List UInt8))) z z z z z z ek ty9 z z z (fun c a => au (e := af (da) 9) (r := 1) z c a) C (fun _ _ _ => kp) fun a5 a6 a7 => cg z (fun c a => eD (i := 0) a z (eG C)) fun D => oP z <| ay <| ca <| az <| aT <| oPP z <| ay <| cQ (RW.at (a2 (J.wrap (f + 1)) (a4) (a5) (a6) (a7) (⟨D, H⟩)) (ss [0] z z) (sb z))
    ·exact bH <| aN <| aS <| aM <| az <| sR <| oP z <| bE H fun e3 a8 H => oq z (qc z BD (fun c a => uG (T := 9) Tryz.lays156 Tryz.Builder_Extra_156 c a8 (au (e := af (da) 9) (r := 0) z c a))) tt2 <| oP z <| nT <| xr 4 z (by cases H; exact q1)
theorem ru (w : World) {p0 : ae} {p1 : aj} {E : List Value} {F : List Value} {r : List UInt8} (H : iF p0 p1 = U r) (g0 : (aX).rd w [] p0 E) (g1 : (cU).rd w [] p1 F) (gT : (ol Tryz.prog).rd w [] () []) :
    Calls Tryz.prog 20 #[.agg E.toArray, .agg F.toArray] w (fun en w' => en = .returned (vS r) ∧ Ext [] w w') := by
 obtain ⟨e4, e5, rfl, g, h⟩ := aI g0
 obtain ⟨b2, b3, rfl⟩ := am g
 obtain ⟨b4, b5, rfl⟩ := am h
 obtain ⟨e6, e7, rfl, i, b6⟩ := cr g1
 obtain ⟨b7, b8, rfl⟩ := am i
 obtain rfl := b6
 unfold iF at H
 refine aG Tryz.func20 z Tryz.ntmps20 z (St.init w []) <| sR <| ob _ z fun G => ob _ z fun e9 => oP z <| nQ <| ak <| sR <| o1 z (rx 0 0 _ z bU z) <| o1 z (rx 0 1 _ z bv z) <| bE H fun f0 b9 H => oq z (qc z DF (fun d c => sr d b9 (ah (ab g d c) (ab h d c)) (aU (ab i d c) z))) tt2 <| oP z <| nQ <| cI H z (fun H => ?_) (fun H => ?_)
 ·exact sR <| oP z <| nT <| ap <| xr 4 z (by cases H; exact q1)
 ·refine aw <| az <| sR <| oP z <| nQ <| ak <| sR <| aa [.fa 30 0 0 cb] z <| o1 z (r1 0 1 z ef z) <| aa [.lenS 28 71 dZ, .p] z <| nQ <| aB <| CW.at (ic (fun (e : Int) (f : List UInt8) => St w [] [b G 27 [S b2 p0.b_.length b3, S b4 p0.k_.length b5]]) (fun e f => [(2, O (U ⟨G, 0, N⟩)), (5, vS f), (13, S b7 p1.a_.length b8), (14, I J (p1.a_.length : Int)), (15, I J e)]) (fun kk => fun e f => dV p1 p0 kk e f = U r) (fun _ _ H => ?_) (fun k1 L e f H => ?_) bh (0) (([] : List UInt8)) (H)) (ss [0] z z) (sb z)
  ·unfold dV at H
   exact absurd H (by simp)
  ·unfold dV at H
   refine sR <| oP z <| nQ <| ak <| cI H z (fun H => ?_) (fun H => ?_)
   ·refine aw <| az <| ak <| aB <| sR <| oP z <| bE H fun a M H => cB z z z z z dZ cc z i M fun c2 c3 C D => ?_
    obtain ⟨c4, c5, c6, c7, c8, c9, d0, d1, d2, d3, rfl, P, Q, j, R, X, Z, k, a0, a1, a2⟩ := bn C
    obtain rfl := P
    obtain rfl := Q
    obtain ⟨l, m, rfl⟩ := am j
    obtain rfl := R
    obtain ⟨d4, d5, rfl, o, q⟩ := aL X
    obtain ⟨s, t, rfl⟩ := am o
    obtain ⟨u, v, rfl⟩ := am q
    obtain rfl := Z
    obtain ⟨x, A, rfl⟩ := am k
    obtain rfl := a0
    obtain rfl := a1
    obtain rfl := a2
    exact o1 z (cV (cs := [B a.s_, I J a.l_.g_, I J a.l_.c_, S l a.r_.length m, I J a.w_, S s a.n_.e_.length t, S u a.n_.d_.length v, I J a.v_, S x a.b_.length A, I J a.m_, I J a.o_, I J a.p_]) z z cc (co bor D) z) <| aC z z z z cc (fun _ => kp) fun d6 => oP z <| sC 0 [B a.s_, I J a.l_.g_, I J a.l_.c_, S l a.r_.length m, I J a.w_, S s a.n_.e_.length t, S u a.n_.d_.length v, I J a.v_, S x a.b_.length A, I J a.m_, I J a.o_, I J a.p_] [_, _, _, _, _, _, _, _, _, _, _, _] 1 z cc z <| nQ <| dJ bT (by kernel_rfl) <| aa [.p, .fa 71 7 9 ke] z <| o1 z (r1 9 1 z ty3 z) <| bE H fun d7 a3 H => oq z (qc z Dy (fun d _ => xj Tryz.lays105 Tryz.Builder_Extra_105 d a3)) tt2 <| oP z <| bE H fun d8 a4 H => oq z (qc z xC (fun d c => iS d a4 (ab gT d c))) tt2 <| bE H fun d9 a5 H => o1 z (lP z z z a5) <| bE H fun e0 a6 H => o1 z (lP z z z a6) <| o1 z (rx 0 0 _ z bU z) <| o1 z (rx 0 1 _ z cc z) <| bE H fun e1 a7 H => oq z (qc z DC (fun d c => rq d a7 (ah (ab g d c) (ab h d c)) (gU z z (ab j d c) z (aE (ab o d c) (ab q d c)) z (ab k d c) z z z) (ab gT d c))) tt2 <| bE H fun e2 a8 H => o1 z (lP z z z a8) <| bE H fun e3 a9 H => o1 z (lP z z z a9) <| bE H fun b0 b1 H => o1 z (lP z z z b1) <| oP z <| cx <| ca <| az <| aT <| oPP z <| ay <| cQ (RW.at (L (J.wrap (e + 1)) (b0) (H)) (ss [0] z z) (sb z))
   ·exact bH <| aN <| aS <| aM <| az <| sR <| oPP z <| nT <| xr 4 z (by cases H; exact q1)
theorem rR (w : World) {p0 : List Int} {a_0 : Option Addr} {n_0 c_0 : Nat} {r : List UInt8} (H : lg p0 = U r) (q : (af e8 5).rd w [] p0 [S a_0 n_0 c_0]) :
    Calls Tryz.prog 22 #[S a_0 n_0 c_0] w (fun en w' => en = .returned (vS r) ∧ Ext [] w w') := by
 obtain rfl := ee q
 unfold lg at H
 refine aG Tryz.func22 z Tryz.ntmps22 z (St.init w []) <| sR <| oP z <| nR <| bM (e := e8) z z z z lB ty5 (fun _ => kp) fun l => oP z <| nQ <| ak <| sR <| aa [.p, .lenS 22 5 lB, .p] z <| nQ <| aB <| CW.at (iz (fun (a : List Int) (c : Option Addr) (f : Nat) (g : List Nat) (d : Int) => St w [] [W (af e8 5) g a [S c a.length f]]) (fun a c f g d => [(3, S c a.length f), (7, S a_0 p0.length c_0), (8, I J (p0.length : Int)), (9, I J d)]) (fun kk => fun a c f g d => c.isNone = n ∧ dK p0 kk a d = U r) (fun _ _ _ _ _ H => ?_) (fun P t a c f g d ⟨G, H⟩ => ?_) bh (([] : List Int)) ((U ⟨l, 0, N⟩)) (0) ([l]) (0) (⟨z, H⟩)) (ss [0] z z) (sb z)
 ·unfold dK at H
  exact absurd H (by simp)
 ·unfold dK at H
  refine sR <| oP z <| nQ <| ak <| cI H z (fun H => ?_) (fun H => ?_)
  ·exact aw <| az <| ak <| aB <| sR <| bE H fun L m H => bq (e := e8) (xs := p0) (j := d) z z z z z lB ty5 z (ab q) m (by rw [Nat.mul_one]) <| o1 z (aF z z ty5 (bC (ab q) m)) <| oP z <| nQ <| cW 8 [(0, y), (1, y), (2, y), (3, y), (4, y), (5, y), (6, y), (7, n)] (St w [] [W (af e8 5) g a [S c a.length f]]) bT (by kernel_rfl) (bF (aV (fe (bF (aV be))))) (tk 1 z) <| aa [.p, .p, .p] z <| bE H fun h v H => br z (ax z) (lO (s := ([48, 49, 50, 51, 52, 53, 54, 55, 56, 57, 97, 98, 99, 100, 101, 102] : List UInt8)) z z z st9 v) <| oPP z <| bE H fun k x H => br z (ax z) (lO (s := ([48, 49, 50, 51, 52, 53, 54, 55, 56, 57, 97, 98, 99, 100, 101, 102] : List UInt8)) z z z st9 x) <| bA (val := I K) (h1 := fun _ => z) [(h.toNat : Int), (k.toNat : Int)] [(0, [I K (h.toNat : Int)]), (1, [I K (k.toNat : Int)])] z z z z z lB ty5 z z z ⟨z, z, nl z, z, z, nl z, Y⟩ z z (fun _ => (tk 1 z)) fun M => aJ <| iY <| bE H fun A o H => bY (r := 0) (ys := ([(h.toNat : Int), (k.toNat : Int)] : List Int)) z z z z z z lB ty5 z z z (au (e := af e8 5) (r := 1) z) o (fun _ _ _ => kp) fun C D E => cg z (fun Q F => eD (i := 0) F z (eG o)) fun u => oP z <| ay <| ca <| az <| aT <| oPP z <| ay <| cQ (RW.at (t (A) (C) (D) (E) (J.wrap (d + 1)) (⟨u, H⟩)) (ss [0] z z) (sb z))
  ·exact bH <| aN <| aS <| aM <| az <| sR <| oP z <| o1 z (wa (xs := a) z z lB in5 st9 (au (e := af e8 5) (r := 0) z)) <| oP z <| nT <| xr 2 z (by cases H; exact q1)
theorem mp (w : World) {p0 : List UInt8} {p1 : Int} {r : Int} (H : ie p0 p1 = U r)   :
    Calls Tryz.prog 93 #[vS p0, I K p1] w (fun en w' => en = .returned (I J r) ∧ Ext [] w w') := by
 unfold ie at H
 exact aG Tryz.func93 z Tryz.ntmps93 z (St.init w []) <| sR <| oP z <| nR <| oPP z <| o1 z (Bs z Bv z z) <| oP z <| nT <| xr 4 z (by cases H; exact q1)
theorem kr (w : World) {p0 : List UInt8} {p1 : Int} {r : Int} (H : fO p0 p1 = U r)   :
    Calls Tryz.prog 53 #[vS p0, I K p1] w (fun en w' => en = .returned (I J r) ∧ Ext [] w w') := by
 unfold fO at H
 exact aG Tryz.func53 z Tryz.ntmps53 z (St.init w []) <| sR <| oP z <| nR <| oPP z <| bE H fun d a H => oq z (qc z DU (fun c e => mp c a)) tt2 <| oP z <| nT <| xr 4 z (by cases H; exact q1)
theorem tG (w : World) {t : List Nat} {p0 : List UInt8} {r : (List Int) × Bool} (H : mN p0 = U r) (HS : St w t [] w) :
    Calls Tryz.prog 21 #[vS p0] w (fun en w' => ∃ v, en = .returned v ∧ ∃ (A : Option Addr), ∃ (C : Nat), ∃ (c0 : Nat), ∃ (Z : List Nat), v = .tuple #[S A C c0, B r.2] ∧ St w t [W (af e8 5) Z r.1 [S A C c0]] w') := by
 unfold mN at H
 refine aG Tryz.func21 z Tryz.ntmps21 z (HS) <| sR <| oPP z <| nQ <| ak <| sR <| aa [.p, .lenT 9 st9, .p, .p] z <| nQ <| cI H z (fun H => ?_) (fun H => ?_)
 ·exact sR <| oPP z <| nT <| ap <| fo (fun _ h => St.pushNil (e := e8) (T := 5) h) <| aY (rs := [.tmp 2, .tmp 3]) (vs := [S N 0 0, B n]) z ⟨z, z, Y⟩ (fun w' hw' => by
   obtain rfl := ai H
   exact ⟨_, z, N, 0, 0, [], z, hw'.sel [0] z z⟩)
 ·refine aw <| az <| sR <| bM (e := e8) z z z z lB ty5 (fun _ => kp) fun o => oP z <| nQ <| ak <| sR <| oP z <| nQ <| aB <| CW.at (iz (fun (a : List Int) (c : Option Addr) (d : Nat) (k : List Nat) (f : Int) => St w t [W (af e8 5) k a [S c a.length d]]) (fun a c d k f => [(0, vS p0), (4, S c a.length d), (5, I J f)]) (fun kk => fun a c d k f => c.isNone = n ∧ eQ p0 kk a f = U r) (fun _ _ _ _ _ H => ?_) (fun k1 u a c d k f ⟨a1, H⟩ => ?_) bh (([] : List Int)) ((U ⟨o, 0, N⟩)) (0) ([o]) (0) (⟨z, H⟩)) (ss [0] z z) (sb z)
  ·unfold eQ at H
   exact absurd H (by simp)
  ·unfold eQ at H
   refine ak <| sR <| aa [.p, .p, .lenT 9 st9, .p] z <| nQ <| cI H z (fun H => ?_) (fun H => ?_)
   ·refine aw <| az <| ak <| aB <| ak <| dJ bT (by kernel_rfl) <| oPP z <| bE H fun a2 D H => o1 z (lO (s := p0) z z z st9 D) <| bE H fun g E H => oq z (qc z Cb (fun m l => kr m E)) tt2 <| aa [.p, .p, .p] z <| bE H fun a3 F H => o1 z (lO (s := p0) z z z st9 F) <| bE H fun j G H => oq z (qc z Cb (fun m l => kr m G)) tt2 <| oPP z <| cx <| az <| ak <| sR <| aa [.p, .p, .p] z <| aQ [(33, B ((decide (g < 0)) || (decide (j < 0)))), (0, vS p0), (4, S c a.length d), (5, I J f), (6, I J g), (7, I J j)] 3 ?_ (fun key => OW.sub (R := [(0, vS p0), (4, S c a.length d), (5, I J f), (6, I J g), (7, I J j), (30, B (decide (g < 0)))]) ?_ (sb z))
    ·refine nQ <| cI H z (fun H => ?_) (fun H => ?_)
     ·exact sR <| oPP z <| nT <| ap <| aP <| ap <| bZ <| aP <| ap <| fo (fun _ h => St.pushNil (e := e8) (T := 5) h) <| aY (rs := [.tmp 2, .tmp 3]) (vs := [S N 0 0, B n]) z ⟨z, z, Y⟩ (fun w' hw' => by
       obtain rfl := ai H
       exact ⟨_, z, N, 0, 0, [], z, hw'.sel [1] z z⟩)
     ·exact aw <| az <| aT <| aa [.p, .p, .p, .p, .p, .cv 3 5 K us3 in5] z <| bA (val := I K) (h1 := fun _ => z) [K.wrap (iI .or J (vn J g 4) j)] [(0, [I K (K.wrap (iI .or J (vn J g 4) j))])] z z z z z lB ty5 z z z ⟨z, z, nl z, Y⟩ z z (fun _ => kp) fun a4 => bE H fun L q H => bY (r := 0) (ys := ([K.wrap (iI .or J (vn J g 4) j)] : List Int)) z z z z z z lB ty5 z z z (au (e := af e8 5) (r := 1) z) q (fun _ _ _ => kp) fun M P Q => cg z (fun m l => eD (i := 0) l z (eG q)) fun x => oP z <| ay <| ca <| az <| aT <| aa [.p, .p, .p] z <| ay <| cQ (RW.at (u (L) (M) (P) (Q) (J.wrap (f + 2)) (⟨x, H⟩)) (ss [0] z z) (sb z))
    ·generalize (decide (g < 0)) = X at key ⊢
     cases X
     ·exact oPP z <| oP z <| OW.sub key (sb z)
     ·exact aa [.p, .p, .p] z <| OW.sub key (sb z)
   ·exact bH <| aN <| aS <| aM <| az <| sR <| aa [.p, .p, .p] z <| nT <| aY (rs := [.tmp 2, .tmp 3]) (vs := [S c a.length d, B y]) z ⟨z, z, Y⟩ (fun w' hw' => by
     obtain rfl := ai H
     exact ⟨_, z, c, a.length, d, k, z, hw'.sel [0] z z⟩)
theorem tD (w : World) {t : List Nat} {p0 : List UInt8} {p1 : Int} {r : List (List UInt8)} (H : mR p0 p1 = U r) (HS : St w t [] w) :
    Calls Tryz.prog 23 #[vS p0, I K p1] w (fun en w' => ∃ v, en = .returned v ∧ ∃ (A : Option Addr), ∃ (C : Nat), ∃ (c0 : Nat), ∃ (Z : List Nat), v = S A C c0 ∧ St w t [W (af (da) 9) Z r [S A C c0]] w') := by
 unfold mR at H
 refine aG Tryz.func23 z Tryz.ntmps23 z (HS) <| sR <| oP z <| nR <| bM (e := da) z z z z ek ty9 (fun _ => kp) fun o => oP z <| nR <| oP z <| nQ <| ak <| sR <| oP z <| nQ <| aB <| CW.at (uN (fun (a : List (List UInt8)) (d : Option Addr) (f : Nat) (h : List Nat) (g : Int) (c : Int) => St w t [W (af (da) 9) h a [S d a.length f]]) (fun a d f h g c => [(0, vS p0), (1, I K p1), (5, S d a.length f), (6, I J g), (7, I J c)]) (fun kk => fun a d f h g c => d.isNone = n ∧ fq p0 p1 kk a g c = U r) (fun _ _ _ _ _ _ H => ?_) (fun k1 j a d f h g c ⟨u, H⟩ => ?_) bh (([] : List (List UInt8))) ((U ⟨o, 0, N⟩)) (0) ([o]) (0) (0) (⟨z, H⟩)) (ss [0] z z) (sb z)
 ·unfold fq at H
  exact absurd H (by simp)
 ·unfold fq at H
  refine ak <| sR <| aa [.p, .p, .lenT 9 st9, .p] z <| nQ <| cI H z (fun H => ?_) (fun H => ?_)
  ·refine aw <| az <| ak <| aB <| sR <| aa [.p, .p, .lenT 9 st9, .p, .p] z <| bE H fun D k H => aQ [(25, B D), (0, vS p0), (1, I K p1), (5, S d a.length f), (6, I J g), (7, I J c)] 6 ?_ (fun key => OW.sub (R := [(0, vS p0), (1, I K p1), (5, S d a.length f), (6, I J g), (7, I J c), (19, B (c == (p0.length : Int)))]) ?_ (sb z))
   ·refine nQ <| cI H z (fun H => ?_) (fun H => ?_)
    ·exact sR <| aa [.p, .p, .p, .p] z <| bE H fun l E H => o1 z (zR (s := p0) z z st9 z z E) <| bA (val := vS) (h1 := fun _ => z) [l] [(0, [vS l])] z z z z z ek ty9 z z z ⟨z, z, nl z, Y⟩ z z (fun _ => kp) fun a1 => bE H fun F q H => bY (r := 0) (ys := ([l] : List (List UInt8))) z z z z z z ek ty9 z z z (fun G m => au (e := af (da) 9) (r := 1) z G m) q (fun _ _ _ => kp) fun L M P => cg z (fun G m => eD (i := 0) m z (eG q)) fun x => oP z <| nQ <| aT <| aa [.p, .p, .p] z <| ay <| ca <| az <| aT <| aa [.p, .p, .p] z <| ay <| cQ (RW.at (j (F) (L) (M) (P) (J.wrap (c + 1)) (J.wrap (c + 1)) (⟨x, H⟩)) (ss [0] z z) (sb z))
    ·exact aw <| ca <| az <| aT <| aa [.p, .p, .p] z <| ay <| cQ (RW.at (j (a) (d) (f) (h) (g) (J.wrap (c + 1)) (⟨u, H⟩)) (ss [0] z z) (sb z))
   ·clear H
    have H := k
    clear k
    generalize (c == (p0.length : Int)) = Q at H key ⊢
    cases Q
    ·have H := ba z H
     refine oPP z <| bE H fun a2 X H => o1 z (lO (s := p0) z z z st9 X) <| oPP z <| oP z <| ?_
     obtain rfl := ai H
     exact OW.sub key (sb z)
    ·have H := bb z H
     refine aa [.p, .p, .p, .p, .p, .p] z ?_
     obtain rfl := ai H
     exact OW.sub key (sb z)
  ·exact bH <| aN <| aS <| aM <| az <| sR <| oPP z <| nT <| aY (rs := [.tmp 4]) (vs := [S d a.length f]) z ⟨z, Y⟩ (fun w' hw' => by
    obtain rfl := ai H
    exact ⟨_, z, d, a.length, f, h, z, hw'.sel [0] z z⟩)
theorem pL (w : World) {p0 : List Int} {a_0 : Option Addr} {n_0 c_0 : Nat} {r : Bool} (H : jI p0 = U r) (F : (af e8 5).rd w [] p0 [S a_0 n_0 c_0]) (gT : (ol Tryz.prog).rd w [] () []) :
    Calls Tryz.prog 4 #[S a_0 n_0 c_0] w (fun en w' => en = .returned (B r) ∧ Ext [] w w') := by
 obtain rfl := ee F
 unfold jI at H
 refine aG Tryz.func4 z Tryz.ntmps4 z (St.init w []) <| sR <| oP z <| nQ <| ak <| sR <| oP z <| bE H fun b9 a2 H => oq z (qc z fn5 (fun d a => vC d a2 (ab F d a))) tt2 <| nQ <| cI H z (fun H => ?_) (fun H => ?_)
 ·exact sR <| oP z <| nT <| ap <| xr 2 z (by cases H; exact q1)
 ·refine aw <| az <| sR <| oP z <| bE H fun c a3 H => aq z DX z z z z (fun d a => pl d a3 (a.carve [] z z) (ab F d a)) fun c2 d Q a X => ?_
  obtain ⟨j, c3, k, a4, l, c4, m, a5, o, c5, q, a6, rfl, h⟩ := X
  obtain rfl := aH (i := 0) h z
  obtain rfl := aH (i := 1) h z
  obtain rfl := aH (i := 2) h z
  refine ⟨St w [] [_, _, _], a.comp [] z z h, fun _ _ => Y, ?_⟩
  refine aa [.p, .p, .p] z <| aC z z z z bU (fun _ => kp) fun v => aC z z z z bv (fun _ => kp) fun A => sC 0 [S j c.1.b_.length k, S l c.1.k_.length m] [_, _] 3 z bU z <| sC 0 [S o c.2.a_.length q, I J c.2.j_] [_, _] 4 z bv z <| nR <| oP z <| bE H fun t a7 H => aq z DY z z z z (fun d a => pM d a7 (a.carve [] z z) (ab F d a)) fun c6 d Q a Z => ?_
  obtain ⟨G, c7, L, a8, rfl, C⟩ := Z
  obtain rfl := aH (i := 0) C z
  refine ⟨St w [] [_, _, _, _, _, _], a.comp [] z z C, fun _ _ => Y, ?_⟩
  refine oP z <| nR <| o1 z (rx 0 3 _ z bU z) <| o1 z (rx 0 4 _ z bv z) <| bE H fun g a9 H => oq z (qc z DJ (fun d a => ru d a9 (ah (x := c.1) (c0 := [S j c.1.b_.length k]) (c1 := [S l c.1.k_.length m]) (au (e := af (cf) 63) (r := 0) z d a) (au (e := af (da) 9) (r := 1) z d a)) (aU (x := c.2) (c0 := [S o c.2.a_.length q]) (c1 := [I J c.2.j_]) (au (e := af (aD) 71) (r := 2) z d a) z) (ab gT d a))) tt2 <| oP z <| nR <| oP z <| bE H fun c8 b0 H => oq z (qc z Dt (fun d a => rR d b0 (au (e := af e8 5) (r := 5) z d a))) tt2 <| bE H fun f b1 H => aq z DP z z z z (fun d a => tG d b1 (a.carve [] z z)) fun c9 d Q a a0 => ?_
  obtain ⟨M, d0, P, b2, rfl, D⟩ := a0
  obtain rfl := aH (i := 0) D z
  refine ⟨St w [] [_, _, _, _, _, _, _], a.comp [] z z D, fun _ _ => Y, ?_⟩
  refine aa [.p, .p, .p, .p, .p] z <| nQ <| ak <| sR <| aa [.p, .p, .p] z <| aQ [(35, B ((!f.2) || (!((hZ f.1) == (hZ t))))), (3, O (U ⟨v, 0, N⟩)), (4, O (U ⟨A, 0, N⟩)), (6, vS g)] 6 ?_ (fun key => OW.sub (R := [(3, O (U ⟨v, 0, N⟩)), (4, O (U ⟨A, 0, N⟩)), (5, S G t.length L), (6, vS g), (7, S M f.1.length P), (29, B (!f.2))]) ?_ (sb z))
  ·refine nQ <| cI H z (fun H => ?_) (fun H => ?_)
   ·exact sR <| oP z <| nT <| ap <| xr 2 z (by cases H; exact q1)
   ·refine aw <| az <| ak <| sR <| o1 z (rx 0 3 _ z bU z) <| o1 z (rx 0 4 _ z bv z) <| bE H fun d1 b3 H => oq z (qc z fn8 (fun d a => iN d b3 (ah (x := c.1) (c0 := [S j c.1.b_.length k]) (c1 := [S l c.1.k_.length m]) (au (e := af (cf) 63) (r := 0) z d a) (au (e := af (da) 9) (r := 1) z d a)) (aU (x := c.2) (c0 := [S o c.2.a_.length q]) (c1 := [I J c.2.j_]) (au (e := af (aD) 71) (r := 2) z d a) z))) tt2 <| oP z <| nQ <| cI H z (fun H => ?_) (fun H => ?_)
    ·exact sR <| aa [.p, .p, .p] z <| nT <| ap <| xr 2 z (by cases H; exact q1)
    ·refine aw <| az <| ak <| cW 18 [(0, y), (3, y), (4, y), (5, y), (6, y), (1, n), (2, y), (7, y), (8, y), (9, y), (10, y), (11, y), (12, y), (13, y), (14, y), (15, y), (16, y), (17, y)] (St w [] [W (af (cf) 63) a4 c.1.b_ [S j c.1.b_.length k], W (af (da) 9) a5 c.1.k_ [S l c.1.k_.length m], W (af (aD) 71) a6 c.2.a_ [S o c.2.a_.length q], b v 27 [S j c.1.b_.length k, S l c.1.k_.length m], b A 30 [S o c.2.a_.length q, I J c.2.j_], W (af e8 5) a8 t [S G t.length L], W (af e8 5) b2 f.1 [S M f.1.length P]]) bT (by kernel_rfl) (aV be) (tk 7 z) <| aa [.p, .fa 30 0 0 cb] z <| br z (ax z) (r1 0 4 z ef z) <| aa [.lenS 28 71 dZ, .p] z <| bE H fun u b4 H => aq z DI z z z z (fun d a => tD d b4 (a.carve [] z z)) fun d2 d Q a a1 => ?_
     obtain ⟨d3, d4, d5, d6, rfl, E⟩ := a1
     obtain rfl := aH (i := 0) E z
     refine ⟨St w [] [_, _, _, _, _, _, _, _], a.comp [] z z E, (tk 7 z), ?_⟩
     refine aa [.lenS 25 9 ek, .p, .p] z <| aQ [(54, B (((u.length : Int) == (J.wrap ((c.2.a_.length : Int) + 1))) && (decide ((g.length : Int) > 0)))), (6, vS g)] 4 ?_ (fun key => OW.sub (R := [(6, vS g), (50, B ((u.length : Int) == (J.wrap ((c.2.a_.length : Int) + 1))))]) ?_ (sb z))
     ·refine aa [.p] z ?_
      generalize (((u.length : Int) == (J.wrap ((c.2.a_.length : Int) + 1))) && (decide ((g.length : Int) > 0))) = b5 at H ⊢
      cases b5
      ·have H := ba z H
       exact aa [.p, .p, .p, .p] z <| aJ <| iY <| aa [.p, .p, .p, .p] z <| nT <| xr 2 z (by cases H; exact q1)
      ·have H := bb z H
       exact aa [.p, .p, .lenT 9 st9, .p] z <| aJ <| iY <| bE H fun d7 b6 H => o1 z (lO (s := g) z z z st9 b6) <| aa [.p, .p, .p] z <| nT <| xr 2 z (by cases H; exact q1)
     ·generalize ((u.length : Int) == (J.wrap ((c.2.a_.length : Int) + 1))) = b7 at key ⊢
      cases b7
      ·exact aa [.p, .p, .p, .p] z <| OW.sub key (sb z)
      ·exact aa [.p, .lenT 9 st9, .p] z <| oP z <| OW.sub key (sb z)
  ·generalize (!f.2) = b8 at key ⊢
   cases b8
   ·exact oP z <| o1 z (wa (xs := f.1) z z lB in5 st9 (au (e := af e8 5) (r := 6) z)) <| oP z <| o1 z (wa (xs := t) z z lB in5 st9 (au (e := af e8 5) (r := 5) z)) <| oP z <| oP z <| OW.sub key (sb z)
   ·exact aa [.p, .p, .p, .p, .p, .p] z <| OW.sub key (sb z)
end Go.Vk
