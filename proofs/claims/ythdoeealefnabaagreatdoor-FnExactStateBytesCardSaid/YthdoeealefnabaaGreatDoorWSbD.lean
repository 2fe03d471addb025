/- The code does what the functions of data say. Printed by program. -/
import Derived.Test.YthdoeealefnabaaGreatDoorWSbC
namespace Go.Vk
open Value renaming int → I, slice → S, pointer → O, bool → B
open IntKind renaming i64 → J, u8 → K
open Bool renaming true → y, false → n
open Option renaming some → U, none → N
open Res renaming box → b, own → W
open Go.Proofs Go.RowKit
set_option maxHeartbeats 4000000
set_option maxRecDepth 100000
theorem wU (w : World) {p0 : ap} {A : List Value} {r : Int} (H : lM p0 = U r) (g0 : (bp).rd w [] p0 A) :
    Calls Tryz.prog 159 #[.agg A.toArray] w (fun en w' => en = .returned (I J r) ∧ Ext [] w w') := by
 obtain ⟨b8, b9, rfl, C, Z⟩ := aW g0
 obtain ⟨a0, a1, rfl⟩ := ah C
 obtain rfl := Z
 unfold lM at H
 refine aq Tryz.func159 z Tryz.ntmps159 z (St.init w []) <| sR <| ob _ z fun c0 => oP z <| nR <| oP z <| nQ <| ai <| sR <| aa [.fa 73 0 0 eg] z <| o1 z (r1 0 0 z kN z) <| aa [.lenS 71 121 fT, .p] z <| nQ <| an <| CW.at (fx (fun (c : Int) (d : Int) => St w [] []) (fun c d => [(3, I J c), (7, S a0 p0.b_.length a1), (8, I J (p0.b_.length : Int)), (9, I J d)]) (fun kk => fun c d => gd p0 kk c d = U r) (fun _ _ H => ?_) (fun k1 D c d H => ?_) aK (0) (0) (H)) (ss [] z z) (sb z)
 ·unfold gd at H
  exact absurd H (by simp)
 ·unfold gd at H
  refine sR <| oP z <| nQ <| ai <| cI H z (fun H => ?_) (fun H => ?_)
  ·refine aj <| ao <| ai <| an <| sR <| bE H fun a E H => bQ z z z z z fT co z C E fun a3 a4 v x => ?_
   obtain ⟨a5, a6, a7, a8, a9, b0, b1, b2, b3, b4, rfl, F, G, f, L, M, P, g, Q, R, T⟩ := bA v
   obtain rfl := F
   obtain rfl := G
   obtain ⟨h, i, rfl⟩ := ah f
   obtain rfl := L
   obtain ⟨b5, b6, rfl, j, k⟩ := aX M
   obtain ⟨l, m, rfl⟩ := ah j
   obtain ⟨o, q, rfl⟩ := ah k
   obtain rfl := P
   obtain ⟨s, t, rfl⟩ := ah g
   obtain rfl := Q
   obtain rfl := R
   obtain rfl := T
   exact o1 z (cu (cs := [B a.y_, I J a.g_.q_, I J a.g_.u_, S h a.r_.length i, I J a.C_, S l a.i_.k_.length m, S o a.i_.h_.length q, I J a.D_, S s a.d_.length t, I J a.f_, I J a.x_, I J a.B_]) z z co (bB bor x) z) <| bL z z z z co (fun _ => kp) fun b7 => sC 0 [B a.y_, I J a.g_.q_, I J a.g_.u_, S h a.r_.length i, I J a.C_, S l a.i_.k_.length m, S o a.i_.h_.length q, I J a.D_, S s a.d_.length t, I J a.f_, I J a.x_, I J a.B_] [_, _, _, _, _, _, _, _, _, _, _, _] 0 z co z <| nQ <| aJ <| oP z <| o1 z (rx 0 0 _ z co z) <| bE H fun V X H => oq z (qc z Og (fun u e => yB u X (ga z z (ab f u e) z (ct (ab j u e) (ab k u e)) z (ab g u e) z z z))) tt2 <| oPP z <| aE <| cx <| ao <| aJ <| oPP z <| aE <| cz (RW.at (D (J.wrap (c + V)) (J.wrap (d + 1)) (H)) (ss [] z z) (sb z))
  ·exact bb <| aw <| ay <| ax <| ao <| sR <| oPP z <| nT <| xr 2 z (by cases H; exact q1)
theorem wR (w : World) {p0 : am} {p1 : cO} {h : ap} {m : List Value} {o : List Value} {r : Bool} (H : qE p0 p1 h = U r) (M : (bK).rd w [] p0 m) (P : (bp).rd w [] h o) :
    Calls Tryz.prog 134 #[.agg m.toArray, .agg #[I J p1.L_, I J p1.K_, I J p1.M_, I J p1.f_, I J p1.b_, I J p1.G_, B p1.P_], .agg o.toArray] w (fun en w' => en = .returned (B r) ∧ Ext [] w w') := by
 obtain ⟨Q, T, rfl, q, s⟩ := aO M
 obtain ⟨V, X, rfl⟩ := ah q
 obtain ⟨Z, a0, rfl⟩ := ah s
 obtain ⟨a1, a2, rfl, g, u⟩ := aW P
 obtain ⟨a3, a4, rfl⟩ := ah g
 obtain rfl := u
 unfold qE at H
 refine aq Tryz.func134 z Tryz.ntmps134 z (St.init w []) <| sR <| ob _ z fun a5 => ob _ z fun d => ob _ z fun e => oP z <| nQ <| ai <| eF eR (by kernel_rfl) <| o1 z (rx 0 0 _ z ja z) <| o1 z (rx 0 2 _ z ol z) <| bE H fun t v H => oq z (qc z Nv (fun c a => zP c v (av (ab q c a) (ab s c a)) (bh (ab g c a) z))) tt2 <| oP z <| bE H fun f i H => aL [(13, B f), (4, O (U ⟨d, 0, N⟩)), (5, O (U ⟨e, 0, N⟩)), (6, B n)] 3 ?_ (fun key => OW.sub (R := [(4, O (U ⟨d, 0, N⟩)), (5, O (U ⟨e, 0, N⟩)), (6, B n), (10, B t)]) ?_ (sb z))
 ·refine oP z <| aL [(21, B (f && (decide ((h.b_.length : Int) ≤ p1.b_)))), (4, O (U ⟨d, 0, N⟩)), (5, O (U ⟨e, 0, N⟩)), (6, B n)] 7 ?_ (fun key => OW.sub (R := [(4, O (U ⟨d, 0, N⟩)), (5, O (U ⟨e, 0, N⟩)), (6, B n), (14, B f)]) ?_ (sb z))
  ·refine oP z <| bE H fun j k H => aL [(28, B j), (4, O (U ⟨d, 0, N⟩)), (5, O (U ⟨e, 0, N⟩)), (6, B n)] 6 ?_ (fun key => OW.sub (R := [(4, O (U ⟨d, 0, N⟩)), (5, O (U ⟨e, 0, N⟩)), (6, B n), (22, B (f && (decide ((h.b_.length : Int) ≤ p1.b_))))]) ?_ (sb z))
   ·refine oP z <| bE H fun x l H => aL [(35, B x), (6, B n)] 6 ?_ (fun key => OW.sub (R := [(4, O (U ⟨d, 0, N⟩)), (5, O (U ⟨e, 0, N⟩)), (6, B n), (29, B j)]) ?_ (sb z))
    ·exact oP z <| dg <| ao <| rG <| xr 6 z (by cases H; exact q1)
    ·clear H
     have H := l
     clear l
     generalize j = A at H key ⊢
     cases A
     ·have H := aQ z H
      refine aa [.p, .p, .p, .p, .p, .p] z ?_
      obtain rfl := ak H
      exact OW.sub key (sb z)
     ·have H := aR z H
      refine o1 z (rx 0 2 _ z ol z) <| bE H fun a6 C H => oq z (qc z Ot (fun c a => wU c C (bh (ab g c a) z))) tt2 <| aa [.fa 45 5 5 tl] z <| o1 z (r1 5 1 z ty3 z) <| oP z <| oP z <| ?_
      obtain rfl := ak H
      exact OW.sub key (sb z)
   ·clear H
    have H := k
    clear k
    generalize (f && (decide ((h.b_.length : Int) ≤ p1.b_))) = D at H key ⊢
    cases D
    ·have H := aQ z H
     refine aa [.p, .p, .p, .p, .p, .p] z ?_
     obtain rfl := ak H
     exact OW.sub key (sb z)
    ·have H := aR z H
     refine o1 z (rx 0 2 _ z ol z) <| bE H fun a7 E H => oq z (qc z OE (fun c a => zi c E (bh (ab g c a) z))) tt2 <| aa [.fa 45 3 3 tu] z <| o1 z (r1 3 1 z ty3 z) <| oP z <| oP z <| ?_
     obtain rfl := ak H
     exact OW.sub key (sb z)
  ·generalize f = F at key ⊢
   cases F
   ·exact aa [.p, .p, .p, .p, .p, .p, .p] z <| OW.sub key (sb z)
   ·exact aa [.fa 73 0 0 eg] z <| o1 z (r1 0 2 z kN z) <| aa [.lenS 71 121 fT, .fa 45 4 4 tx] z <| o1 z (r1 4 1 z ty3 z) <| oP z <| oP z <| OW.sub key (sb z)
 ·clear H
  have H := i
  clear i
  generalize t = G at H key ⊢
  cases G
  ·have H := aQ z H
   refine aa [.p, .p, .p] z ?_
   obtain rfl := ak H
   exact OW.sub key (sb z)
  ·have H := aR z H
   refine o1 z (rx 0 1 _ z ry z) <| bE H fun a8 L H => oq z (qc z Lo (fun c a => tV c (p0 := p1) L)) tt2 <| oP z <| ?_
   obtain rfl := ak H
   exact OW.sub key (sb z)
theorem vA (w : World) {p0 : Int} {p1 : Int} {q_1 : Addr} {cs_1 : List Value} {r : Bool} (H : mQ p0 p1 = U r) (g_1 : eI.rd w [] p1 cs_1) (hA_1 : At w [] q_1 cs_1) :
    Calls Tryz.prog 182 #[I J p0, O (U q_1)] w (fun en w' => en = .returned (B r) ∧ Ext [] w w') := by
 obtain rfl := g_1
 unfold mQ at H
 exact aq Tryz.func182 z Tryz.ntmps182 z (St.init w []) <| sR <| oP z <| nR <| oP z <| o1 z (aF z z ty3 (bB bor hA_1)) <| bE H fun x10 a H => o1 z (Ms z z z a) <| bE H fun e c H => oq z (qc z gy (fun d f => be d c)) tt2 <| oPP z <| nT <| xr 3 z (by cases H; exact q1)
theorem iE (w : World) {p0 : List Int} {p1_0 : Int} {a_0 : Option Addr} {n_0 c_0 : Nat} {q_1_0 : Addr} {cs_1_0 : List Value} {r : Int} (H : cC p0 p1_0 = U r) (d : (ae eI 3).rd w [] p0 [S a_0 n_0 c_0]) (g_1_0 : eI.rd w [] p1_0 cs_1_0) (hA_1_0 : At w [] q_1_0 cs_1_0) :
    Calls Tryz.prog 137 #[S a_0 n_0 c_0, .func (.func 182) #[] #[O (U q_1_0)]] w (fun en w' => en = .returned (I J r) ∧ Ext [] w w') := by
 obtain rfl := eb d
 obtain rfl := g_1_0
 unfold cC at H
 refine aq Tryz.func137 z Tryz.ntmps137 z (St.init w []) <| sR <| oP z <| nQ <| ai <| sR <| aa [.p, .lenS 69 3 ce, .p] z <| nQ <| an <| CW.at (dn (fun (a : Int) => St w [] []) (fun a => [(0, S a_0 p0.length c_0), (1, .func (.func 182) #[] #[O (U q_1_0)]), (7, I J (p0.length : Int)), (8, I J a)]) (fun kk => fun a => bq p0 p1_0 kk a = U r) (fun _ H => ?_) (fun m f a H => ?_) aK (0) (H)) (ss [] z z) (sb z)
 ·unfold bq at H
  exact absurd H (by simp)
 ·unfold bq at H
  refine sR <| oP z <| nQ <| ai <| cI H z (fun H => ?_) (fun H => ?_)
  ·refine aj <| ao <| ai <| an <| sR <| oPP z <| nR <| aa [.p, .p, .p] z <| bE H fun k c H => bO (e := eI) (xs := p0) (j := a) z z z z z ce ty3 z (ab d) c (by rw [Nat.mul_one]) <| o1 z (aF z z ty3 (cq (ab d) c)) <| bE H fun l g H => CF z z (bU z) (pB (cap := [O (U q_1_0)]) z MZ z z (fun h i => vA h (cs_1 := [I J p1_0]) g z (bB bor hA_1_0 h i))) (fun _ _ => Y) <| nQ <| cI H z (fun H => ?_) (fun H => ?_)
   ·exact sR <| oPP z <| nT <| ar <| af <| bd <| ar <| af <| xr 4 z (by cases H; exact q1)
   ·exact aj <| cx <| ao <| aJ <| oPP z <| aE <| cz (RW.at (f (J.wrap (a + 1)) (H)) (ss [] z z) (sb z))
  ·exact bb <| aw <| ay <| ax <| ao <| sR <| oP z <| nT <| xr 4 z (by cases H; exact q1)
theorem hY (w : World) {p0 : List Int} {p1_0 : Int} {a_0 : Option Addr} {n_0 c_0 : Nat} {q_1_0 : Addr} {cs_1_0 : List Value} {r : Bool} (H : bX p0 p1_0 = U r) (d : (ae eI 3).rd w [] p0 [S a_0 n_0 c_0]) (g_1_0 : eI.rd w [] p1_0 cs_1_0) (hA_1_0 : At w [] q_1_0 cs_1_0) :
    Calls Tryz.prog 102 #[S a_0 n_0 c_0, .func (.func 182) #[] #[O (U q_1_0)]] w (fun en w' => en = .returned (B r) ∧ Ext [] w w') := by
 obtain rfl := eb d
 obtain rfl := g_1_0
 unfold bX at H
 exact aq Tryz.func102 z Tryz.ntmps102 z (St.init w []) <| sR <| oP z <| nR <| oPP z <| bE H fun f e H => oq z (qc z Er (fun c a => iE c (cs_1_0 := [I J p1_0]) e (ab d c a) z (bB bor hA_1_0 c a))) tt2 <| oPP z <| nT <| xr 4 z (by cases H; exact q1)
theorem sl (w : World) {p0 : aA} {j : List Value} {r : Bool} (H : kU p0 = U r) (E : (bI).rd w [] p0 j) :
    Calls Tryz.prog 160 #[.agg j.toArray] w (fun en w' => en = .returned (B r) ∧ Ext [] w w') := by
 obtain ⟨F, rfl, k⟩ := aT E
 obtain ⟨c, d, rfl⟩ := ah k
 unfold kU at H
 refine aq Tryz.func160 z Tryz.ntmps160 z (St.init w []) <| sR <| ob _ z fun G => oP z <| nQ <| ai <| sR <| aa [.fa 75 0 0 lu] z <| o1 z (r1 0 0 z fw z) <| aa [.lenS 33 69 eK, .p] z <| nQ <| cI H z (fun H => ?_) (fun H => ?_)
 ·exact sR <| oP z <| nT <| af <| xr 2 z (by cases H; exact q1)
 ·refine aj <| ao <| ai <| sR <| aa [.fa 75 0 0 lu] z <| o1 z (r1 0 0 z fw z) <| aa [.lenS 33 69 eK, .p] z <| nQ <| an <| CW.at (dn (fun (a : Int) => St w [] []) (fun a => [(10, S c p0.o_.length d), (11, I J (p0.o_.length : Int)), (12, I J a)]) (fun kk => fun a => dw p0 kk a = U r) (fun _ H => ?_) (fun Q m a H => ?_) aK (0) (H)) (ss [] z z) (sb z)
  ·unfold dw at H
   exact absurd H (by simp)
  ·unfold dw at H
   refine sR <| oP z <| nQ <| ai <| cI H z (fun H => ?_) (fun H => ?_)
   ·refine aj <| ao <| ai <| an <| sR <| oP z <| bE H fun q s H => bQ z z z z z eK bW z k s fun L M e o => ?_
    obtain ⟨t, u, rfl⟩ := ah e
    refine o1 z (aF z z bW (bB bor o)) <| bL z z z z ty3 (fun _ => kp) fun v => sC 0 [I J a] [_] 0 z ty3 z <| oP z <| nR <| aa [.p, .lenS 69 3 ce] z <| bE H fun l x H => oq z (qc z gy (fun f g => be f x)) tt2 <| oPP z <| bE H fun A h H => aL [(25, B A), (10, S c p0.o_.length d), (11, I J (p0.o_.length : Int)), (12, I J a)] 4 ?_ (fun key => OW.sub (R := [(3, O (U ⟨v, 0, N⟩)), (4, S t q.length u), (10, S c p0.o_.length d), (11, I J (p0.o_.length : Int)), (12, I J a), (21, B (!l))]) ?_ (sb z))
    ·refine nQ <| cI H z (fun H => ?_) (fun H => ?_)
     ·exact sR <| oP z <| nT <| ar <| af <| bd <| ar <| af <| xr 2 z (by cases H; exact q1)
     ·exact aj <| cx <| ao <| aJ <| oPP z <| aE <| cz (RW.at (m (J.wrap (a + 1)) (H)) (ss [] z z) (sb z))
    ·clear H
     have H := h
     clear h
     generalize (!l) = C at H key ⊢
     cases C
     ·have H := aQ z H
      refine oP z <| o1 z (uv z z) <| bE H fun P D H => oq z (qc z EB (fun f g => hY f (cs_1_0 := [I J a]) D (ab e f g) z (jI (T := 3) 0 (mt (i := 0) z) z f g))) tt2 <| oP z <| ?_
      obtain rfl := ak H
      exact OW.sub key (sb z)
     ·have H := aR z H
      refine aa [.p, .p, .p, .p] z ?_
      obtain rfl := ak H
      exact OW.sub key (sb z)
   ·exact bb <| aw <| ay <| ax <| ao <| sR <| oP z <| nT <| xr 2 z (by cases H; exact q1)
theorem BD (w : World) {p0 : cf} {e : List Value} {r : Bool} (H : ra p0 = U r) (s : (eE).rd w [] p0 e) :
    Calls Tryz.prog 135 #[.agg e.toArray] w (fun en w' => en = .returned (B r) ∧ Ext [] w w') := by
 obtain ⟨t, u, rfl, i, j⟩ := dE s
 obtain ⟨v, rfl, f⟩ := aT i
 obtain ⟨x, A, rfl⟩ := ah f
 obtain ⟨C, rfl, g⟩ := aT j
 obtain ⟨D, E, rfl⟩ := ah g
 unfold ra at H
 refine aq Tryz.func135 z Tryz.ntmps135 z (St.init w []) <| sR <| ob _ z fun k => oP z <| nR <| aa [.fa 77 0 0 un] z <| o1 z (rx 0 0 _ z sM z) <| bE H fun h l H => oq z (qc z LP (fun a c => sl a l (bg (ab f a c)))) tt2 <| oP z <| bE H fun m d H => aL [(10, B m), (2, B n)] 4 ?_ (fun key => OW.sub (R := [(1, O (U ⟨k, 0, N⟩)), (2, B n), (6, B h)]) ?_ (sb z))
 ·exact oP z <| nT <| xr 2 z (by cases H; exact q1)
 ·clear H
  have H := d
  clear d
  generalize h = o at H key ⊢
  cases o
  ·have H := aQ z H
   refine aa [.p, .p, .p, .p] z ?_
   obtain rfl := ak H
   exact OW.sub key (sb z)
  ·have H := aR z H
   refine aa [.fa 77 1 1 tX] z <| o1 z (rx 1 0 _ z sM z) <| bE H fun F q H => oq z (qc z LP (fun a c => sl a q (bg (ab g a c)))) tt2 <| oP z <| ?_
   obtain rfl := ak H
   exact OW.sub key (sb z)
theorem fb (w : World) {p0 : List Int} {p1 : List Int} {a_0 : Option Addr} {n_0 c_0 : Nat} {a_1 : Option Addr} {n_1 c_1 : Nat} {r : Bool} (H : dI p0 p1 = U r) (f : (ae eI 3).rd w [] p0 [S a_0 n_0 c_0]) (g : (ae eI 3).rd w [] p1 [S a_1 n_1 c_1]) :
    Calls Tryz.prog 183 #[S a_0 n_0 c_0, S a_1 n_1 c_1] w (fun en w' => en = .returned (B r) ∧ Ext [] w w') := by
 obtain rfl := eb f
 obtain rfl := eb g
 unfold dI at H
 refine aq Tryz.func183 z Tryz.ntmps183 z (St.init w []) <| sR <| oP z <| nQ <| ai <| sR <| aa [.p, .lenS 69 3 ce, .p, .lenS 69 3 ce, .p] z <| nQ <| cI H z (fun H => ?_) (fun H => ?_)
 ·exact sR <| oP z <| nT <| af <| xr 4 z (by cases H; exact q1)
 ·refine aj <| ao <| ai <| sR <| aa [.p, .lenS 69 3 ce, .p] z <| nQ <| an <| CW.at (dn (fun (a : Int) => St w [] []) (fun a => [(0, S a_0 p0.length c_0), (1, S a_1 p1.length c_1), (12, I J (p0.length : Int)), (13, I J a)]) (fun kk => fun a => dS p0 p1 kk a = U r) (fun _ H => ?_) (fun l h a H => ?_) aK (0) (H)) (ss [] z z) (sb z)
  ·unfold dS at H
   exact absurd H (by simp)
  ·unfold dS at H
   refine sR <| oP z <| nQ <| ai <| cI H z (fun H => ?_) (fun H => ?_)
   ·refine aj <| ao <| ai <| an <| sR <| oPP z <| nQ <| ai <| eF eR (by kernel_rfl) <| oPP z <| bE H fun i c H => bO (e := eI) (xs := p0) (j := a) z z z z z ce ty3 z (ab f) c (by rw [Nat.mul_one]) <| o1 z (aF z z ty3 (cq (ab f) c)) <| oPP z <| bE H fun k d H => bO (e := eI) (xs := p1) (j := a) z z z z z ce ty3 z (ab g) d (by rw [Nat.mul_one]) <| o1 z (aF z z ty3 (cq (ab g) d)) <| oP z <| dg <| ao <| cI H z (fun H => ?_) (fun H => ?_)
    ·exact sR <| oP z <| nT <| ar <| af <| bd <| ar <| af <| xr 4 z (by cases H; exact q1)
    ·exact aj <| cx <| ao <| aJ <| oPP z <| aE <| cz (RW.at (h (J.wrap (a + 1)) (H)) (ss [] z z) (sb z))
   ·exact bb <| aw <| ay <| ax <| ao <| sR <| oP z <| nT <| xr 4 z (by cases H; exact q1)
theorem vb (w : World) {p0 : List Int} {p1 : List Int} {a_0 : Option Addr} {n_0 c_0 : Nat} {a_1 : Option Addr} {n_1 c_1 : Nat} {r : Bool} (H : pc p0 p1 = U r) (d : (ae eI 3).rd w [] p0 [S a_0 n_0 c_0]) (e : (ae eI 3).rd w [] p1 [S a_1 n_1 c_1]) :
    Calls Tryz.prog 210 #[S a_0 n_0 c_0, S a_1 n_1 c_1] w (fun en w' => en = .returned (B r) ∧ Ext [] w w') := by
 obtain rfl := eb d
 obtain rfl := eb e
 unfold pc at H
 exact aq Tryz.func210 z Tryz.ntmps210 z (St.init w []) <| sR <| oP z <| nR <| oPP z <| bE H fun g f H => oq z (qc z GC (fun c a => fb c f (ab d c a) (ab e c a))) tt2 <| oP z <| nT <| xr 4 z (by cases H; exact q1)
theorem fi (w : World) {p0 : List (List Int)} {p1 : List (List Int)} {a_0 : Option Addr} {n_0 c_0 : Nat} {a_1 : Option Addr} {n_1 c_1 : Nat} {r : Bool} (H : cj p0 p1 = U r) (j : (ae (ae eI 3) 69).rd w [] p0 [S a_0 n_0 c_0]) (k : (ae (ae eI 3) 69).rd w [] p1 [S a_1 n_1 c_1]) :
    Calls Tryz.prog 209 #[S a_0 n_0 c_0, S a_1 n_1 c_1, .func (.func 210) #[] #[]] w (fun en w' => en = .returned (B r) ∧ Ext [] w w') := by
 obtain rfl := eb j
 obtain rfl := eb k
 unfold cj at H
 refine aq Tryz.func209 z Tryz.ntmps209 z (St.init w []) <| sR <| oP z <| nQ <| ai <| sR <| aa [.p, .lenS 33 69 eK, .p, .lenS 33 69 eK, .p] z <| nQ <| cI H z (fun H => ?_) (fun H => ?_)
 ·exact sR <| oP z <| nT <| af <| xr 6 z (by cases H; exact q1)
 ·refine aj <| ao <| ai <| sR <| aa [.p, .lenS 33 69 eK, .p] z <| nQ <| an <| CW.at (dn (fun (a : Int) => St w [] []) (fun a => [(1, S a_1 p1.length c_1), (2, .func (.func 210) #[] #[]), (15, S a_0 p0.length c_0), (16, I J (p0.length : Int)), (17, I J a)]) (fun kk => fun a => bm p0 p1 kk a = U r) (fun _ H => ?_) (fun G f a H => ?_) aK (0) (H)) (ss [] z z) (sb z)
  ·unfold bm at H
   exact absurd H (by simp)
  ·unfold bm at H
   refine sR <| oP z <| nQ <| ai <| cI H z (fun H => ?_) (fun H => ?_)
   ·refine aj <| ao <| ai <| an <| sR <| oP z <| bE H fun q l H => bQ z z z z z eK bW z j l fun s t c g => ?_
    obtain ⟨u, v, rfl⟩ := ah c
    refine o1 z (aF z z bW (bB bor g)) <| oPP z <| nR <| oPP z <| bE H fun x m H => bQ z z z z z eK bW z k m fun A C d h => ?_
    obtain ⟨D, E, rfl⟩ := ah d
    refine o1 z (aF z z bW (bB bor h)) <| oP z <| nR <| aa [.p, .p, .p] z <| bE H fun F o H => CF z z (bU z) (pB (cap := []) z OU z z (fun i e => vb i o (ab c i e) (ab d i e))) (fun _ _ => Y) <| oP z <| nQ <| cI H z (fun H => ?_) (fun H => ?_)
    ·exact sR <| oP z <| nT <| ar <| af <| bd <| ar <| af <| xr 6 z (by cases H; exact q1)
    ·exact aj <| cx <| ao <| aJ <| oPP z <| aE <| cz (RW.at (f (J.wrap (a + 1)) (H)) (ss [] z z) (sb z))
   ·exact bb <| aw <| ay <| ax <| ao <| sR <| oP z <| nT <| xr 6 z (by cases H; exact q1)
theorem wx (w : World) {p0 : List (List Int)} {p1 : List (List Int)} {a_0 : Option Addr} {n_0 c_0 : Nat} {a_1 : Option Addr} {n_1 c_1 : Nat} {r : Bool} (H : rg p0 p1 = U r) (d : (ae (ae eI 3) 69).rd w [] p0 [S a_0 n_0 c_0]) (e : (ae (ae eI 3) 69).rd w [] p1 [S a_1 n_1 c_1]) :
    Calls Tryz.prog 200 #[S a_0 n_0 c_0, S a_1 n_1 c_1] w (fun en w' => en = .returned (B r) ∧ Ext [] w w') := by
 obtain rfl := eb d
 obtain rfl := eb e
 unfold rg at H
 exact aq Tryz.func200 z Tryz.ntmps200 z (St.init w []) <| sR <| oP z <| nR <| oPP z <| bE H fun g f H => oq z (qc z NU (fun c a => fi c f (ab d c a) (ab e c a))) tt2 <| oP z <| nT <| xr 4 z (by cases H; exact q1)
theorem wP (w : World) {p0 : aV} {p1 : aV} {e : List Value} {f : List Value} {r : Bool} (H : qU p0 p1 = U r) (u : (cL).rd w [] p0 e) (v : (cL).rd w [] p1 f) :
    Calls Tryz.prog 184 #[.agg e.toArray, .agg f.toArray] w (fun en w' => en = .returned (B r) ∧ Ext [] w w') := by
 obtain ⟨x, A, rfl, g, h⟩ := aX u
 obtain ⟨C, D, rfl⟩ := ah g
 obtain ⟨E, F, rfl⟩ := ah h
 obtain ⟨G, L, rfl, i, j⟩ := aX v
 obtain ⟨M, P, rfl⟩ := ah i
 obtain ⟨Q, T, rfl⟩ := ah j
 unfold qU at H
 refine aq Tryz.func184 z Tryz.ntmps184 z (St.init w []) <| sR <| ob _ z fun l => ob _ z fun m => oP z <| nR <| aa [.fa 119 0 0 gS] z <| o1 z (r1 0 0 z bW z) <| aa [.fa 119 0 0 gS] z <| o1 z (r1 0 1 z bW z) <| bE H fun k o H => oq z (qc z GC (fun c a => fb c o (ab g c a) (ab i c a))) tt2 <| oP z <| bE H fun q d H => aL [(16, B q), (4, B n)] 6 ?_ (fun key => OW.sub (R := [(2, O (U ⟨l, 0, N⟩)), (3, O (U ⟨m, 0, N⟩)), (4, B n), (10, B k)]) ?_ (sb z))
 ·exact oP z <| nT <| xr 4 z (by cases H; exact q1)
 ·clear H
  have H := d
  clear d
  generalize k = s at H key ⊢
  cases s
  ·have H := aQ z H
   refine aa [.p, .p, .p, .p, .p, .p] z ?_
   obtain rfl := ak H
   exact OW.sub key (sb z)
  ·have H := aR z H
   refine aa [.fa 119 1 1 fm] z <| o1 z (r1 1 0 z fw z) <| aa [.fa 119 1 1 fm] z <| o1 z (r1 1 1 z fw z) <| bE H fun V t H => oq z (qc z Nl (fun c a => wx c t (ab h c a) (ab j c a))) tt2 <| oP z <| ?_
   obtain rfl := ak H
   exact OW.sub key (sb z)
theorem xK (w : World) {p0 : au} {p1 : au} {l : List Value} {m : List Value} {r : Bool} (H : rU p0 p1 = U r) (g0 : (bc).rd w [] p0 l) (g1 : (bc).rd w [] p1 m) :
    Calls Tryz.prog 162 #[.agg l.toArray, .agg m.toArray] w (fun en w' => en = .returned (B r) ∧ Ext [] w w') := by
 obtain ⟨b7, b8, b9, c0, c1, c2, c3, c4, c5, c6, rfl, E, F, o, G, L, M, q, P, Q, T⟩ := bA g0
 obtain rfl := E
 obtain rfl := F
 obtain ⟨c7, c8, rfl⟩ := ah o
 obtain rfl := G
 obtain ⟨c9, d0, rfl, s, t⟩ := aX L
 obtain ⟨d1, d2, rfl⟩ := ah s
 obtain ⟨d3, d4, rfl⟩ := ah t
 obtain rfl := M
 obtain ⟨d5, d6, rfl⟩ := ah q
 obtain rfl := P
 obtain rfl := Q
 obtain rfl := T
 obtain ⟨d7, d8, d9, e0, e1, e2, e3, e4, e5, e6, rfl, V, X, u, Z, a0, a1, v, a2, a3, a4⟩ := bA g1
 obtain rfl := V
 obtain rfl := X
 obtain ⟨e7, e9, rfl⟩ := ah u
 obtain rfl := Z
 obtain ⟨f0, f1, rfl, x, A⟩ := aX a0
 obtain ⟨f2, f3, rfl⟩ := ah x
 obtain ⟨f4, f5, rfl⟩ := ah A
 obtain rfl := a1
 obtain ⟨f6, f7, rfl⟩ := ah v
 obtain rfl := a2
 obtain rfl := a3
 obtain rfl := a4
 unfold rU at H
 refine aq Tryz.func162 z Tryz.ntmps162 z (St.init w []) <| sR <| ob _ z fun a => ob _ z fun c => oP z <| nR <| aa [.fa 121 0 0 kz] z <| o1 z (r1 0 0 z ty4 z) <| aa [.fa 121 0 0 kz] z <| o1 z (r1 0 1 z ty4 z) <| o1 z (Lf z z z bl4) <| oP z <| aL [(16, B ((p0.y_ == p1.y_) && (p0.g_.q_ == p1.g_.q_ && (p0.g_.u_ == p1.g_.u_ && y)))), (2, O (U ⟨a, 0, N⟩)), (3, O (U ⟨c, 0, N⟩)), (4, B n)] 6 ?_ (fun key => OW.sub (R := [(2, O (U ⟨a, 0, N⟩)), (3, O (U ⟨c, 0, N⟩)), (4, B n), (10, B (p0.y_ == p1.y_))]) ?_ (sb z))
 ·refine oP z <| bE H fun g i H => aL [(23, B g), (2, O (U ⟨a, 0, N⟩)), (3, O (U ⟨c, 0, N⟩)), (4, B n)] 6 ?_ (fun key => OW.sub (R := [(2, O (U ⟨a, 0, N⟩)), (3, O (U ⟨c, 0, N⟩)), (4, B n), (17, B ((p0.y_ == p1.y_) && (p0.g_.q_ == p1.g_.q_ && (p0.g_.u_ == p1.g_.u_ && y))))]) ?_ (sb z))
  ·refine oP z <| aL [(30, B (g && (p0.C_ == p1.C_))), (2, O (U ⟨a, 0, N⟩)), (3, O (U ⟨c, 0, N⟩)), (4, B n)] 6 ?_ (fun key => OW.sub (R := [(2, O (U ⟨a, 0, N⟩)), (3, O (U ⟨c, 0, N⟩)), (4, B n), (24, B g)]) ?_ (sb z))
   ·refine oP z <| bE H fun h j H => aL [(37, B h), (2, O (U ⟨a, 0, N⟩)), (3, O (U ⟨c, 0, N⟩)), (4, B n)] 6 ?_ (fun key => OW.sub (R := [(2, O (U ⟨a, 0, N⟩)), (3, O (U ⟨c, 0, N⟩)), (4, B n), (31, B (g && (p0.C_ == p1.C_)))]) ?_ (sb z))
    ·refine oP z <| aL [(44, B (h && (p0.D_ == p1.D_))), (2, O (U ⟨a, 0, N⟩)), (3, O (U ⟨c, 0, N⟩)), (4, B n)] 6 ?_ (fun key => OW.sub (R := [(2, O (U ⟨a, 0, N⟩)), (3, O (U ⟨c, 0, N⟩)), (4, B n), (38, B h)]) ?_ (sb z))
     ·refine oP z <| bE H fun d k H => aL [(51, B d), (2, O (U ⟨a, 0, N⟩)), (3, O (U ⟨c, 0, N⟩)), (4, B n)] 6 ?_ (fun key => OW.sub (R := [(2, O (U ⟨a, 0, N⟩)), (3, O (U ⟨c, 0, N⟩)), (4, B n), (45, B (h && (p0.D_ == p1.D_)))]) ?_ (sb z))
      ·refine oP z <| aL [(58, B (d && (p0.f_ == p1.f_))), (2, O (U ⟨a, 0, N⟩)), (3, O (U ⟨c, 0, N⟩)), (4, B n)] 6 ?_ (fun key => OW.sub (R := [(2, O (U ⟨a, 0, N⟩)), (3, O (U ⟨c, 0, N⟩)), (4, B n), (52, B d)]) ?_ (sb z))
       ·refine oP z <| aL [(65, B ((d && (p0.f_ == p1.f_)) && (p0.x_ == p1.x_))), (2, O (U ⟨a, 0, N⟩)), (3, O (U ⟨c, 0, N⟩)), (4, B n)] 6 ?_ (fun key => OW.sub (R := [(2, O (U ⟨a, 0, N⟩)), (3, O (U ⟨c, 0, N⟩)), (4, B n), (59, B (d && (p0.f_ == p1.f_)))]) ?_ (sb z))
        ·refine oP z <| aL [(72, B (((d && (p0.f_ == p1.f_)) && (p0.x_ == p1.x_)) && (p0.B_ == p1.B_))), (4, B n)] 6 ?_ (fun key => OW.sub (R := [(2, O (U ⟨a, 0, N⟩)), (3, O (U ⟨c, 0, N⟩)), (4, B n), (66, B ((d && (p0.f_ == p1.f_)) && (p0.x_ == p1.x_)))]) ?_ (sb z))
         ·exact oP z <| nT <| xr 4 z (by cases H; exact q1)
         ·generalize ((d && (p0.f_ == p1.f_)) && (p0.x_ == p1.x_)) = C at key ⊢
          cases C
          ·exact aa [.p, .p, .p, .p, .p, .p] z <| OW.sub key (sb z)
          ·exact aa [.fa 121 9 11 jy] z <| o1 z (r1 11 0 z ty3 z) <| aa [.fa 121 9 11 jy] z <| o1 z (r1 11 1 z ty3 z) <| oP z <| oP z <| OW.sub key (sb z)
        ·generalize (d && (p0.f_ == p1.f_)) = D at key ⊢
         cases D
         ·exact aa [.p, .p, .p, .p, .p, .p] z <| OW.sub key (sb z)
         ·exact aa [.fa 121 8 10 jF] z <| o1 z (r1 10 0 z ty3 z) <| aa [.fa 121 8 10 jF] z <| o1 z (r1 10 1 z ty3 z) <| oP z <| oP z <| OW.sub key (sb z)
       ·generalize d = a5 at key ⊢
        cases a5
        ·exact aa [.p, .p, .p, .p, .p, .p] z <| OW.sub key (sb z)
        ·exact aa [.fa 121 7 9 gB] z <| o1 z (r1 9 0 z ty3 z) <| aa [.fa 121 7 9 gB] z <| o1 z (r1 9 1 z ty3 z) <| oP z <| oP z <| OW.sub key (sb z)
      ·clear H
       have H := k
       clear k
       generalize (h && (p0.D_ == p1.D_)) = a6 at H key ⊢
       cases a6
       ·have H := aQ z H
        refine aa [.p, .p, .p, .p, .p, .p] z ?_
        obtain rfl := ak H
        exact OW.sub key (sb z)
       ·have H := aR z H
        refine aa [.fa 121 6 8 mX] z <| o1 z (r1 8 0 z bW z) <| aa [.fa 121 6 8 mX] z <| o1 z (r1 8 1 z bW z) <| bE H fun f8 a7 H => oq z (qc z GC (fun f e => fb f a7 (ab q f e) (ab v f e))) tt2 <| oP z <| ?_
        obtain rfl := ak H
        exact OW.sub key (sb z)
     ·generalize h = a8 at key ⊢
      cases a8
      ·exact aa [.p, .p, .p, .p, .p, .p] z <| OW.sub key (sb z)
      ·exact aa [.fa 121 5 7 ln] z <| o1 z (r1 7 0 z ty3 z) <| aa [.fa 121 5 7 ln] z <| o1 z (r1 7 1 z ty3 z) <| oP z <| oP z <| OW.sub key (sb z)
    ·clear H
     have H := j
     clear j
     generalize (g && (p0.C_ == p1.C_)) = a9 at H key ⊢
     cases a9
     ·have H := aQ z H
      refine aa [.p, .p, .p, .p, .p, .p] z ?_
      obtain rfl := ak H
      exact OW.sub key (sb z)
     ·have H := aR z H
      refine aa [.fa 121 4 5 eY] z <| o1 z (rx 5 0 _ z rr z) <| aa [.fa 121 4 5 eY] z <| o1 z (rx 5 1 _ z rr z) <| bE H fun f9 b0 H => oq z (qc z OK (fun f e => wP f b0 (ct (ab s f e) (ab t f e)) (ct (ab x f e) (ab A f e)))) tt2 <| oP z <| ?_
      obtain rfl := ak H
      exact OW.sub key (sb z)
   ·generalize g = b1 at key ⊢
    cases b1
    ·exact aa [.p, .p, .p, .p, .p, .p] z <| OW.sub key (sb z)
    ·exact aa [.fa 121 3 4 mc] z <| o1 z (r1 4 0 z ty3 z) <| aa [.fa 121 3 4 mc] z <| o1 z (r1 4 1 z ty3 z) <| oP z <| oP z <| OW.sub key (sb z)
  ·clear H
   have H := i
   clear i
   generalize ((p0.y_ == p1.y_) && (p0.g_.q_ == p1.g_.q_ && (p0.g_.u_ == p1.g_.u_ && y))) = b2 at H key ⊢
   cases b2
   ·have H := aQ z H
    refine aa [.p, .p, .p, .p, .p, .p] z ?_
    obtain rfl := ak H
    exact OW.sub key (sb z)
   ·have H := aR z H
    refine aa [.fa 121 2 3 gf] z <| o1 z (r1 3 0 z bW z) <| aa [.fa 121 2 3 gf] z <| o1 z (r1 3 1 z bW z) <| bE H fun g2 b3 H => oq z (qc z GC (fun f e => fb f b3 (ab o f e) (ab u f e))) tt2 <| oP z <| ?_
    obtain rfl := ak H
    exact OW.sub key (sb z)
 ·generalize (p0.y_ == p1.y_) = b4 at key ⊢
  cases b4
  ·exact aa [.p, .p, .p, .p, .p, .p] z <| OW.sub key (sb z)
  ·exact aa [.fa 121 1 1 iW] z <| o1 z (rx 1 0 _ z oI z) <| aa [.fa 121 1 1 iW] z <| o1 z (rx 1 1 _ z oI z) <| o1 z (GM (xs := [I J p0.g_.q_, I J p0.g_.u_]) (ys := [I J p1.g_.q_, I J p1.g_.u_]) z z z (IR p0.g_.q_ p1.g_.q_ p0.g_.u_ p1.g_.u_)) <| oP z <| OW.sub key (sb z)
theorem dY (w : World) {p0 : List au} {p1 : List au} {a_0 : Option Addr} {n_0 c_0 : Nat} {a_1 : Option Addr} {n_1 c_1 : Nat} {r : Bool} (H : bt p0 p1 = U r) (g0 : (ae (bc) 121).rd w [] p0 [S a_0 n_0 c_0]) (g1 : (ae (bc) 121).rd w [] p1 [S a_1 n_1 c_1]) :
    Calls Tryz.prog 161 #[S a_0 n_0 c_0, S a_1 n_1 c_1, .func (.func 162) #[] #[]] w (fun en w' => en = .returned (B r) ∧ Ext [] w w') := by
 obtain rfl := eb g0
 obtain rfl := eb g1
 unfold bt at H
 refine aq Tryz.func161 z Tryz.ntmps161 z (St.init w []) <| sR <| oP z <| nQ <| ai <| sR <| aa [.p, .lenS 71 121 fT, .p, .lenS 71 121 fT, .p] z <| nQ <| cI H z (fun H => ?_) (fun H => ?_)
 ·exact sR <| oP z <| nT <| af <| xr 6 z (by cases H; exact q1)
 ·refine aj <| ao <| ai <| sR <| aa [.p, .lenS 71 121 fT, .p] z <| nQ <| an <| CW.at (dn (fun (e : Int) => St w [] []) (fun e => [(1, S a_1 p1.length c_1), (2, .func (.func 162) #[] #[]), (15, S a_0 p0.length c_0), (16, I J (p0.length : Int)), (17, I J e)]) (fun kk => fun e => aN p0 p1 kk e = U r) (fun _ H => ?_) (fun k1 Z e H => ?_) aK (0) (H)) (ss [] z z) (sb z)
  ·unfold aN at H
   exact absurd H (by simp)
  ·unfold aN at H
   refine sR <| oP z <| nQ <| ai <| cI H z (fun H => ?_) (fun H => ?_)
   ·refine aj <| ao <| ai <| an <| sR <| oP z <| bE H fun a a0 H => bQ z z z z z fT co z g0 a0 fun c1 c2 R T => ?_
    obtain ⟨c3, c4, c5, c6, c7, c8, c9, d0, d1, d2, rfl, a1, a2, g, a3, a4, a5, h, a6, a7, a8⟩ := bA R
    obtain rfl := a1
    obtain rfl := a2
    obtain ⟨i, j, rfl⟩ := ah g
    obtain rfl := a3
    obtain ⟨d3, d4, rfl, k, l⟩ := aX a4
    obtain ⟨m, o, rfl⟩ := ah k
    obtain ⟨q, s, rfl⟩ := ah l
    obtain rfl := a5
    obtain ⟨t, u, rfl⟩ := ah h
    obtain rfl := a6
    obtain rfl := a7
    obtain rfl := a8
    refine o1 z (cu (cs := [B a.y_, I J a.g_.q_, I J a.g_.u_, S i a.r_.length j, I J a.C_, S m a.i_.k_.length o, S q a.i_.h_.length s, I J a.D_, S t a.d_.length u, I J a.f_, I J a.x_, I J a.B_]) z z co (bB bor T) z) <| bL z z z z co (fun _ => kp) fun d5 => oP z <| sC 0 [B a.y_, I J a.g_.q_, I J a.g_.u_, S i a.r_.length j, I J a.C_, S m a.i_.k_.length o, S q a.i_.h_.length s, I J a.D_, S t a.d_.length u, I J a.f_, I J a.x_, I J a.B_] [_, _, _, _, _, _, _, _, _, _, _, _] 0 z co z <| nR <| oPP z <| bE H fun c a9 H => bQ z z z z z fT co z g1 a9 fun d6 d7 V X => ?_
    obtain ⟨d8, d9, e0, e1, e2, e3, e4, e5, e6, e7, rfl, b0, b1, v, b2, b3, b4, x, b5, b6, b7⟩ := bA V
    obtain rfl := b0
    obtain rfl := b1
    obtain ⟨A, C, rfl⟩ := ah v
    obtain rfl := b2
    obtain ⟨e9, f0, rfl, D, E⟩ := aX b3
    obtain ⟨F, G, rfl⟩ := ah D
    obtain ⟨L, M, rfl⟩ := ah E
    obtain rfl := b4
    obtain ⟨P, Q, rfl⟩ := ah x
    obtain rfl := b5
    obtain rfl := b6
    obtain rfl := b7
    refine o1 z (cu (cs := [B c.y_, I J c.g_.q_, I J c.g_.u_, S A c.r_.length C, I J c.C_, S F c.i_.k_.length G, S L c.i_.h_.length M, I J c.D_, S P c.d_.length Q, I J c.f_, I J c.x_, I J c.B_]) z z co (bB bor X) z) <| bL z z z z co (fun _ => kp) fun f1 => sC 0 [B c.y_, I J c.g_.q_, I J c.g_.u_, S A c.r_.length C, I J c.C_, S F c.i_.k_.length G, S L c.i_.h_.length M, I J c.D_, S P c.d_.length Q, I J c.f_, I J c.x_, I J c.B_] [_, _, _, _, _, _, _, _, _, _, _, _] 1 z co z <| nR <| oP z <| o1 z (rx 0 0 _ z co z) <| o1 z (rx 0 1 _ z co z) <| bE H fun f2 b8 H => CF z z (bU z) (pB (cap := []) z Nj z z (fun f d => xK f b8 (ga z z (ab g f d) z (ct (ab k f d) (ab l f d)) z (ab h f d) z z z) (ga z z (ab v f d) z (ct (ab D f d) (ab E f d)) z (ab x f d) z z z))) (fun _ _ => Y) <| oP z <| nQ <| cI H z (fun H => ?_) (fun H => ?_)
    ·exact sR <| oP z <| nT <| ar <| af <| bd <| ar <| af <| xr 6 z (by cases H; exact q1)
    ·exact aj <| cx <| ao <| aJ <| oPP z <| aE <| cz (RW.at (Z (J.wrap (e + 1)) (H)) (ss [] z z) (sb z))
   ·exact bb <| aw <| ay <| ax <| ao <| sR <| oP z <| nT <| xr 6 z (by cases H; exact q1)
theorem xV (w : World) {p0 : ap} {p1 : ap} {c : List Value} {d : List Value} {r : Bool} (H : mG p0 p1 = U r) (s : (bp).rd w [] p0 c) (t : (bp).rd w [] p1 d) :
    Calls Tryz.prog 136 #[.agg c.toArray, .agg d.toArray] w (fun en w' => en = .returned (B r) ∧ Ext [] w w') := by
 obtain ⟨u, v, rfl, e, i⟩ := aW s
 obtain ⟨x, A, rfl⟩ := ah e
 obtain rfl := i
 obtain ⟨C, D, rfl, f, j⟩ := aW t
 obtain ⟨E, F, rfl⟩ := ah f
 obtain rfl := j
 unfold mG at H
 refine aq Tryz.func136 z Tryz.ntmps136 z (St.init w []) <| sR <| ob _ z fun k => ob _ z fun l => oP z <| nR <| aa [.fa 73 1 1 nf] z <| o1 z (r1 1 0 z ty3 z) <| aa [.fa 73 1 1 nf] z <| o1 z (r1 1 1 z ty3 z) <| oPP z <| bE H fun m a H => aL [(16, B m), (4, B n)] 6 ?_ (fun key => OW.sub (R := [(2, O (U ⟨k, 0, N⟩)), (3, O (U ⟨l, 0, N⟩)), (4, B n), (10, B (p0.A_ == p1.A_))]) ?_ (sb z))
 ·exact oP z <| nT <| xr 4 z (by cases H; exact q1)
 ·clear H
  have H := a
  clear a
  generalize (p0.A_ == p1.A_) = o at H key ⊢
  cases o
  ·have H := aQ z H
   refine aa [.p, .p, .p, .p, .p, .p] z ?_
   obtain rfl := ak H
   exact OW.sub key (sb z)
  ·have H := aR z H
   refine aa [.fa 73 0 0 eg] z <| o1 z (r1 0 0 z kN z) <| aa [.fa 73 0 0 eg] z <| o1 z (r1 0 1 z kN z) <| bE H fun G q H => oq z (qc z Nk (fun h g => dY h q (ab e h g) (ab f h g))) tt2 <| oP z <| ?_
   obtain rfl := ak H
   exact OW.sub key (sb z)
theorem xF (w : World) {p0 : bi} {p1 : az} {l : List Value} {m : List Value} {r : Bool} (H : mv p0 p1 = U r) (g0 : (dL).rd w [] p0 l) (g1 : (ba).rd w [] p1 m) :
    Calls Tryz.prog 100 #[.agg l.toArray, .agg m.toArray] w (fun en w' => en = .returned (B r) ∧ Ext [] w w') := by
 obtain ⟨a9, b0, b1, b2, b3, b4, b5, rfl, u, v, A, C, D, E, F⟩ := cP g0
 obtain ⟨b6, b7, rfl, d, e⟩ := aO u
 obtain ⟨b8, b9, rfl⟩ := ah d
 obtain ⟨c0, c1, rfl⟩ := ah e
 obtain rfl := v
 obtain rfl := A
 obtain rfl := C
 obtain rfl := D
 obtain rfl := E
 obtain rfl := F
 obtain ⟨c2, c3, c4, c5, rfl, G, L, M, P⟩ := dX g1
 obtain ⟨c6, c7, rfl, o, Q⟩ := aW G
 obtain ⟨c8, c9, rfl⟩ := ah o
 obtain rfl := Q
 obtain rfl := L
 obtain ⟨d0, d1, rfl, h, T⟩ := aW M
 obtain ⟨d2, d3, rfl⟩ := ah h
 obtain rfl := T
 obtain ⟨d4, d5, rfl, V, X⟩ := dE P
 obtain ⟨d6, rfl, q⟩ := aT V
 obtain ⟨d7, d8, rfl⟩ := ah q
 obtain ⟨d9, rfl, s⟩ := aT X
 obtain ⟨e0, e1, rfl⟩ := ah s
 unfold mv at H
 refine aq Tryz.func100 z Tryz.ntmps100 z (St.init w []) <| sR <| ob _ z fun f => ob _ z fun g => oP z <| nQ <| ai <| sR <| o1 z (rx 0 0 _ z sx z) <| bE H fun t Z H => oq z (qc z Nu (fun c a => ut c Z (cl (av (ab d c a) (ab e c a)) z z z z z z))) tt2 <| oPP z <| bE H fun i j H => aL [(17, B i), (2, O (U ⟨f, 0, N⟩)), (3, O (U ⟨g, 0, N⟩))] 9 ?_ (fun key => OW.sub (R := [(2, O (U ⟨f, 0, N⟩)), (3, O (U ⟨g, 0, N⟩)), (8, B (!t))]) ?_ (sb z))
 ·refine oP z <| bE H fun a0 k H => aL [(23, B a0), (2, O (U ⟨f, 0, N⟩)), (3, O (U ⟨g, 0, N⟩))] 5 ?_ (fun key => OW.sub (R := [(2, O (U ⟨f, 0, N⟩)), (3, O (U ⟨g, 0, N⟩)), (18, B i)]) ?_ (sb z))
  ·refine nQ <| cI H z (fun H => ?_) (fun H => ?_)
   ·exact sR <| oP z <| nT <| af <| xr 4 z (by cases H; exact q1)
   ·refine aj <| ao <| ai <| sR <| aa [.fa 79 1 2 tO] z <| o1 z (r1 2 1 z ty4 z) <| nQ <| cI H z (fun H => ?_) (fun H => ?_)
    ·exact sR <| aa [.fa 47 0 0 mr] z <| o1 z (rx 0 0 _ z ja z) <| aa [.fa 47 1 2 ru] z <| o1 z (rx 2 0 _ z ry z) <| aa [.fa 79 2 3 qh] z <| o1 z (rx 3 1 _ z ol z) <| bE H fun e2 a1 H => oq z (qc z Lr (fun c a => wR c (p1 := p0.c_) a1 (av (ab d c a) (ab e c a)) (bh (ab h c a) z))) tt2 <| oP z <| nT <| af <| xr 4 z (by cases H; exact q1)
    ·exact aj <| ao <| sR <| aa [.fa 79 2 3 qh] z <| o1 z (rx 3 1 _ z ol z) <| o1 z (uU [] [S N 0 0, I J 0] z z ol Qr z Y z) <| bE H fun e3 a2 H => oq z (qc z Ni (fun c a => xV c a2 (bh (ab h c a) z) (bh (x := (ap.mk ([] : List au) 0)) GO z))) tt2 <| oP z <| nT <| xr 4 z (by cases H; exact q1)
  ·clear H
   have H := k
   clear k
   generalize i = a3 at H key ⊢
   cases a3
   ·have H := aQ z H
    refine aa [.fa 79 3 5 rf] z <| o1 z (rx 5 1 _ z Bd z) <| bE H fun e4 a4 H => oq z (qc z OI (fun c a => BD c a4 (gF (bg (ab q c a)) (bg (ab s c a))))) tt2 <| oP z <| oP z <| ?_
    obtain rfl := ak H
    exact OW.sub key (sb z)
   ·have H := aR z H
    refine aa [.p, .p, .p, .p, .p] z ?_
    obtain rfl := ak H
    exact OW.sub key (sb z)
 ·clear H
  have H := j
  clear j
  generalize (!t) = a5 at H key ⊢
  cases a5
  ·have H := aQ z H
   refine aa [.fa 47 0 0 mr] z <| o1 z (rx 0 0 _ z ja z) <| aa [.fa 47 1 2 ru] z <| o1 z (rx 2 0 _ z ry z) <| aa [.fa 79 0 0 sX] z <| o1 z (rx 0 1 _ z ol z) <| bE H fun e5 a6 H => oq z (qc z Lr (fun c a => wR c (p1 := p0.c_) a6 (av (ab d c a) (ab e c a)) (bh (ab o c a) z))) tt2 <| oP z <| oP z <| ?_
   obtain rfl := ak H
   exact OW.sub key (sb z)
  ·have H := aR z H
   refine aa [.p, .p, .p, .p, .p, .p, .p, .p, .p] z ?_
   obtain rfl := ak H
   exact OW.sub key (sb z)
theorem vK (w : World) {p0 : az} {p1 : bi} {d : List Value} {q_1 : Addr} {cs_1 : List Value} {r : Bool} (H : mY p0 p1 = U r) (Q : (ba).rd w [] p0 d) (g_1 : (dL).rd w [] p1 cs_1) (hA_1 : At w [] q_1 cs_1) :
    Calls Tryz.prog 99 #[.agg d.toArray, O (U q_1)] w (fun en w' => en = .returned (B r) ∧ Ext [] w w') := by
 obtain ⟨R, T, V, X, rfl, k, l, m, o⟩ := dX Q
 obtain ⟨Z, a0, rfl, e, p⟩ := aW k
 obtain ⟨a1, a2, rfl⟩ := ah e
 obtain rfl := p
 obtain rfl := l
 obtain ⟨a3, a4, rfl, f, q⟩ := aW m
 obtain ⟨a5, a6, rfl⟩ := ah f
 obtain rfl := q
 obtain ⟨a7, a8, rfl, s, t⟩ := dE o
 obtain ⟨a9, rfl, g⟩ := aT s
 obtain ⟨b0, b1, rfl⟩ := ah g
 obtain ⟨b2, rfl, h⟩ := aT t
 obtain ⟨b3, b4, rfl⟩ := ah h
 obtain ⟨b5, b6, b7, b8, b9, c0, c1, rfl, u, v, x, A, C, D, E⟩ := cP g_1
 obtain ⟨c2, c3, rfl, i, j⟩ := aO u
 obtain ⟨F, G, rfl⟩ := ah i
 obtain ⟨L, M, rfl⟩ := ah j
 obtain rfl := v
 obtain rfl := x
 obtain rfl := A
 obtain rfl := C
 obtain rfl := D
 obtain rfl := E
 unfold mY at H
 exact aq Tryz.func99 z Tryz.ntmps99 z (St.init w []) <| sR <| ob _ z fun c4 => oP z <| nR <| o1 z (cu (cs := [S F p1.p_.d_.length G, S L p1.p_.m_.length M, I J p1.c_.L_, I J p1.c_.K_, I J p1.c_.M_, I J p1.c_.f_, I J p1.c_.b_, I J p1.c_.G_, B p1.c_.P_, I J p1.j_, I J p1.N_, I J p1.O_, I J p1.s_, I J p1.t_]) z z sx (bB bor hA_1) z) <| o1 z (rx 0 0 _ z mC z) <| bE H fun c5 P H => oq z (qc z OC (fun c a => xF c P (cl (av (ab i c a) (ab j c a)) z z z z z z) (kg (bh (ab e c a) z) z (bh (ab f c a) z) (gF (bg (ab g c a)) (bg (ab h c a)))))) tt2 <| oPP z <| nT <| xr 3 z (by cases H; exact q1)
theorem fB (w : World) {p0 : List az} {p1_0 : bi} {a_0 : Option Addr} {n_0 c_0 : Nat} {q_1_0 : Addr} {cs_1_0 : List Value} {r : Int} (H : bT p0 p1_0 = U r) (V : (ae (ba) 79).rd w [] p0 [S a_0 n_0 c_0]) (g_1_0 : (dL).rd w [] p1_0 cs_1_0) (hA_1_0 : At w [] q_1_0 cs_1_0) :
    Calls Tryz.prog 133 #[S a_0 n_0 c_0, .func (.func 99) #[] #[O (U q_1_0)]] w (fun en w' => en = .returned (I J r) ∧ Ext [] w w') := by
 obtain rfl := eb V
 obtain ⟨c4, c5, c6, c7, c8, c9, d0, rfl, X, Z, a0, a1, a2, a3, a4⟩ := cP g_1_0
 obtain ⟨d1, d2, rfl, l, m⟩ := aO X
 obtain ⟨a5, a6, rfl⟩ := ah l
 obtain ⟨a7, a8, rfl⟩ := ah m
 obtain rfl := Z
 obtain rfl := a0
 obtain rfl := a1
 obtain rfl := a2
 obtain rfl := a3
 obtain rfl := a4
 unfold bT at H
 refine aq Tryz.func133 z Tryz.ntmps133 z (St.init w []) <| sR <| oP z <| nQ <| ai <| sR <| aa [.p, .lenS 48 79 qi, .p] z <| nQ <| an <| CW.at (dn (fun (d : Int) => St w [] []) (fun d => [(0, S a_0 p0.length c_0), (1, .func (.func 99) #[] #[O (U q_1_0)]), (7, I J (p0.length : Int)), (8, I J d)]) (fun kk => fun d => aS p0 p1_0 kk d = U r) (fun _ H => ?_) (fun k1 o d H => ?_) aK (0) (H)) (ss [] z z) (sb z)
 ·unfold aS at H
  exact absurd H (by simp)
 ·unfold aS at H
  refine sR <| oP z <| nQ <| ai <| cI H z (fun H => ?_) (fun H => ?_)
  ·refine aj <| ao <| ai <| an <| sR <| oPP z <| nR <| aa [.p, .p, .p] z <| bE H fun a q H => bQ z z z z z qi mC z V q fun a9 b0 j k => ?_
   obtain ⟨b1, b2, b3, b4, rfl, s, t, u, v⟩ := dX j
   obtain ⟨b5, b6, rfl, f, x⟩ := aW s
   obtain ⟨A, C, rfl⟩ := ah f
   obtain rfl := x
   obtain rfl := t
   obtain ⟨b7, b8, rfl, g, D⟩ := aW u
   obtain ⟨E, F, rfl⟩ := ah g
   obtain rfl := D
   obtain ⟨b9, c0, rfl, G, L⟩ := dE v
   obtain ⟨c1, rfl, h⟩ := aT G
   obtain ⟨M, P, rfl⟩ := ah h
   obtain ⟨c2, rfl, i⟩ := aT L
   obtain ⟨Q, R, rfl⟩ := ah i
   refine o1 z (cu (cs := [S A a.F_.b_.length C, I J a.F_.A_, B a.S_, S E a.w_.b_.length F, I J a.w_.A_, S M a.H_.s_.o_.length P, S Q a.H_.t_.o_.length R]) z z mC (bB bor k) z) <| bE H fun c3 T H => CF z z (bU z) (pB (cap := [O (U q_1_0)]) z Pm z z (fun e c => vK e (cs_1 := [S a5 p1_0.p_.d_.length a6, S a7 p1_0.p_.m_.length a8, I J p1_0.c_.L_, I J p1_0.c_.K_, I J p1_0.c_.M_, I J p1_0.c_.f_, I J p1_0.c_.b_, I J p1_0.c_.G_, B p1_0.c_.P_, I J p1_0.j_, I J p1_0.N_, I J p1_0.O_, I J p1_0.s_, I J p1_0.t_]) T (kg (bh (ab f e c) z) z (bh (ab g e c) z) (gF (bg (ab h e c)) (bg (ab i e c)))) (cl (av (ab l e c) (ab m e c)) z z z z z z) (bB bor hA_1_0 e c))) (fun _ _ => Y) <| nQ <| cI H z (fun H => ?_) (fun H => ?_)
   ·exact sR <| oPP z <| nT <| ar <| af <| bd <| ar <| af <| xr 4 z (by cases H; exact q1)
   ·exact aj <| cx <| ao <| aJ <| oPP z <| aE <| cz (RW.at (o (J.wrap (d + 1)) (H)) (ss [] z z) (sb z))
  ·exact bb <| aw <| ay <| ax <| ao <| sR <| oP z <| nT <| xr 4 z (by cases H; exact q1)
theorem fh (w : World) {p0 : List az} {p1_0 : bi} {a_0 : Option Addr} {n_0 c_0 : Nat} {q_1_0 : Addr} {cs_1_0 : List Value} {r : Bool} (H : br p0 p1_0 = U r) (f : (ae (ba) 79).rd w [] p0 [S a_0 n_0 c_0]) (g_1_0 : (dL).rd w [] p1_0 cs_1_0) (hA_1_0 : At w [] q_1_0 cs_1_0) :
    Calls Tryz.prog 98 #[S a_0 n_0 c_0, .func (.func 99) #[] #[O (U q_1_0)]] w (fun en w' => en = .returned (B r) ∧ Ext [] w w') := by
 obtain rfl := eb f
 obtain ⟨u, v, x, A, C, D, E, rfl, g, h, i, j, k, l, m⟩ := cP g_1_0
 obtain ⟨F, G, rfl, d, e⟩ := aO g
 obtain ⟨o, p, rfl⟩ := ah d
 obtain ⟨q, s, rfl⟩ := ah e
 obtain rfl := h
 obtain rfl := i
 obtain rfl := j
 obtain rfl := k
 obtain rfl := l
 obtain rfl := m
 unfold br at H
 exact aq Tryz.func98 z Tryz.ntmps98 z (St.init w []) <| sR <| oP z <| nR <| oPP z <| bE H fun L t H => oq z (qc z NA (fun c a => fB c (cs_1_0 := [S o p1_0.p_.d_.length p, S q p1_0.p_.m_.length s, I J p1_0.c_.L_, I J p1_0.c_.K_, I J p1_0.c_.M_, I J p1_0.c_.f_, I J p1_0.c_.b_, I J p1_0.c_.G_, B p1_0.c_.P_, I J p1_0.j_, I J p1_0.N_, I J p1_0.O_, I J p1_0.s_, I J p1_0.t_]) t (ab f c a) (cl (av (ab d c a) (ab e c a)) z z z z z z) (bB bor hA_1_0 c a))) tt2 <| oPP z <| nT <| xr 4 z (by cases H; exact q1)
theorem xe (w : World) {p0 : bi} {p1 : bP} {k : List Value} {l : List Value} {r : Bool} (H : mD p0 p1 = U r) (Q : (dL).rd w [] p0 k) (V : (fy).rd w [] p1 l) :
    Calls Tryz.prog 64 #[.agg k.toArray, .agg l.toArray] w (fun en w' => en = .returned (B r) ∧ Ext [] w w') := by
 obtain ⟨X, Z, a0, a1, a2, a3, a4, rfl, o, q, s, t, u, v, x⟩ := cP Q
 obtain ⟨a5, a6, rfl, e, f⟩ := aO o
 obtain ⟨A, C, rfl⟩ := ah e
 obtain ⟨D, E, rfl⟩ := ah f
 obtain rfl := q
 obtain rfl := s
 obtain rfl := t
 obtain rfl := u
 obtain rfl := v
 obtain rfl := x
 obtain ⟨a7, rfl, m⟩ := er V
 obtain ⟨a8, a9, rfl⟩ := ah m
 unfold mD at H
 refine aq Tryz.func64 z Tryz.ntmps64 z (St.init w []) <| sR <| ob _ z fun g => ob _ z fun h => oP z <| nR <| o1 z (rx 0 0 _ z sx z) <| bE H fun d F H => oq z (qc z Nu (fun c a => ut c F (cl (av (ab e c a) (ab f c a)) z z z z z z))) tt2 <| oP z <| aL [(14, B (d && ((p1.j_.length : Int) == p0.j_))), (2, O (U ⟨g, 0, N⟩)), (3, O (U ⟨h, 0, N⟩)), (4, B n)] 7 ?_ (fun key => OW.sub (R := [(2, O (U ⟨g, 0, N⟩)), (3, O (U ⟨h, 0, N⟩)), (4, B n), (7, B d)]) ?_ (sb z))
 ·refine oP z <| bE H fun G j H => aL [(21, B G), (4, B n)] 6 ?_ (fun key => OW.sub (R := [(2, O (U ⟨g, 0, N⟩)), (3, O (U ⟨h, 0, N⟩)), (4, B n), (15, B (d && ((p1.j_.length : Int) == p0.j_)))]) ?_ (sb z))
  ·exact oP z <| nT <| xr 4 z (by cases H; exact q1)
  ·clear H
   have H := j
   clear j
   generalize (d && ((p1.j_.length : Int) == p0.j_)) = L at H key ⊢
   cases L
   ·have H := aQ z H
    refine aa [.p, .p, .p, .p, .p, .p] z ?_
    obtain rfl := ak H
    exact OW.sub key (sb z)
   ·have H := aR z H
    refine aa [.fa 50 0 0 qo] z <| o1 z (r1 0 1 z yI z) <| o1 z (uv z z) <| bE H fun b0 M H => oq z (qc z Qj (fun c a => fh c (cs_1_0 := [S A p0.p_.d_.length C, S D p0.p_.m_.length E, I J p0.c_.L_, I J p0.c_.K_, I J p0.c_.M_, I J p0.c_.f_, I J p0.c_.b_, I J p0.c_.G_, B p0.c_.P_, I J p0.j_, I J p0.N_, I J p0.O_, I J p0.s_, I J p0.t_]) M (ab m c a) (cl (av (ab e c a) (ab f c a)) z z z z z z) (jI (T := 47) 0 (mt (i := 0) z) z c a))) tt2 <| oP z <| oP z <| ?_
    obtain rfl := ak H
    exact OW.sub key (sb z)
 ·generalize d = P at key ⊢
  cases P
  ·exact aa [.p, .p, .p, .p, .p, .p, .p] z <| OW.sub key (sb z)
  ·exact aa [.fa 50 0 0 qo] z <| o1 z (r1 0 1 z yI z) <| aa [.lenS 48 79 qi, .fa 47 2 9 ta] z <| o1 z (r1 9 0 z ty3 z) <| oP z <| oP z <| OW.sub key (sb z)
theorem wT (w : World) {p0 : Int} {r : Bool} (H : ox p0 = U r)   :
    Calls Tryz.prog 103 #[I J p0] w (fun en w' => en = .returned (B r) ∧ Ext [] w w') := by
 unfold ox at H
 exact aq Tryz.func103 z Tryz.ntmps103 z (St.init w []) <| sR <| oP z <| nR <| oP z <| bE H fun d a H => oq z (qc z gy (fun c e => be c a)) tt2 <| oPP z <| nT <| xr 2 z (by cases H; exact q1)
theorem xi (w : World) {p0 : List (List Int)} {a_0 : Option Addr} {n_0 c_0 : Nat} {r : Int} (H : mN p0 = U r) (g : (ae (ae eI 3) 69).rd w [] p0 [S a_0 n_0 c_0]) :
    Calls Tryz.prog 104 #[S a_0 n_0 c_0] w (fun en w' => en = .returned (I J r) ∧ Ext [] w w') := by
 obtain rfl := eb g
 unfold mN at H
 refine aq Tryz.func104 z Tryz.ntmps104 z (St.init w []) <| sR <| oP z <| nR <| oP z <| nQ <| ai <| sR <| aa [.p, .lenS 33 69 eK, .p] z <| nQ <| an <| CW.at (fx (fun (a : Int) (c : Int) => St w [] []) (fun a c => [(3, I J a), (6, S a_0 p0.length c_0), (7, I J (p0.length : Int)), (8, I J c)]) (fun kk => fun a c => ew p0 kk a c = U r) (fun _ _ H => ?_) (fun u e a c H => ?_) aK (0) (0) (H)) (ss [] z z) (sb z)
 ·unfold ew at H
  exact absurd H (by simp)
 ·unfold ew at H
  refine sR <| oP z <| nQ <| ai <| cI H z (fun H => ?_) (fun H => ?_)
  ·refine aj <| ao <| ai <| an <| sR <| bE H fun m h H => bQ z z z z z eK bW z g h fun o q d f => ?_
   obtain ⟨s, t, rfl⟩ := ah d
   exact o1 z (aF z z bW (bB bor f)) <| oP z <| nQ <| aJ <| oPP z <| bE H fun i j H => oq z (qc z JE (fun k l => rZ k j (ab d k l))) tt2 <| oPP z <| aE <| cx <| ao <| aJ <| oPP z <| aE <| cz (RW.at (e (J.wrap (a + i)) (J.wrap (c + 1)) (H)) (ss [] z z) (sb z))
  ·exact bb <| aw <| ay <| ax <| ao <| sR <| oPP z <| nT <| xr 2 z (by cases H; exact q1)
theorem iK (w : World) {p0 : List Int} {a_0 : Option Addr} {n_0 c_0 : Nat} {r : Int} (H : cF p0 = U r) (d : (ae eI 3).rd w [] p0 [S a_0 n_0 c_0]) :
    Calls Tryz.prog 137 #[S a_0 n_0 c_0, .func (.func 103) #[] #[]] w (fun en w' => en = .returned (I J r) ∧ Ext [] w w') := by
 obtain rfl := eb d
 unfold cF at H
 refine aq Tryz.func137 z Tryz.ntmps137 z (St.init w []) <| sR <| oP z <| nQ <| ai <| sR <| aa [.p, .lenS 69 3 ce, .p] z <| nQ <| an <| CW.at (dn (fun (a : Int) => St w [] []) (fun a => [(0, S a_0 p0.length c_0), (1, .func (.func 103) #[] #[]), (7, I J (p0.length : Int)), (8, I J a)]) (fun kk => fun a => bw p0 kk a = U r) (fun _ H => ?_) (fun m f a H => ?_) aK (0) (H)) (ss [] z z) (sb z)
 ·unfold bw at H
  exact absurd H (by simp)
 ·unfold bw at H
  refine sR <| oP z <| nQ <| ai <| cI H z (fun H => ?_) (fun H => ?_)
  ·refine aj <| ao <| ai <| an <| sR <| oPP z <| nR <| aa [.p, .p, .p] z <| bE H fun i c H => bO (e := eI) (xs := p0) (j := a) z z z z z ce ty3 z (ab d) c (by rw [Nat.mul_one]) <| o1 z (aF z z ty3 (cq (ab d) c)) <| bE H fun k g H => CF z z (bU z) (pB (cap := []) z Ng z z (fun h l => wT h g)) (fun _ _ => Y) <| nQ <| cI H z (fun H => ?_) (fun H => ?_)
   ·exact sR <| oPP z <| nT <| ar <| af <| bd <| ar <| af <| xr 4 z (by cases H; exact q1)
   ·exact aj <| cx <| ao <| aJ <| oPP z <| aE <| cz (RW.at (f (J.wrap (a + 1)) (H)) (ss [] z z) (sb z))
  ·exact bb <| aw <| ay <| ax <| ao <| sR <| oP z <| nT <| xr 4 z (by cases H; exact q1)
theorem im (w : World) {p0 : List Int} {a_0 : Option Addr} {n_0 c_0 : Nat} {r : Bool} (H : bY p0 = U r) (a : (ae eI 3).rd w [] p0 [S a_0 n_0 c_0]) :
    Calls Tryz.prog 102 #[S a_0 n_0 c_0, .func (.func 103) #[] #[]] w (fun en w' => en = .returned (B r) ∧ Ext [] w w') := by
 obtain rfl := eb a
 unfold bY at H
 exact aq Tryz.func102 z Tryz.ntmps102 z (St.init w []) <| sR <| oP z <| nR <| oPP z <| bE H fun f c H => oq z (qc z Er (fun d e => iK d c (ab a d e))) tt2 <| oPP z <| nT <| xr 4 z (by cases H; exact q1)
theorem yR (w : World) {p0 : Int} {p1 : bo} {a1 : List Value} {r : Bool} (H : om p0 p1 = U r) (g1 : (fZ).rd w [] p1 a1) :
    Calls Tryz.prog 65 #[I J p0, .agg a1.toArray] w (fun en w' => en = .returned (B r) ∧ Ext [] w w') := by
 obtain ⟨c9, d0, rfl, E, L⟩ := eU g1
 obtain ⟨t, u, rfl⟩ := ah E
 obtain ⟨l, m, rfl⟩ := ah L
 unfold om at H
 refine aq Tryz.func65 z Tryz.ntmps65 z (St.init w []) <| sR <| ob _ z fun c => oP z <| nQ <| ai <| sR <| oP z <| bE H fun M b2 H => oq z (qc z gy (fun q v => be q b2)) tt2 <| oPP z <| aL [(20, B ((!M) || ((p1.n_.length : Int) != p0))), (0, I J p0), (3, O (U ⟨c, 0, N⟩))] 6 ?_ (fun key => OW.sub (R := [(0, I J p0), (3, O (U ⟨c, 0, N⟩)), (14, B (!M))]) ?_ (sb z))
 ·refine nQ <| cI H z (fun H => ?_) (fun H => ?_)
  ·exact sR <| oP z <| nT <| af <| xr 4 z (by cases H; exact q1)
  ·refine aj <| ao <| ai <| sR <| aa [.fa 53 0 0 mp] z <| o1 z (r1 0 0 z fw z) <| aa [.lenS 33 69 eK, .p] z <| nQ <| an <| CW.at (dn (fun (o : Int) => St w [] [b c 53 [S t p1.n_.length u, S l p1.l_.length m]]) (fun o => [(0, I J p0), (3, O (U ⟨c, 0, N⟩)), (22, S t p1.n_.length u), (23, I J (p1.n_.length : Int)), (24, I J o)]) (fun kk => fun o => dP p1 p0 kk o = U r) (fun _ H => ?_) (fun k1 a2 o H => ?_) aK (0) (H)) (ss [0] z z) (sb z)
   ·unfold dP at H
    exact absurd H (by simp)
   ·unfold dP at H
    refine sR <| oP z <| nQ <| ai <| cI H z (fun H => ?_) (fun H => ?_)
    ·refine aj <| ao <| ai <| an <| sR <| bE H fun P b3 H => bQ z z z z z eK bW z E b3 fun d1 d2 Q a3 => ?_
     obtain ⟨b4, b5, rfl⟩ := ah Q
     refine o1 z (aF z z bW (bB bor a3)) <| oP z <| nR <| aa [.p, .lenS 69 3 ce, .p, .p, .p] z <| bE H fun b6 T H => aL [(35, B b6), (0, I J p0), (3, O (U ⟨c, 0, N⟩)), (22, S t p1.n_.length u), (23, I J (p1.n_.length : Int)), (24, I J o)] 3 ?_ (fun key => OW.sub (R := [(0, I J p0), (3, O (U ⟨c, 0, N⟩)), (6, S b4 P.length b5), (22, S t p1.n_.length u), (23, I J (p1.n_.length : Int)), (24, I J o), (32, B ((P.length : Int) != p0))]) ?_ (sb z))
     ·refine nQ <| cI H z (fun H => ?_) (fun H => ?_)
      ·exact sR <| oP z <| nT <| ar <| af <| bd <| ar <| af <| xr 4 z (by cases H; exact q1)
      ·exact aj <| cx <| ao <| aJ <| oPP z <| aE <| cz (RW.at (a2 (J.wrap (o + 1)) (H)) (ss [0] z z) (sb z))
     ·clear H
      have H := T
      clear T
      generalize ((P.length : Int) != p0) = b7 at H key ⊢
      cases b7
      ·have H := aQ z H
       refine oP z <| bE H fun d3 b8 H => oq z (qc z EB (fun q v => im q b8 (ab Q q v))) tt2 <| oP z <| ?_
       obtain rfl := ak H
       exact OW.sub key (sb z)
      ·have H := aR z H
       refine aa [.p, .p, .p] z ?_
       obtain rfl := ak H
       exact OW.sub key (sb z)
    ·refine bb <| aw <| ay <| ax <| ao <| sR <| aa [.fa 53 0 0 mp] z <| o1 z (r1 0 0 z fw z) <| bE H fun x b9 H => oq z (qc z OP (fun q v => xi q b9 (ab E q v))) tt2 <| oP z <| nQ <| ai <| sR <| aa [.p, .p, .p] z <| aL [(49, B ((decide (x > 9999)) || ((p1.l_.length : Int) != (if 20 < x then 20 else x)))), (0, I J p0), (3, O (U ⟨c, 0, N⟩))] 7 ?_ (fun key => OW.sub (R := [(0, I J p0), (3, O (U ⟨c, 0, N⟩)), (7, I J x), (42, B (decide (x > 9999)))]) ?_ (sb z))
     ·refine nQ <| cI H z (fun H => ?_) (fun H => ?_)
      ·exact sR <| oP z <| nT <| af <| xr 4 z (by cases H; exact q1)
      ·refine aj <| ao <| sR <| Gf (κ := aM) fY z z z z (fun _ => kp) fun s => oP z <| nQ <| ai <| sR <| aa [.fa 53 1 1 lO] z <| o1 z (r1 1 0 z ug z) <| aa [.lenS 51 84 pi, .p] z <| nQ <| an <| CW.at (fx (fun (g : Int) (d : List (aM × Int)) => St w [] [b c 53 [S t p1.n_.length u, S l p1.l_.length m], Res.map fY s d]) (fun g d => [(0, I J p0), (3, O (U ⟨c, 0, N⟩)), (8, .map (U s)), (52, S l p1.l_.length m), (53, I J (p1.l_.length : Int)), (54, I J g)]) (fun kk => fun g d => dt p1 p0 kk g d = U r) (fun _ _ H => ?_) (fun k2 a4 g d H => ?_) aK (0) (([] : List (aM × Int))) (H)) (ss [0, 1] z z) (sb z)
       ·unfold dt at H
        exact absurd H (by simp)
       ·unfold dt at H
        refine sR <| oP z <| nQ <| ai <| cI H z (fun H => ?_) (fun H => ?_)
        ·refine aj <| ao <| ai <| an <| sR <| bE H fun a V H => bO (e := bD) (xs := p1.l_) (j := g) z z z z z pi nN z (ab L) V z <| o1 z (cu (cs := [I J a.Q_, I J a.R_]) z z nN (ls (mS (ab L) V (fun _ _ h => h)) z) z) <| bL z z z z nN (fun _ => kp) fun A => sC 0 [I J a.Q_, I J a.R_] [_, _] 2 z nN z <| nQ <| ai <| tj 6 [(0, y), (1, y), (2, y), (3, y), (4, n), (5, y)] (St w [] [b c 53 [S t p1.n_.length u, S l p1.l_.length m], Res.mapG fY s d, b A 84 [I J a.Q_, I J a.R_]]) eR (by kernel_rfl) (iS (te (iS (Ac (te (iS kw)))))) (fun _ h => St.mask [y, y, y] z (St.toG 1 z (fun _ => z) h)) <| oP z <| nr z (bU z) (rx 0 2 _ z nN z) <| nr z (bU z) (Cg (f := fY) (es := d) (k := a) z z z JJ iz3 MQ (MJ (i := 1) z)) <| oP z <| Ff (f := fY) (r := 1) (es := d) (k := a) z z z z z z JJ iz3 MQ z (fun _ h => St.mask [y, y, y] z (St.toG 1 z (by first | exact fun _ => z | exact Jm _ _) h)) <| oP z <| sV <| Fz <| BL (f := fY) (r := 1) (es := d) (k := a) z z z z z z z z kp <| nQ <| ai <| eF eR (by kernel_rfl) <| aa [.fa 84 0 0 rY] z <| o1 z (r1 0 2 z ty3 z) <| oPP z <| bE H fun X a5 H => oq z (qc z gy (fun q v => be q a5)) tt2 <| oPP z <| bE H fun D F H => aL [(77, B D), (0, I J p0), (3, O (U ⟨c, 0, N⟩)), (8, .map (U s)), (10, O (U ⟨A, 0, N⟩)), (52, S l p1.l_.length m), (53, I J (p1.l_.length : Int)), (54, I J g)] 7 ?_ (fun key => OW.sub (R := [(0, I J p0), (3, O (U ⟨c, 0, N⟩)), (8, .map (U s)), (10, O (U ⟨A, 0, N⟩)), (52, S l p1.l_.length m), (53, I J (p1.l_.length : Int)), (54, I J g), (70, B (!X))]) ?_ (sb z))
         ·refine oP z <| bE H fun a6 G H => aL [(93, B a6), (0, I J p0), (3, O (U ⟨c, 0, N⟩)), (8, .map (U s)), (52, S l p1.l_.length m), (53, I J (p1.l_.length : Int)), (54, I J g)] 15 ?_ (fun key => OW.sub (R := [(0, I J p0), (3, O (U ⟨c, 0, N⟩)), (8, .map (U s)), (10, O (U ⟨A, 0, N⟩)), (52, S l p1.l_.length m), (53, I J (p1.l_.length : Int)), (54, I J g), (78, B D)]) ?_ (sb z))
          ·refine dg <| ao <| cI H z (fun H => ?_) (fun H => ?_)
           ·exact sR <| oP z <| nT <| ar <| af <| bd <| ar <| af <| xr 4 z (by cases H; exact q1)
           ·exact aj <| cx <| ao <| aJ <| oPP z <| aE <| cz (RW.at (a4 (J.wrap (g + 1)) ((vy d a (J.wrap ((gr d a) + 1)))) (H)) (ss [0, 1] z z) (sb z))
          ·clear H
           have H := G
           clear G
           generalize D = a7 at H key ⊢
           cases a7
           ·have H := aQ z H
            refine oP z <| o1 z (rx 0 2 _ z nN z) <| o1 z (Cg (f := fY) (es := (vy d a (J.wrap ((gr d a) + 1)))) (k := a) z z z JJ iz3 MQ (MO (i := 1) z)) <| aa [.fa 53 0 0 mp] z <| o1 z (r1 0 0 z fw z) <| aa [.fa 84 0 0 rY] z <| o1 z (r1 0 2 z ty3 z) <| bE H fun a8 a9 H => bQ z z z z z eK bW z E a9 fun c3 c4 C a0 => ?_
            obtain ⟨c5, c6, rfl⟩ := ah C
            refine o1 z (aF z z bW (bB bor a0)) <| aa [.fa 84 1 1 sc] z <| o1 z (r1 1 2 z ty3 z) <| bE H fun c7 Z H => bO (e := eI) (xs := a8) (j := a.R_) z z z z z ce ty3 z (ab C) Z (by rw [Nat.mul_one]) <| o1 z (aF z z ty3 (cq (ab C) Z)) <| oP z <| oP z <| ?_
            obtain rfl := ak H
            exact OW.sub key (sb z)
           ·have H := aR z H
            refine aa [.p, .p, .p, .p, .p, .p, .p, .p, .p, .p, .p, .p, .p, .p, .p] z ?_
            obtain rfl := ak H
            exact OW.sub key (sb z)
         ·clear H
          have H := F
          clear F
          generalize (!X) = b0 at H key ⊢
          cases b0
          ·have H := aQ z H
           refine aa [.fa 84 1 1 sc] z <| o1 z (r1 1 2 z ty3 z) <| oPP z <| bE H fun c8 b1 H => oq z (qc z gy (fun q v => be q b1)) tt2 <| oP z <| oP z <| ?_
           obtain rfl := ak H
           exact OW.sub key (sb z)
          ·have H := aR z H
           refine aa [.p, .p, .p, .p, .p, .p, .p] z ?_
           obtain rfl := ak H
           exact OW.sub key (sb z)
        ·exact bb <| aw <| ay <| ax <| ao <| sR <| oP z <| nT <| xr 4 z (by cases H; exact q1)
     ·generalize (decide (x > 9999)) = c0 at key ⊢
      cases c0
      ·exact aa [.fa 53 1 1 lO] z <| o1 z (r1 1 0 z ug z) <| aa [.lenS 51 84 pi, .p] z <| o1 z (MP z z z) <| oP z <| oP z <| OW.sub key (sb z)
      ·exact aa [.p, .p, .p, .p, .p, .p, .p] z <| OW.sub key (sb z)
 ·generalize (!M) = c1 at key ⊢
  cases c1
  ·exact aa [.fa 53 0 0 mp] z <| o1 z (r1 0 0 z fw z) <| aa [.lenS 33 69 eK, .p, .p] z <| oP z <| OW.sub key (sb z)
  ·exact aa [.p, .p, .p, .p, .p, .p] z <| OW.sub key (sb z)
theorem yJ (w : World) {p0 : aP} {e : List Value} {r : Bool} (H : mj p0 = U r) (L : (jx).rd w [] p0 e) :
    Calls Tryz.prog 28 #[.agg e.toArray] w (fun en w' => en = .returned (B r) ∧ Ext [] w w') := by
 obtain ⟨M, P, Q, rfl, l, m, o⟩ := jc L
 obtain ⟨T, V, X, Z, a0, a1, a2, rfl, q, s, t, u, v, x, A⟩ := cP l
 obtain ⟨a3, a4, rfl, f, g⟩ := aO q
 obtain ⟨a5, a6, rfl⟩ := ah f
 obtain ⟨a7, a8, rfl⟩ := ah g
 obtain rfl := s
 obtain rfl := t
 obtain rfl := u
 obtain rfl := v
 obtain rfl := x
 obtain rfl := A
 obtain ⟨a9, rfl, h⟩ := er m
 obtain ⟨b0, b1, rfl⟩ := ah h
 obtain ⟨b2, b3, rfl, i, j⟩ := eU o
 obtain ⟨b4, b5, rfl⟩ := ah i
 obtain ⟨b6, b7, rfl⟩ := ah j
 unfold mj at H
 refine aq Tryz.func28 z Tryz.ntmps28 z (St.init w []) <| sR <| ob _ z fun C => oP z <| nR <| aa [.fa 55 0 0 mq] z <| o1 z (rx 0 0 _ z sx z) <| aa [.fa 55 1 14 sU] z <| o1 z (rx 14 0 _ z zO z) <| bE H fun k D H => oq z (qc z Pj (fun c a => xe c D (cl (av (ab f c a) (ab g c a)) z z z z z z) (dV (ab h c a)))) tt2 <| oP z <| bE H fun E d H => aL [(17, B E), (2, B n)] 9 ?_ (fun key => OW.sub (R := [(1, O (U ⟨C, 0, N⟩)), (2, B n), (8, B k)]) ?_ (sb z))
 ·exact oP z <| nT <| xr 2 z (by cases H; exact q1)
 ·clear H
  have H := d
  clear d
  generalize k = F at H key ⊢
  cases F
  ·have H := aQ z H
   refine aa [.p, .p, .p, .p, .p, .p, .p, .p, .p] z ?_
   obtain rfl := ak H
   exact OW.sub key (sb z)
  ·have H := aR z H
   refine aa [.fa 55 0 0 mq, .fa 47 0 0 mr, .fa 44 1 1 lN] z <| o1 z (r1 1 0 z lr z) <| aa [.lenS 23 9 gm, .fa 55 2 15 ni] z <| o1 z (rx 15 0 _ z zW z) <| bE H fun b8 G H => oq z (qc z PX (fun c a => yR c G (ei (ab i c a) (ab j c a)))) tt2 <| oP z <| ?_
   obtain rfl := ak H
   exact OW.sub key (sb z)
theorem AA (w : World) {p0 : Int} {r : List UInt8} (H : pH p0 = U r) (gT : (uw Tryz.prog).rd w [] () []) :
    Calls Tryz.prog 142 #[I J p0] w (fun en w' => en = .returned (vS r) ∧ Ext [] w w') := by
 unfold pH at H
 exact aq Tryz.func142 z Tryz.ntmps142 z (St.init w []) <| sR <| oP z <| nR <| oP z <| bE H fun e a H => oq z (qc z Pb (fun c d => KJ Tryz.laysM171 c a (ab gT c d))) tt2 <| oP z <| nT <| xr 2 z (by cases H; exact q1)
theorem vc (w : World) {p0 : List Int} {p1 : List UInt8} {a_0 : Option Addr} {n_0 c_0 : Nat} {r : List UInt8} (H : ki p0 p1 = U r) (s : (ae eI 3).rd w [] p0 [S a_0 n_0 c_0]) (gT : (uw Tryz.prog).rd w [] () []) :
    Calls Tryz.prog 107 #[S a_0 n_0 c_0, vS p1] w (fun en w' => en = .returned (vS r) ∧ Ext [] w w') := by
 obtain rfl := eb s
 unfold ki at H
 refine aq Tryz.func107 z Tryz.ntmps107 z (St.init w []) <| sR <| oP z <| nR <| jw (e := cy) z z z z gm ty9 (fun _ => kp) fun m => oP z <| nQ <| ai <| sR <| aa [.p, .lenS 69 3 ce, .p] z <| nQ <| an <| CW.at (oL (fun (a : Int) (c : List (List UInt8)) (f : Option Addr) (g : Nat) (k : List Nat) => St w [] [W (ae (cy) 9) k c [S f c.length g]]) (fun a c f g k => [(1, vS p1), (5, S f c.length g), (9, S a_0 p0.length c_0), (10, I J (p0.length : Int)), (11, I J a)]) (fun kk => fun a c f g k => f.isNone = n ∧ dk p0 p1 kk a c = U r) (fun _ _ _ _ _ H => ?_) (fun P t a c f g k ⟨F, H⟩ => ?_) aK (0) (([] : List (List UInt8))) ((U ⟨m, 0, N⟩)) (0) ([m]) (⟨z, H⟩)) (ss [0] z z) (sb z)
 ·unfold dk at H
  exact absurd H (by simp)
 ·unfold dk at H
  refine sR <| oP z <| nQ <| ai <| cI H z (fun H => ?_) (fun H => ?_)
  ·exact aj <| ao <| ai <| an <| sR <| bE H fun G o H => bO (e := eI) (xs := p0) (j := a) z z z z z ce ty3 z (ab s) o (by rw [Nat.mul_one]) <| o1 z (aF z z ty3 (cq (ab s) o)) <| oP z <| nQ <| aJ <| oPP z <| bE H fun l v H => oq z (qc z NT (fun h d => AA h v (ab gT h d))) tt2 <| dm (val := vS) (h1 := fun _ => z) [l] [(0, [vS l])] z z z z z gm ty9 z z z ⟨z, z, nl z, Y⟩ z z (fun _ => kp) fun L => bE H fun x q H => cV (r := 0) (ys := ([l] : List (List UInt8))) z z z z z z gm ty9 z z z (fun h d => aY (e := ae (cy) 9) (r := 1) z h d) q (fun _ _ _ => kp) fun A C D => el z (fun h d => rW (i := 0) d z (sa q)) fun u => oP z <| aE <| cx <| ao <| aJ <| oPP z <| aE <| cz (RW.at (t (J.wrap (a + 1)) (x) (A) (C) (D) (⟨u, H⟩)) (ss [0] z z) (sb z))
  ·exact bb <| aw <| ay <| ax <| ao <| sR <| oPP z <| bE H fun M E H => oq z (qc z KF (fun h d => zu (T := 9) Tryz.lays156 Tryz.Builder_Extra_156 h E (aY (e := ae (cy) 9) (r := 0) z h d))) tt2 <| oP z <| nT <| xr 4 z (by cases H; exact q1)
theorem xC (w : World) {p0 : aB} {f : List Value} {r : List UInt8} (H : lc p0 = U r) (q : (bj).rd w [] p0 f) (gT : (uw Tryz.prog).rd w [] () []) :
    Calls Tryz.prog 68 #[.agg f.toArray] w (fun en w' => en = .returned (vS r) ∧ Ext [] w w') := by
 obtain ⟨s, t, u, rfl, g, d, e⟩ := bV q
 obtain rfl := g
 obtain ⟨v, x, rfl⟩ := ah d
 obtain ⟨A, C, rfl⟩ := ah e
 unfold lc at H
 refine aq Tryz.func68 z Tryz.ntmps68 z (St.init w []) <| sR <| ob _ z fun D => oP z <| nQ <| ai <| sR <| o1 z (rx 0 0 _ z ed z) <| bE H fun E h H => oq z (qc z LI (fun c a => tR c h (cZ z (ab d c a) (ab e c a)))) tt2 <| oP z <| nQ <| cI H z (fun H => ?_) (fun H => ?_)
 ·exact sR <| oP z <| nT <| af <| xr 2 z (by cases H; exact q1)
 ·refine aj <| ao <| ai <| sR <| aa [.fa 111 1 1 gn] z <| o1 z (r1 1 0 z bW z) <| aa [.lenS 69 3 ce, .p] z <| nQ <| cI H z (fun H => ?_) (fun H => ?_)
  ·exact ai <| eF eR (by kernel_rfl) <| aa [.fa 111 0 0 me] z <| o1 z (r1 0 0 z ty9 z) <| bE H fun F i H => o1 z (iX z z z i) <| aa [.fa 111 1 1 gn] z <| o1 z (r1 1 0 z bW z) <| bE H fun G j H => oq z (qc z Of (fun c a => vc c j (ab d c a) (ab gT c a))) tt2 <| bE H fun L k H => o1 z (iX z z z k) <| oP z <| dg <| ao <| rG <| af <| xr 2 z (by cases H; exact q1)
  ·exact aj <| ao <| ai <| eF eR (by kernel_rfl) <| aa [.fa 111 0 0 me] z <| o1 z (r1 0 0 z ty9 z) <| bE H fun M l H => o1 z (iX z z z l) <| aa [.fa 111 2 2 ks] z <| o1 z (r1 2 0 z lr z) <| bE H fun P m H => oq z (qc z KF (fun c a => zu (T := 9) Tryz.lays156 Tryz.Builder_Extra_156 c m (ab e c a))) tt2 <| bE H fun Q o H => o1 z (iX z z z o) <| oP z <| dg <| ao <| rG <| xr 2 z (by cases H; exact q1)
theorem vo (w : World) {p0 : am} {D : List Value} {r : List UInt8} (H : kM p0 = U r) (g0 : (bK).rd w [] p0 D) (gT : (uw Tryz.prog).rd w [] () []) :
    Calls Tryz.prog 30 #[.agg D.toArray] w (fun en w' => en = .returned (vS r) ∧ Ext [] w w') := by
 obtain ⟨b9, c0, rfl, m, o⟩ := aO g0
 obtain ⟨E, F, rfl⟩ := ah m
 obtain ⟨a6, a7, rfl⟩ := ah o
 unfold kM at H
 refine aq Tryz.func30 z Tryz.ntmps30 z (St.init w []) <| sR <| ob _ z fun G => oP z <| nQ <| ai <| sR <| o1 z (rx 0 0 _ z ja z) <| bE H fun c1 a8 H => oq z (qc z HZ (fun c a => iG c a8 (av (ab m c a) (ab o c a)))) tt2 <| oP z <| nQ <| cI H z (fun H => ?_) (fun H => ?_)
 ·exact sR <| oP z <| nT <| af <| xr 2 z (by cases H; exact q1)
 ·refine aj <| ao <| sR <| jw (e := cy) z z z z gm ty9 (fun _ => kp) fun L => oP z <| nQ <| ai <| sR <| aa [.fa 44 0 0 fS] z <| o1 z (r1 0 0 z nP z) <| aa [.lenS 42 111 kr, .p] z <| nQ <| an <| CW.at (oL (fun (f : Int) (d : List (List UInt8)) (g : Option Addr) (j : Nat) (l : List Nat) => St w [] [b G 44 [S E p0.d_.length F, S a6 p0.m_.length a7], W (ae (cy) 9) l d [S g d.length j]]) (fun f d g j l => [(1, O (U ⟨G, 0, N⟩)), (3, S g d.length j), (11, S E p0.d_.length F), (12, I J (p0.d_.length : Int)), (13, I J f)]) (fun kk => fun f d g j l => g.isNone = n ∧ dG p0 kk f d = U r) (fun _ _ _ _ _ H => ?_) (fun k1 M f d g j l ⟨b1, H⟩ => ?_) aK (0) (([] : List (List UInt8))) ((U ⟨L, 0, N⟩)) (0) ([L]) (⟨z, H⟩)) (ss [0, 1] z z) (sb z)
  ·unfold dG at H
   exact absurd H (by simp)
  ·unfold dG at H
   refine sR <| oP z <| nQ <| ai <| cI H z (fun H => ?_) (fun H => ?_)
   ·refine aj <| ao <| ai <| an <| sR <| bE H fun h a9 H => bQ z z z z z kr ed z m a9 fun c2 c3 P Q => ?_
    obtain ⟨c4, c5, b2, rfl, R, q, s⟩ := bV P
    obtain rfl := R
    obtain ⟨t, u, rfl⟩ := ah q
    obtain ⟨v, x, rfl⟩ := ah s
    exact o1 z (cu (cs := [vS h.E_, S t h.z_.length u, S v h.I_.length x]) z z ed (bB bor Q) z) <| bL z z z z ed (fun _ => kp) fun b3 => sC 0 [vS h.E_, S t h.z_.length u, S v h.I_.length x] [_, _, _] 2 z ed z <| nQ <| aJ <| oP z <| o1 z (rx 0 2 _ z ed z) <| bE H fun k V H => oq z (qc z Pn (fun c a => xC c V (cZ z (ab q c a) (ab s c a)) (ab gT c a))) tt2 <| dm (val := vS) (h1 := fun _ => z) [k] [(0, [vS k])] z z z z z gm ty9 z z z ⟨z, z, nl z, Y⟩ z z (fun _ => kp) fun b4 => bE H fun X A H => cV (r := 1) (ys := ([k] : List (List UInt8))) z z z z z z gm ty9 z z z (fun c a => aY (e := ae (cy) 9) (r := 3) z c a) A (fun _ _ _ => kp) fun Z a0 a1 => el z (fun c a => rW (i := 1) a z (sa A)) fun C => oP z <| aE <| cx <| ao <| aJ <| oPP z <| aE <| cz (RW.at (M (J.wrap (f + 1)) (X) (Z) (a0) (a1) (⟨C, H⟩)) (ss [0, 1] z z) (sb z))
   ·exact bb <| aw <| ay <| ax <| ao <| ai <| eF eR (by kernel_rfl) <| oP z <| bE H fun b5 a2 H => oq z (qc z KF (fun c a => zu (T := 9) Tryz.lays156 Tryz.Builder_Extra_156 c a2 (aY (e := ae (cy) 9) (r := 1) z c a))) tt2 <| bE H fun b6 a3 H => o1 z (iX z z z a3) <| aa [.fa 44 1 1 lN] z <| o1 z (r1 1 0 z lr z) <| bE H fun b7 a4 H => oq z (qc z KF (fun c a => zu (T := 9) Tryz.lays156 Tryz.Builder_Extra_156 c a4 (ab o c a))) tt2 <| bE H fun b8 a5 H => o1 z (iX z z z a5) <| oP z <| dg <| ao <| rG <| xr 2 z (by cases H; exact q1)
theorem qY (w : World) {t : List Nat} {p0 : Int} {r : (List Int) × Bool} (H : lR p0 = U r) (HS : St w t [] w) :
    Calls Tryz.prog 66 #[I J p0] w (fun en w' => ∃ v, en = .returned v ∧ ∃ (u : Option Addr), ∃ (E : Nat), ∃ (c0 : Nat), ∃ (R : List Nat), v = S u E c0 ∧ u.isNone = r.2 ∧ St w t [W (ae e8 5) R r.1 [S u E c0]] w') := by
 unfold lR at H
 refine aq Tryz.func66 z Tryz.ntmps66 z (HS) <| sR <| oP z <| nQ <| ai <| sR <| oP z <| bE H fun X F H => oq z (qc z gy (fun x g => be x F)) tt2 <| oP z <| nQ <| cI H z (fun H => ?_) (fun H => ?_)
 ·exact sR <| oP z <| nT <| af <| ml (fun _ h => St.pushNil (e := e8) (T := 5) h) <| ca (rs := [.tmp 2]) (vs := [S N 0 0]) z ⟨z, Y⟩ (fun w' hw' => by
   obtain rfl := ak H
   exact ⟨_, z, N, 0, 0, [], z, z, hw'.sel [0] z z⟩)
 ·refine aj <| ao <| sR <| jw (e := e8) z z z z eH ty5 (fun _ => kp) fun k => oP z <| nQ <| ai <| an <| CW.at (oL (fun (a : Int) (c : List Int) (d : Option Addr) (f : Nat) (j : List Nat) => St w t [W (ae e8 5) j c [S d c.length f]]) (fun a c d f j => [(0, I J a), (3, S d c.length f)]) (fun kk => fun a c d f j => d.isNone = n ∧ gL kk a c = U r) (fun _ _ _ _ _ H => ?_) (fun k1 A a c d f j ⟨V, H⟩ => ?_) aK (p0) (([] : List Int)) ((U ⟨k, 0, N⟩)) (0) ([k]) (⟨z, H⟩)) (ss [0] z z) (sb z)
  ·unfold gL at H
   exact absurd H (by simp)
  ·unfold gL at H
   refine ai <| sR <| oPP z <| nQ <| cI H z (fun H => ?_) (fun H => ?_)
   ·exact aj <| ao <| an <| sR <| aa [.p, .p, .p, .p, .cv 3 5 K us3 in5] z <| dm (val := I K) (h1 := fun _ => z) [K.wrap (io .or J (io .and J a 127) 128)] [(0, [I K (K.wrap (io .or J (io .and J a 127) 128))])] z z z z z eH ty5 z z z ⟨z, z, nl z, Y⟩ z z (fun _ => kp) fun Z => bE H fun G l H => cV (r := 0) (ys := ([K.wrap (io .or J (io .and J a 127) 128)] : List Int)) z z z z z z eH ty5 z z z (aY (e := ae e8 5) (r := 1) z) l (fun _ _ _ => kp) fun L M P => el z (fun x g => rW (i := 0) g z (sa l)) fun C => oP z <| nQ <| aJ <| aa [.p, .p, .p] z <| aE <| cx <| cz (RW.at (A (nO J a 7) (G) (L) (M) (P) (⟨C, H⟩)) (ss [0] z z) (sb z))
   ·exact bb <| aw <| ay <| ax <| ao <| sR <| aa [.p, .p, .cv 3 5 K us3 in5] z <| dm (val := I K) (h1 := fun _ => z) [K.wrap a] [(0, [I K (K.wrap a)])] z z z z z eH ty5 z z z ⟨z, z, nl z, Y⟩ z z (fun _ => kp) fun a1 => bE H fun m o H => cV (r := 0) (ys := ([K.wrap a] : List Int)) z z z z z z eH ty5 z z z (aY (e := ae e8 5) (r := 1) z) o (fun _ _ _ => kp) fun q s Q => el z (fun x g => rW (i := 0) g z (sa o)) fun D => oP z <| nT <| ca (rs := [.tmp 2]) (vs := [S q m.length s]) z ⟨z, Y⟩ (fun w' hw' => by
     obtain rfl := ak H
     exact ⟨_, z, q, m.length, s, Q, z, D, hw'.sel [0] z z⟩)
theorem zc (w : World) {g : List Nat} {p0 : List UInt8} {r : List Int} (H : ot p0 = U r) (HS : St w g [] w) :
    Calls Tryz.prog 29 #[vS p0] w (fun en w' => ∃ v, en = .returned v ∧ ∃ (j : Option Addr), ∃ (k : Nat), ∃ (c0 : Nat), ∃ (t : List Nat), v = S j k c0 ∧ St w g [W (ae e8 5) t r [S j k c0]] w') := by
 unfold ot at H
 refine aq Tryz.func29 z Tryz.ntmps29 z (HS) <| sR <| oP z <| nR <| aa [.p, .lenT 9 st9] z <| bE H fun x l H => aC z Mh z z z z (fun m a => qY m l (a.carve [] z z)) fun A m L a h => ?_
 obtain ⟨C, D, E, F, rfl, u, c⟩ := h
 obtain rfl := aI (i := 0) c z
 refine ⟨St w g [_], a.comp [] z z c, fun _ _ => Y, ?_⟩
 exact oP z <| bE H fun G o H => bE H fun d q H => KC (r := 0) z z z z z z eH st9 PV z o q (fun _ _ _ => kp) fun e f s => oP z <| nT <| ca (rs := [.tmp 2]) (vs := [S e d.length f]) z ⟨z, Y⟩ (fun w' hw' => by
  obtain rfl := ak H
  exact ⟨_, z, e, d.length, f, s, z, hw'.sel [0] z z⟩)
theorem sY (w : World) {p0 : Bool} {r : Int} (H : qH p0 = U r)   :
    Calls Tryz.prog 32 #[B p0] w (fun en w' => en = .returned (I J r) ∧ Ext [] w w') := by
 unfold qH at H
 refine aq Tryz.func32 z Tryz.ntmps32 z (St.init w []) <| sR <| oP z <| nQ <| ai <| sR <| oP z <| nQ <| cI H z (fun H => ?_) (fun H => ?_)
 ·exact sR <| oP z <| nT <| af <| xr 2 z (by cases H; exact q1)
 ·exact aj <| ao <| sR <| oP z <| nT <| xr 2 z (by cases H; exact q1)
theorem AM (w : World) {g : List Nat} {p0 : Int} {r : (List Int) × Bool} (H : qd p0 = U r) (HS : St w g [] w) :
    Calls Tryz.prog 70 #[I J p0] w (fun en w' => ∃ v, en = .returned v ∧ ∃ (s : Option Addr), ∃ (C : Nat), ∃ (c0 : Nat), ∃ (M : List Nat), v = S s C c0 ∧ s.isNone = r.2 ∧ St w g [W (ae e8 5) M r.1 [S s C c0]] w') := by
 unfold qd at H
 refine aq Tryz.func70 z Tryz.ntmps70 z (HS) <| sR <| oP z <| nQ <| ai <| an <| sR <| oP z <| bE H fun Q D H => oq z (qc z gy (fun c a => be c D)) tt2 <| oPP z <| nQ <| cI H z (fun H => ?_) (fun H => ?_)
 ·exact sR <| oP z <| nT <| ar <| af <| ml (fun _ h => St.pushNil (e := e8) (T := 5) h) <| ca (rs := [.tmp 2]) (vs := [S N 0 0]) z ⟨z, Y⟩ (fun w' hw' => by
   obtain rfl := ak H
   exact ⟨_, z, N, 0, 0, [], z, z, hw'.sel [0] z z⟩)
 ·refine sR <| aa [.p, .p, .p] z <| nQ <| cI H z (fun H => ?_) (fun H => ?_)
  ·refine sR <| aa [.p, .p, .p] z <| bE H fun j E H => aC z Mh z z z z (fun c a => qY c E (a.carve [] z z)) fun R c P a t => ?_
   obtain ⟨k, V, l, F, rfl, u, d⟩ := t
   obtain rfl := aI (i := 0) d z
   refine ⟨St w g [_], a.comp [] z z d, fun _ _ => Y, ?_⟩
   exact oP z <| nT <| ar <| af <| ca (rs := [.tmp 2]) (vs := [S k j.1.length l]) z ⟨z, Y⟩ (fun w' hw' => by
    obtain rfl := ak H
    exact ⟨_, z, k, j.1.length, l, F, z, u, hw'.sel [0] z z⟩)
  ·refine aj <| cx <| ao <| sR <| oPP z <| bE H fun m G H => aC z Mh z z z z (fun c a => qY c G (a.carve [] z z)) fun X c P a x => ?_
   obtain ⟨o, Z, q, L, rfl, A, f⟩ := x
   obtain rfl := aI (i := 0) f z
   refine ⟨St w g [_], a.comp [] z z f, fun _ _ => Y, ?_⟩
   exact oP z <| nT <| ca (rs := [.tmp 2]) (vs := [S o m.1.length q]) z ⟨z, Y⟩ (fun w' hw' => by
    obtain rfl := ak H
    exact ⟨_, z, o, m.1.length, q, L, z, A, hw'.sel [0] z z⟩)
theorem ck (w : World) {l : List Nat} {p0 : bG} {p1 : List Int} {b_0 : Nat} {a_0_1 : Option Addr} {n_0_1 c_0_1 : Nat} {F_0_1 : List Nat} {a_1 : Option Addr} {n_1 c_1 : Nat} {r : bG} (H : bM p0 p1 = U r) (HS : St w l [b b_0 91 [S a_0_1 n_0_1 c_0_1, B p0.U_], W (ae e8 5) F_0_1 p0.T_ [S a_0_1 n_0_1 c_0_1]] w) (C : (ae eI 3).rd w l p1 [S a_1 n_1 c_1]) :
    Calls Tryz.prog 31 #[O (U ⟨b_0, 0, N⟩), S a_1 n_1 c_1] w (fun en w' => ∃ v, en = .returned v ∧ ∃ (G : Option Addr), ∃ (L : Nat), ∃ (c0 : Nat), ∃ (X : List Nat), v = .tuple #[] ∧ St w l [b b_0 91 [S G L c0, B r.U_], W (ae e8 5) X r.T_ [S G L c0]] w') := by
 obtain rfl := aI (i := 1) HS z
 obtain rfl := eb C
 unfold bM at H
 refine aq Tryz.func31 z Tryz.ntmps31 z (HS) <| sR <| aa [.p, .lenS 69 3 ce, .p] z <| nQ <| an <| CW.at (vO (fun (d : List Int) (f : Option Addr) (g : Nat) (k : List Nat) (a : Bool) (c : Int) => St w l [b b_0 91 [S f d.length g, B a], W (ae e8 5) k d [S f d.length g]]) (fun d f g k a c => [(0, O (U ⟨b_0, 0, N⟩)), (7, S a_1 p1.length c_1), (8, I J (p1.length : Int)), (9, I J c)]) (fun kk => fun d f g k a c => ey p1 kk d a c = U r) (fun _ _ _ _ _ _ H => ?_) (fun k1 D d f g k a c H => ?_) aK (p0.T_) (a_0_1) (c_0_1) (F_0_1) (p0.U_) (0) (H)) (ss [0, 1] z z) (sb z)
 ·unfold ey at H
  exact absurd H (by simp)
 ·unfold ey at H
  refine sR <| oP z <| nQ <| ai <| cI H z (fun H => ?_) (fun H => ?_)
  ·refine aj <| ao <| ai <| an <| sR <| bE H fun Z q H => bO (e := eI) (xs := p1) (j := c) z z z z z ce ty3 z (ab C) q (by rw [Nat.mul_one]) <| o1 z (aF z z ty3 (cq (ab C) q)) <| oP z <| nR <| oP z <| bE H fun h M H => aC z Qw z z z z (fun P m => AM P M (m.carve [] z z)) fun a1 P w2 m E => ?_
   obtain ⟨s, a2, t, a3, rfl, F, o⟩ := E
   obtain rfl := aI (i := 0) o z
   refine ⟨St w l [_, _, _], m.comp [] z z o, fun _ _ => Y, ?_⟩
   refine oP z <| nR <| aa [.p, .p, .p, .fa 91 1 1 JX] z <| o1 z (r1 1 0 z ty4 z) <| oP z <| aL [(23, B (a || h.2)), (0, O (U ⟨b_0, 0, N⟩)), (6, S s h.1.length t), (7, S a_1 p1.length c_1), (8, I J (p1.length : Int)), (9, I J c), (15, O (U ⟨b_0, 0, N⟩))] 3 ?_ (fun key => OW.sub (R := [(0, O (U ⟨b_0, 0, N⟩)), (6, S s h.1.length t), (7, S a_1 p1.length c_1), (8, I J (p1.length : Int)), (9, I J c), (15, O (U ⟨b_0, 0, N⟩)), (20, B a)]) ?_ (sb z))
   ·exact aa [.p, .fa 91 1 1 JX] z <| sC 1 [B (a || h.2)] [_, _] 0 z ty4 z <| nQ <| aJ <| aa [.p, .p, .p, .fa 91 0 0 xX] z <| o1 z (r1 0 0 z HJ z) <| oP z <| bE H fun u Q H => cV (r := 1) (ys := h.1) z z z z z z eH ty5 z z z (aY (e := ae e8 5) (r := 2) z) Q (fun _ _ _ => kp) fun x A T => aa [.p, .fa 91 0 0 xX] z <| sC 0 [S x u.length A] [_, _] 0 z HJ z <| aE <| cx <| ao <| aJ <| oPP z <| aE <| cz (RW.at (D (u) (x) (A) (T) ((a || h.2)) (J.wrap (c + 1)) (H)) (ss [0, 1] z z) (sb z))
   ·generalize a = V at key ⊢
    cases V
    ·exact oP z <| o1 z (KT z z eH F) <| oP z <| OW.sub key (sb z)
    ·exact aa [.p, .p, .p] z <| OW.sub key (sb z)
  ·exact bb <| aw <| ay <| ax <| CL (rs := []) (vs := []) z Y (fun w' hw' => by
    obtain rfl := ak H
    exact ⟨_, z, f, d.length, g, k, z, hw'.sel [0, 1] z z⟩)
theorem gh (w : World) {c : List Nat} {p0 : bG} {p1 : List Int} {b_0 : Nat} {a_0_1 : Option Addr} {n_0_1 c_0_1 : Nat} {F_0_1 : List Nat} {a_1 : Option Addr} {n_1 c_1 : Nat} {r : bG} (H : dr p0 p1 = U r) (HS : St w c [b b_0 91 [S a_0_1 n_0_1 c_0_1, B p0.U_], W (ae e8 5) F_0_1 p0.T_ [S a_0_1 n_0_1 c_0_1]] w) (j : (ae eI 3).rd w c p1 [S a_1 n_1 c_1]) :
    Calls Tryz.prog 35 #[O (U ⟨b_0, 0, N⟩), S a_1 n_1 c_1] w (fun en w' => ∃ v, en = .returned v ∧ ∃ (k : Option Addr), ∃ (l : Nat), ∃ (c0 : Nat), ∃ (x : List Nat), v = .tuple #[] ∧ St w c [b b_0 91 [S k l c0, B r.U_], W (ae e8 5) x r.T_ [S k l c0]] w') := by
 obtain rfl := aI (i := 1) HS z
 obtain rfl := eb j
 unfold dr at H
 refine aq Tryz.func35 z Tryz.ntmps35 z (HS) <| sR <| aa [.p, .p, .lenS 69 3 ce] z <| dm (val := I J) (h1 := fun _ => z) [(p1.length : Int)] [(0, [I J (p1.length : Int)])] z z z z z ce ty3 z z z ⟨z, z, nl z, Y⟩ z z (fun _ => kp) fun C => bE H fun D m H => aC z wN z z z z (fun d a => ck d m (a.carve [0, 1] z z) (rdO 2 [0, 1] z a z z)) fun E d A a g => ?_
 obtain ⟨F, G, L, M, rfl, e⟩ := g
 obtain rfl := aI (i := 1) e z
 refine ⟨St w c [_, _, _, _, _], a.comp [0, 1] z z e, fun _ _ => Y, ?_⟩
 refine nQ <| CW.weak (C' := St w c [_, _, _]) ?_ (ss [2, 3, 4] z z)
 refine aJ <| oPP z <| bE H fun o q H => aC z wN z z z z (fun d a => ck d q (a.carve [1, 2] z z) (rdB [1, 2] z z a j)) fun P d A a h => ?_
 obtain ⟨s, Q, t, u, rfl, f⟩ := h
 obtain rfl := aI (i := 1) f z
 refine ⟨St w c [_, _, _, _, _], a.comp [1, 2] z z f, fun _ _ => Y, ?_⟩
 exact aE <| CL (rs := []) (vs := []) z Y (fun w' hw' => by
  obtain rfl := ak H
  exact ⟨_, z, s, o.T_.length, t, u, z, hw'.sel [3, 4] z z⟩)
theorem qt (w : World) {e : List Nat} {p0 : bG} {p1 : ap} {b_0 : Nat} {a_0_1 : Option Addr} {n_0_1 c_0_1 : Nat} {F_0_1 : List Nat} {c7 : List Value} {r : bG} (H : iD p0 p1 = U r) (HS : St w e [b b_0 91 [S a_0_1 n_0_1 c_0_1, B p0.U_], W (ae e8 5) F_0_1 p0.T_ [S a_0_1 n_0_1 c_0_1]] w) (g1 : (bp).rd w e p1 c7) :
    Calls Tryz.prog 33 #[O (U ⟨b_0, 0, N⟩), .agg c7.toArray] w (fun en w' => ∃ v, en = .returned v ∧ ∃ (a0 : Option Addr), ∃ (n0 : Nat), ∃ (c0 : Nat), ∃ (F0 : List Nat), v = .tuple #[] ∧ St w e [b b_0 91 [S a0 n0 c0, B r.U_], W (ae e8 5) F0 r.T_ [S a0 n0 c0]] w') := by
 obtain rfl := aI (i := 1) HS z
 obtain ⟨o7, o8, rfl, c8, g8⟩ := aW g1
 obtain ⟨c9, d0, rfl⟩ := ah c8
 obtain rfl := g8
 unfold iD at H
 refine aq Tryz.func33 z Tryz.ntmps33 z (HS) <| sR <| ob _ z fun o9 => nR <| aa [.p, .fa 73 1 1 nf] z <| o1 z (r1 1 2 z ty3 z) <| aa [.fa 73 0 0 eg] z <| o1 z (r1 0 2 z kN z) <| aa [.lenS 71 121 fT] z <| dm (val := I J) (h1 := fun _ => z) [p1.A_, (p1.b_.length : Int)] [(0, [I J p1.A_]), (1, [I J (p1.b_.length : Int)])] z z z z z ce ty3 z z z ⟨z, z, nl z, z, z, nl z, Y⟩ z z (fun _ => kp) fun p2 => bE H fun d1 g9 H => aC z wN z z z z (fun d c => ck d g9 (c.carve [0, 1] z z) (rdO 3 [0, 1] z c z z)) fun p3 d A c d2 => ?_
 obtain ⟨h0, p4, h2, h3, rfl, a5⟩ := d2
 obtain rfl := aI (i := 1) a5 z
 refine ⟨St w e [_, _, _, _, _, _], c.comp [0, 1] z z a5, fun _ _ => Y, ?_⟩
 refine nQ <| ai <| CW.weak (C' := St w e [_, _, _, _]) ?_ (ss [2, 3, 4, 5] z z)
 refine aJ <| aa [.fa 73 0 0 eg] z <| o1 z (r1 0 0 z kN z) <| aa [.lenS 71 121 fT, .p] z <| nQ <| an <| CW.at (vO (fun (f : List Int) (g : Option Addr) (h : Nat) (l : List Nat) (m : Bool) (j : Int) => St w e [b b_0 91 [S g f.length h, B m], W (ae e8 5) l f [S g f.length h]]) (fun f g h l m j => [(0, O (U ⟨b_0, 0, N⟩)), (17, S c9 p1.b_.length d0), (18, I J (p1.b_.length : Int)), (19, I J j)]) (fun kk => fun f g h l m j => dl p1 kk f m j = U r) (fun _ _ _ _ _ _ H => ?_) (fun k1 d3 f g h l m j H => ?_) aK (d1.T_) (h0) (h2) (h3) (d1.U_) (0) (H)) (ss [2, 3] z z) (sb z)
 ·unfold dl at H
  exact absurd H (by simp)
 ·unfold dl at H
  refine sR <| oP z <| nQ <| ai <| cI H z (fun H => ?_) (fun H => ?_)
  ·refine aj <| ao <| ai <| an <| sR <| bE H fun a d4 H => bQ z z z z z fT co z c8 d4 fun h7 h8 b4 b5 => ?_
   obtain ⟨h9, i0, i1, i2, i3, i4, i5, i6, i7, i8, rfl, d5, d6, a6, d7, d8, d9, a7, e0, e1, e2⟩ := bA b4
   obtain rfl := d5
   obtain rfl := d6
   obtain ⟨C, D, rfl⟩ := ah a6
   obtain rfl := d7
   obtain ⟨i9, j0, rfl, a8, a9⟩ := aX d8
   obtain ⟨E, F, rfl⟩ := ah a8
   obtain ⟨q, s, rfl⟩ := ah a9
   obtain rfl := d9
   obtain ⟨G, L, rfl⟩ := ah a7
   obtain rfl := e0
   obtain rfl := e1
   obtain rfl := e2
   refine o1 z (cu (cs := [B a.y_, I J a.g_.q_, I J a.g_.u_, S C a.r_.length D, I J a.C_, S E a.i_.k_.length F, S q a.i_.h_.length s, I J a.D_, S G a.d_.length L, I J a.f_, I J a.x_, I J a.B_]) z z co (bB bor b5) z) <| bL z z z z co (fun _ => kp) fun P => sC 0 [B a.y_, I J a.g_.q_, I J a.g_.u_, S C a.r_.length D, I J a.C_, S E a.i_.k_.length F, S q a.i_.h_.length s, I J a.D_, S G a.d_.length L, I J a.f_, I J a.x_, I J a.B_] [_, _, _, _, _, _, _, _, _, _, _, _] 2 z co z <| nQ <| ai <| tj 11 [(0, y), (1, y), (2, y), (4, y), (5, y), (6, y), (7, y), (8, y), (9, y), (3, n), (10, n)] (St w e [b b_0 91 [S g f.length h, B m], W (ae e8 5) l f [S g f.length h], b P 121 [B a.y_, I J a.g_.q_, I J a.g_.u_, S C a.r_.length D, I J a.C_, S E a.i_.k_.length F, S q a.i_.h_.length s, I J a.D_, S G a.d_.length L, I J a.f_, I J a.x_, I J a.B_]]) eR (by kernel_rfl) (iS (te (iS (Ac (te kw))))) (tk 3 z) <| aa [.p, .fa 121 0 0 kz] z <| nr z (bU z) (r1 0 2 z ty4 z) <| aa [.fa 121 1 1 iW, .fa 117 0 0 ky] z <| nr z (bU z) (r1 1 2 z ty3 z) <| aa [.fa 121 1 1 iW, .fa 117 1 1 mb] z <| nr z (bU z) (r1 2 2 z ty3 z) <| bE H fun b0 e3 H => oq z (qc z Me (fun d c => sY d e3)) (tk 3 z) <| dm (val := I J) (h1 := fun _ => z) [b0, a.g_.q_, a.g_.u_] [(0, [I J b0]), (1, [I J a.g_.q_]), (2, [I J a.g_.u_])] z z z z z ce ty3 z z z ⟨z, z, nl z, z, z, nl z, z, z, nl z, Y⟩ z z (fun _ => (tk 3 z)) fun j1 => sV <| Fz <| bE H fun j2 e4 H => aC z wN z z z z (fun d c => ck d e4 (c.carve [0, 1] z z) (rdO 3 [0, 1] z c z z)) fun j3 d A c b6 => ?_
   obtain ⟨j4, j5, j6, j7, rfl, Q⟩ := b6
   obtain rfl := aI (i := 1) Q z
   refine ⟨St w e [_, _, _, _, _, _], c.comp [0, 1] z z Q, fun _ _ => Y, ?_⟩
   refine nQ <| ai <| CW.weak (C' := St w e [_, _, _, _]) ?_ (ss [2, 3, 4, 5] z z)
   refine aJ <| aa [.p, .fa 121 2 3 gf] z <| o1 z (r1 3 0 z bW z) <| bE H fun j8 e5 H => aC z HR z z z z (fun d c => gh d e5 (c.carve [2, 3] z z) (rdB [2, 3] z z c a6)) fun j9 d A c b7 => ?_
   obtain ⟨k0, k3, k4, k5, rfl, R⟩ := b7
   obtain rfl := aI (i := 1) R z
   refine ⟨St w e [_, _, _, _, _, _], c.comp [2, 3] z z R, fun _ _ => Y, ?_⟩
   refine nQ <| ai <| CW.weak (C' := St w e [_, _, _, _]) ?_ (ss [0, 1, 4, 5] z z)
   refine aJ <| aa [.p, .fa 121 3 4 mc] z <| o1 z (r1 4 0 z ty3 z) <| dm (val := I J) (h1 := fun _ => z) [a.C_] [(0, [I J a.C_])] z z z z z ce ty3 z z z ⟨z, z, nl z, Y⟩ z z (fun _ => kp) fun k6 => bE H fun k7 e6 H => aC z wN z z z z (fun d c => ck d e6 (c.carve [2, 3] z z) (rdO 4 [2, 3] z c z z)) fun k8 d A c b8 => ?_
   obtain ⟨k9, l0, l1, l2, rfl, T⟩ := b8
   obtain rfl := aI (i := 1) T z
   refine ⟨St w e [_, _, _, _, _, _, _], c.comp [2, 3] z z T, fun _ _ => Y, ?_⟩
   refine nQ <| ai <| CW.weak (C' := St w e [_, _, _, _, _]) ?_ (ss [0, 1, 4, 5, 6] z z)
   refine aJ <| aa [.p, .fa 121 4 5 eY, .fa 119 0 0 gS] z <| o1 z (r1 5 0 z bW z) <| bE H fun l3 e7 H => aC z HR z z z z (fun d c => gh d e7 (c.carve [3, 4] z z) (rdB [3, 4] z z c a8)) fun l4 d A c b9 => ?_
   obtain ⟨l5, l6, l7, l8, rfl, V⟩ := b9
   obtain rfl := aI (i := 1) V z
   refine ⟨St w e [_, _, _, _, _, _, _], c.comp [3, 4] z z V, fun _ _ => Y, ?_⟩
   refine nQ <| ai <| CW.weak (C' := St w e [_, _, _, _, _]) ?_ (ss [0, 1, 2, 5, 6] z z)
   refine aJ <| aa [.p, .fa 121 4 5 eY, .fa 119 1 1 fm] z <| o1 z (r1 6 0 z fw z) <| aa [.lenS 33 69 eK] z <| dm (val := I J) (h1 := fun _ => z) [(a.i_.h_.length : Int)] [(0, [I J (a.i_.h_.length : Int)])] z z z z z ce ty3 z z z ⟨z, z, nl z, Y⟩ z z (fun _ => kp) fun l9 => bE H fun b1 e9 H => aC z wN z z z z (fun d c => ck d e9 (c.carve [3, 4] z z) (rdO 5 [3, 4] z c z z)) fun m0 d A c c1 => ?_
   obtain ⟨f0, m1, f1, f2, rfl, X⟩ := c1
   obtain rfl := aI (i := 1) X z
   refine ⟨St w e [_, _, _, _, _, _, _, _], c.comp [3, 4] z z X, fun _ _ => Y, ?_⟩
   refine nQ <| ai <| ai <| CW.weak (C' := St w e [_, _, _, _, _, _]) ?_ (ss [0, 1, 2, 5, 6, 7] z z)
   refine aJ <| aa [.fa 121 4 5 eY, .fa 119 1 1 fm] z <| o1 z (r1 6 0 z fw z) <| aa [.lenS 33 69 eK, .p] z <| nQ <| an <| CW.at (vO (fun (k : List Int) (t : Option Addr) (u : Nat) (M : List Nat) (x : Bool) (o : Int) => St w e [b b_0 91 [S t k.length u, B x], W (ae e8 5) M k [S t k.length u], b P 121 [B a.y_, I J a.g_.q_, I J a.g_.u_, S C a.r_.length D, I J a.C_, S E a.i_.k_.length F, S q a.i_.h_.length s, I J a.D_, S G a.d_.length L, I J a.f_, I J a.x_, I J a.B_]]) (fun k t u M x o => [(0, O (U ⟨b_0, 0, N⟩)), (5, O (U ⟨P, 0, N⟩)), (17, S c9 p1.b_.length d0), (18, I J (p1.b_.length : Int)), (19, I J j), (58, S q a.i_.h_.length s), (59, I J (a.i_.h_.length : Int)), (60, I J o)]) (fun kk => fun k t u M x o => gi a (dl p1 k1) j kk k x o = U r) (fun _ _ _ _ _ _ H => ?_) (fun k2 f3 k t u M x o H => ?_) aK (b1.T_) (f0) (f1) (f2) (b1.U_) (0) (H)) (ss [4, 5, 0] z z) (sb z)
   ·unfold gi at H
    exact absurd H (by simp)
   ·unfold gi at H
    refine sR <| oP z <| nQ <| ai <| cI H z (fun H => ?_) (fun H => ?_)
    ·refine aj <| ao <| ai <| an <| sR <| bE H fun m2 f4 H => bQ z z z z z eK bW z a9 f4 fun m3 m4 Z c2 => ?_
     obtain ⟨m5, m6, rfl⟩ := ah Z
     refine o1 z (aF z z bW (bB bor c2)) <| oP z <| nQ <| aJ <| oPP z <| bE H fun b2 f5 H => aC z HR z z z z (fun d c => gh d f5 (c.carve [0, 1] z z) (rdB [0, 1] z z c Z)) fun m7 d A c c3 => ?_
     obtain ⟨f6, m8, f7, f8, rfl, a1⟩ := c3
     obtain rfl := aI (i := 1) a1 z
     refine ⟨St w e [_, _, _, _, _], c.comp [0, 1] z z a1, fun _ _ => Y, ?_⟩
     refine aE <| cx <| ao <| CW.weak (C' := St w e [_, _, _]) ?_ (ss [2, 3, 4] z z)
     exact aJ <| oPP z <| aE <| cz (RW.at (f3 (b2.T_) (f6) (f7) (f8) (b2.U_) (J.wrap (o + 1)) (H)) (ss [1, 2, 0] z z) (sb z))
    ·refine bb <| aw <| ay <| ax <| ao <| sR <| aa [.p, .fa 121 5 7 ln] z <| o1 z (r1 7 2 z ty3 z) <| dm (val := I J) (h1 := fun _ => z) [a.D_] [(0, [I J a.D_])] z z z z z ce ty3 z z z ⟨z, z, nl z, Y⟩ z z (fun _ => kp) fun m9 => bE H fun n1 f9 H => aC z wN z z z z (fun d c => ck d f9 (c.carve [0, 1] z z) (rdO 3 [0, 1] z c z z)) fun n2 d A c c4 => ?_
     obtain ⟨n3, n4, n5, n6, rfl, a2⟩ := c4
     obtain rfl := aI (i := 1) a2 z
     refine ⟨St w e [_, _, _, _, _, _], c.comp [0, 1] z z a2, fun _ _ => Y, ?_⟩
     refine nQ <| ai <| CW.weak (C' := St w e [_, _, _, _]) ?_ (ss [2, 3, 4, 5] z z)
     refine aJ <| aa [.p, .fa 121 6 8 mX] z <| o1 z (r1 8 0 z bW z) <| bE H fun n7 g0 H => aC z HR z z z z (fun d c => gh d g0 (c.carve [2, 3] z z) (rdB [2, 3] z z c a7)) fun n8 d A c c5 => ?_
     obtain ⟨n9, o0, o2, o3, rfl, a3⟩ := c5
     obtain rfl := aI (i := 1) a3 z
     refine ⟨St w e [_, _, _, _, _, _], c.comp [2, 3] z z a3, fun _ _ => Y, ?_⟩
     refine nQ <| CW.weak (C' := St w e [_, _, _, _]) ?_ (ss [0, 1, 4, 5] z z)
     refine aJ <| aa [.p, .fa 121 7 9 gB] z <| o1 z (r1 9 0 z ty3 z) <| aa [.fa 121 8 10 jF] z <| o1 z (r1 10 0 z ty3 z) <| aa [.fa 121 9 11 jy] z <| o1 z (r1 11 0 z ty3 z) <| dm (val := I J) (h1 := fun _ => z) [a.f_, a.x_, a.B_] [(0, [I J a.f_]), (1, [I J a.x_]), (2, [I J a.B_])] z z z z z ce ty3 z z z ⟨z, z, nl z, z, z, nl z, z, z, nl z, Y⟩ z z (fun _ => kp) fun o4 => bE H fun b3 g2 H => aC z wN z z z z (fun d c => ck d g2 (c.carve [2, 3] z z) (rdO 4 [2, 3] z c z z)) fun o5 d A c c6 => ?_
     obtain ⟨g3, o6, g4, g5, rfl, a4⟩ := c6
     obtain rfl := aI (i := 1) a4 z
     refine ⟨St w e [_, _, _, _, _, _, _], c.comp [2, 3] z z a4, fun _ _ => Y, ?_⟩
     refine aE <| cx <| ao <| CW.weak (C' := St w e [_, _, _, _, _]) ?_ (ss [0, 1, 4, 5, 6] z z)
     exact aJ <| oPP z <| aE <| cz (RW.at (d3 (b3.T_) (g3) (g4) (g5) (b3.U_) (J.wrap (j + 1)) (H)) (ss [3, 4] z z) (sb z))
  ·exact bb <| aw <| ay <| ax <| CL (rs := []) (vs := []) z Y (fun w' hw' => by
    obtain rfl := ak H
    exact ⟨_, z, g, f.length, h, l, z, hw'.sel [0, 1] z z⟩)
theorem oW (w : World) {g : List Nat} {p0 : bG} {p1 : aA} {b_0 : Nat} {a_0_1 : Option Addr} {n_0_1 c_0_1 : Nat} {F_0_1 : List Nat} {q : List Value} {r : bG} (H : gu p0 p1 = U r) (HS : St w g [b b_0 91 [S a_0_1 n_0_1 c_0_1, B p0.U_], W (ae e8 5) F_0_1 p0.T_ [S a_0_1 n_0_1 c_0_1]] w) (g1 : (bI).rd w g p1 q) :
    Calls Tryz.prog 34 #[O (U ⟨b_0, 0, N⟩), .agg q.toArray] w (fun en w' => ∃ v, en = .returned v ∧ ∃ (E : Option Addr), ∃ (F : Nat), ∃ (c0 : Nat), ∃ (F0 : List Nat), v = .tuple #[] ∧ St w g [b b_0 91 [S E F c0, B r.U_], W (ae e8 5) F0 r.T_ [S E F c0]] w') := by
 obtain rfl := aI (i := 1) HS z
 obtain ⟨a5, rfl, s⟩ := aT g1
 obtain ⟨G, L, rfl⟩ := ah s
 unfold gu at H
 refine aq Tryz.func34 z Tryz.ntmps34 z (HS) <| sR <| ob _ z fun a6 => nR <| aa [.p, .fa 75 0 0 lu] z <| o1 z (r1 0 2 z fw z) <| aa [.lenS 33 69 eK] z <| dm (val := I J) (h1 := fun _ => z) [(p1.o_.length : Int)] [(0, [I J (p1.o_.length : Int)])] z z z z z ce ty3 z z z ⟨z, z, nl z, Y⟩ z z (fun _ => kp) fun a7 => bE H fun t M H => aC z wN z z z z (fun k a => ck k M (a.carve [0, 1] z z) (rdO 3 [0, 1] z a z z)) fun a8 k w2 a x => ?_
 obtain ⟨P, a9, Q, R, rfl, l⟩ := x
 obtain rfl := aI (i := 1) l z
 refine ⟨St w g [_, _, _, _, _, _], a.comp [0, 1] z z l, fun _ _ => Y, ?_⟩
 refine nQ <| ai <| CW.weak (C' := St w g [_, _, _, _]) ?_ (ss [2, 3, 4, 5] z z)
 refine aJ <| aa [.fa 75 0 0 lu] z <| o1 z (r1 0 0 z fw z) <| aa [.lenS 33 69 eK, .p] z <| nQ <| an <| CW.at (vO (fun (c : List Int) (d : Option Addr) (e : Nat) (h : List Nat) (j : Bool) (f : Int) => St w g [b b_0 91 [S d c.length e, B j], W (ae e8 5) h c [S d c.length e]]) (fun c d e h j f => [(0, O (U ⟨b_0, 0, N⟩)), (13, S G p1.o_.length L), (14, I J (p1.o_.length : Int)), (15, I J f)]) (fun kk => fun c d e h j f => fv p1 kk c j f = U r) (fun _ _ _ _ _ _ H => ?_) (fun k1 A c d e h j f H => ?_) aK (t.T_) (P) (Q) (R) (t.U_) (0) (H)) (ss [2, 3] z z) (sb z)
 ·unfold fv at H
  exact absurd H (by simp)
 ·unfold fv at H
  refine sR <| oP z <| nQ <| ai <| cI H z (fun H => ?_) (fun H => ?_)
  ·refine aj <| ao <| ai <| an <| sR <| bE H fun b0 T H => bQ z z z z z eK bW z s T fun b1 b2 m C => ?_
   obtain ⟨b3, b4, rfl⟩ := ah m
   refine o1 z (aF z z bW (bB bor C)) <| oP z <| nQ <| aJ <| oPP z <| bE H fun u V H => aC z HR z z z z (fun k a => gh k V (a.carve [0, 1] z z) (rdB [0, 1] z z a m)) fun b5 k w2 a D => ?_
   obtain ⟨X, b6, Z, a1, rfl, o⟩ := D
   obtain rfl := aI (i := 1) o z
   refine ⟨St w g [_, _, _, _], a.comp [0, 1] z z o, fun _ _ => Y, ?_⟩
   refine aE <| cx <| ao <| CW.weak (C' := St w g [_, _]) ?_ (ss [2, 3] z z)
   exact aJ <| oPP z <| aE <| cz (RW.at (A (u.T_) (X) (Z) (a1) (u.U_) (J.wrap (f + 1)) (H)) (ss [0, 1] z z) (sb z))
  ·exact bb <| aw <| ay <| ax <| CL (rs := []) (vs := []) z Y (fun w' hw' => by
    obtain rfl := ak H
    exact ⟨_, z, d, c.length, e, h, z, hw'.sel [0, 1] z z⟩)
theorem EL (w : World) {p0 : List Int} {a_0 : Option Addr} {n_0 c_0 : Nat} {r : Int} (H : wo p0 = U r) (i : (ae e8 5).rd w [] p0 [S a_0 n_0 c_0]) :
    Calls Tryz.prog 71 #[S a_0 n_0 c_0] w (fun en w' => en = .returned (I J r) ∧ Ext [] w w') := by
 obtain rfl := eb i
 unfold wo at H
 refine aq Tryz.func71 z Tryz.ntmps71 z (St.init w []) <| sR <| oP z <| nR <| oP z <| nQ <| ai <| sR <| aa [.p, .lenS 40 5 eH, .p] z <| nQ <| an <| CW.at (fx (fun (f : Int) (a : Int) => St w [] []) (fun f a => [(3, I J f), (7, S a_0 p0.length c_0), (8, I J (p0.length : Int)), (9, I J a)]) (fun kk => fun f a => iw p0 kk f a = U r) (fun _ _ H => ?_) (fun m k f a H => ?_) aK (4294967295) (0) (H)) (ss [] z z) (sb z)
 ·unfold iw at H
  exact absurd H (by simp)
 ·unfold iw at H
  refine sR <| oP z <| nQ <| ai <| cI H z (fun H => ?_) (fun H => ?_)
  ·refine aj <| ao <| ai <| an <| sR <| bE H fun l h H => bO (e := e8) (xs := p0) (j := a) z z z z z eH ty5 z (ab i) h (by rw [Nat.mul_one]) <| o1 z (aF z z ty5 (cq (ab i) h)) <| oP z <| nR <| aa [.p, .p, .cv 5 3 J us5 in3, .p, .p] z <| nR <| oP z <| nQ <| an <| CW.at (fx (fun (d : Int) (c : Int) => St w [] []) (fun d c => [(3, I J c), (7, S a_0 p0.length c_0), (8, I J (p0.length : Int)), (9, I J a), (17, I J d)]) (fun kk => fun d c => jz (iw p0 m) a kk d c = U r) (fun _ _ H => ?_) (fun o g d c H => ?_) aK (0) (io .xor J f (J.wrap l)) (H)) (ss [] z z) (sb z)
   ·unfold jz at H
    exact absurd H (by simp)
   ·unfold jz at H
    refine sR <| oP z <| nQ <| ai <| cI H z (fun H => ?_) (fun H => ?_)
    ·refine aj <| ao <| ai <| an <| sR <| aa [.p, .p, .p] z <| nR <| aa [.p, .p, .p] z <| nR <| oPP z <| nQ <| cI H z (fun H => ?_) (fun H => ?_)
     ·exact aJ <| aa [.p, .p, .p] z <| aE <| cx <| ao <| aJ <| oPP z <| aE <| cz (RW.at (g (J.wrap (d + 1)) (io .xor J (nO J c 1) 3988292384) (H)) (ss [] z z) (sb z))
     ·exact aj <| cx <| ao <| aJ <| oPP z <| aE <| cz (RW.at (g (J.wrap (d + 1)) (nO J c 1) (H)) (ss [] z z) (sb z))
    ·exact bb <| aw <| ay <| ax <| cx <| ao <| aJ <| oPP z <| aE <| cz (RW.at (k (c) (J.wrap (a + 1)) (H)) (ss [] z z) (sb z))
  ·exact bb <| aw <| ay <| ax <| ao <| sR <| aa [.p, .p, .p] z <| nT <| xr 2 z (by cases H; exact q1)
theorem xq (w : World) {d : List Nat} {p0 : List Int} {a_0 : Option Addr} {n_0 c_0 : Nat} {r : List Int} (H : gC p0 = U r) (HS : St w d [] w) (e : (ae e8 5).rd w d p0 [S a_0 n_0 c_0]) :
    Calls Tryz.prog 36 #[S a_0 n_0 c_0] w (fun en w' => ∃ v, en = .returned v ∧ ∃ (f : Option Addr), ∃ (g : Nat), ∃ (c0 : Nat), ∃ (k : List Nat), v = S f g c0 ∧ St w d [W (ae e8 5) k r [S f g c0]] w') := by
 obtain rfl := eb e
 unfold gC at H
 exact aq Tryz.func36 z Tryz.ntmps36 z (HS) <| sR <| oP z <| nR <| oP z <| bE H fun a h H => oq z (qc z PF (fun i j => EL i h (ab e i j))) tt2 <| oP z <| nR <| aa [.p, .p, .cv 3 5 K us3 in5, .p, .p, .cv 3 5 K us3 in5, .p, .p, .cv 3 5 K us3 in5, .p, .cv 3 5 K us3 in5] z <| dm (val := I K) (h1 := fun _ => z) [K.wrap (nO J a 24), K.wrap (nO J a 16), K.wrap (nO J a 8), K.wrap a] [(0, [I K (K.wrap (nO J a 24))]), (1, [I K (K.wrap (nO J a 16))]), (2, [I K (K.wrap (nO J a 8))]), (3, [I K (K.wrap a)])] z z z z z eH ty5 z z z ⟨z, z, nl z, z, z, nl z, z, z, nl z, z, z, nl z, Y⟩ z z (fun _ => kp) fun c => oP z <| nT <| ca (rs := [.tmp 2]) (vs := [S (U ⟨c, 0, N⟩) (([K.wrap (nO J a 24), K.wrap (nO J a 16), K.wrap (nO J a 8), K.wrap a] : List Int).length) 4]) z ⟨z, Y⟩ (fun w' hw' => by
  obtain rfl := ak H
  exact ⟨_, z, (U ⟨c, 0, N⟩), (([K.wrap (nO J a 24), K.wrap (nO J a 16), K.wrap (nO J a 8), K.wrap a] : List Int).length), 4, [c], z, hw'.sel [0] z z⟩)
theorem qQ (w : World) {d : List Nat} {p0 : aP} {h5 : List Value} {r : List Int} (H : ig p0 = U r) (HS : St w d [] w) (g0 : (jx).rd w d p0 h5) (gT : (uw Tryz.prog).rd w d () []) :
    Calls Tryz.prog 7 #[.agg h5.toArray] w (fun en w' => ∃ v, en = .returned v ∧ ∃ (a0 : Option Addr), ∃ (n0 : Nat), ∃ (c0 : Nat), ∃ (F0 : List Nat), v = S a0 n0 c0 ∧ St w d [W (ae e8 5) F0 r [S a0 n0 c0]] w') := by
 obtain ⟨w9, x0, x1, rfl, m9, n1, n2⟩ := jc g0
 obtain ⟨x2, x3, x4, x5, x6, x7, x8, rfl, n3, n4, n5, n6, n7, n8, n9⟩ := cP m9
 obtain ⟨x9, y0, rfl, c5, c6⟩ := aO n3
 obtain ⟨F, G, rfl⟩ := ah c5
 obtain ⟨L, M, rfl⟩ := ah c6
 obtain rfl := n4
 obtain rfl := n5
 obtain rfl := n6
 obtain rfl := n7
 obtain rfl := n8
 obtain rfl := n9
 obtain ⟨y1, rfl, c7⟩ := er n1
 obtain ⟨a3, a4, rfl⟩ := ah c7
 obtain ⟨y2, y3, rfl, c8, a9⟩ := eU n2
 obtain ⟨a5, a6, rfl⟩ := ah c8
 obtain ⟨a7, a8, rfl⟩ := ah a9
 unfold ig at H
 refine aq Tryz.func7 z Tryz.ntmps7 z (HS) <| sR <| ob _ z fun a1 => oP z <| nQ <| ai <| sR <| o1 z (rx 0 0 _ z yH z) <| bE H fun y4 o0 H => oq z (qc z Qe (fun c a => yJ c o0 (ij (cl (av (ab c5 c a) (ab c6 c a)) z z z z z z) (dV (ab c7 c a)) (ei (ab c8 c a) (ab a9 c a))))) tt2 <| oP z <| nQ <| cI H z (fun H => ?_) (fun H => ?_)
 ·exact sR <| oP z <| nT <| af <| ml (fun _ h => St.pushNil (e := e8) (T := 5) h) <| ca (rs := [.tmp 2]) (vs := [S N 0 0]) z ⟨z, Y⟩ (fun w' hw' => by
   obtain rfl := ak H
   exact ⟨_, z, N, 0, 0, [], z, hw'.sel [1] z z⟩)
 ·refine aj <| ao <| sR <| aa [.fa 55 0 0 mq] z <| o1 z (rx 0 0 _ z sx z) <| bL z z z z sx (fun _ => kp) fun h6 => sC 0 [S F p0.a_.p_.d_.length G, S L p0.a_.p_.m_.length M, I J p0.a_.c_.L_, I J p0.a_.c_.K_, I J p0.a_.c_.M_, I J p0.a_.c_.f_, I J p0.a_.c_.b_, I J p0.a_.c_.G_, B p0.a_.c_.P_, I J p0.a_.j_, I J p0.a_.N_, I J p0.a_.O_, I J p0.a_.s_, I J p0.a_.t_] [_, _, _, _, _, _, _, _, _, _, _, _, _, _] 1 z sx z <| nR <| dm (val := I K) (h1 := fun _ => z) [83, 80, 78] [(0, [I K 83]), (1, [I K 80]), (2, [I K 78])] z z z z z eH ty5 z z z ⟨z, z, nl z, z, z, nl z, z, z, nl z, Y⟩ z z (fun _ => kp) fun y5 => Ld (r := 2) z z z z z eH in5 z kp <| dm (val := I K) (h1 := fun _ => z) [1] [(0, [I K 1])] z z z z z eH ty5 z z z ⟨z, z, nl z, Y⟩ z z (fun _ => kp) fun b0 => bE H fun c9 h7 H => cV (r := 2) (ys := ([1] : List Int)) z z z z z z eH ty5 z z z (aY (e := ae e8 5) (r := 3) z) h7 (fun _ _ _ => kp) fun d0 d1 y6 => el z (fun c a => rW (i := 2) a z (sa h7)) fun p3 => o1 z (uU [(0, [S d0 c9.length d1])] [S d0 c9.length d1, B n] z z Qq Qs z ⟨z, z, nl z, Y⟩ z) <| ob _ z fun t => oP z <| nQ <| ai <| tj 10 [(0, y), (1, y), (2, y), (3, y), (4, y), (5, y), (6, y), (7, n), (8, n), (9, n)] (St w d [b a1 55 [S F p0.a_.p_.d_.length G, S L p0.a_.p_.m_.length M, I J p0.a_.c_.L_, I J p0.a_.c_.K_, I J p0.a_.c_.M_, I J p0.a_.c_.f_, I J p0.a_.c_.b_, I J p0.a_.c_.G_, B p0.a_.c_.P_, I J p0.a_.j_, I J p0.a_.N_, I J p0.a_.O_, I J p0.a_.s_, I J p0.a_.t_, S a3 p0.J_.j_.length a4, S a5 p0.v_.n_.length a6, S a7 p0.v_.l_.length a8], b h6 47 [S F p0.a_.p_.d_.length G, S L p0.a_.p_.m_.length M, I J p0.a_.c_.L_, I J p0.a_.c_.K_, I J p0.a_.c_.M_, I J p0.a_.c_.f_, I J p0.a_.c_.b_, I J p0.a_.c_.G_, B p0.a_.c_.P_, I J p0.a_.j_, I J p0.a_.N_, I J p0.a_.O_, I J p0.a_.s_, I J p0.a_.t_], Res.nil, W (ae e8 5) [b0] ([1] : List Int) [S (U ⟨b0, 0, N⟩) (([1] : List Int).length) 1], b t 91 [S d0 c9.length d1, B n]]) eR (by kernel_rfl) (iS kw) (sm [y, y, n, y, y] z) <| aa [.p, .p, .p, .fa 91 0 0 xX] z <| nr z (bU z) (r1 0 4 z HJ z) <| aa [.fa 47 0 0 mr] z <| nr z (bU z) (rx 0 1 _ z ja z) <| bE H fun y7 o2 H => oq z (qc z Qf (fun c a => vo c o2 (av (ab c5 c a) (ab c6 c a)) (ab gT c a))) (sm [y, y, n, y, y] z) <| bE H fun d2 o3 H => aC z Qa z z z z (fun c a => zc c o3 (a.carve [] z z)) fun y8 c P a h9 => ?_
  obtain ⟨o4, y9, o5, o6, rfl, d3⟩ := h9
  obtain rfl := aI (i := 0) d3 z
  refine ⟨St w d [_, _, _, _, _, _], a.comp [] z z d3, (sm [y, y, n, y, y] z), ?_⟩
  refine bE H fun b1 o7 H => cV (r := 2) (ys := d2) z z z z z z eH ty5 z z z (aY (e := ae e8 5) (r := 5) z) o7 (fun _ _ _ => (sm [y, y, n, y, y] z)) fun d4 d5 o8 => sV <| Fz <| aa [.p, .fa 91 0 0 xX] z <| sC 0 [S d4 b1.length d5] [_, _] 4 z HJ z <| nR <| aa [.fa 47 1 2 ru] z <| o1 z (rx 2 1 _ z ry z) <| bL z z z z ry (fun _ => kp) fun o9 => sC 0 [I J p0.a_.c_.L_, I J p0.a_.c_.K_, I J p0.a_.c_.M_, I J p0.a_.c_.f_, I J p0.a_.c_.b_, I J p0.a_.c_.G_, B p0.a_.c_.P_] [_, _, _, _, _, _, _] 6 z ry z <| nQ <| ai <| tj 17 [(0, y), (1, y), (2, y), (3, y), (4, y), (5, y), (6, y), (7, y), (8, y), (9, y), (10, y), (11, y), (12, y), (13, y), (14, y), (15, n), (16, n)] (St w d [b a1 55 [S F p0.a_.p_.d_.length G, S L p0.a_.p_.m_.length M, I J p0.a_.c_.L_, I J p0.a_.c_.K_, I J p0.a_.c_.M_, I J p0.a_.c_.f_, I J p0.a_.c_.b_, I J p0.a_.c_.G_, B p0.a_.c_.P_, I J p0.a_.j_, I J p0.a_.N_, I J p0.a_.O_, I J p0.a_.s_, I J p0.a_.t_, S a3 p0.J_.j_.length a4, S a5 p0.v_.n_.length a6, S a7 p0.v_.l_.length a8], b h6 47 [S F p0.a_.p_.d_.length G, S L p0.a_.p_.m_.length M, I J p0.a_.c_.L_, I J p0.a_.c_.K_, I J p0.a_.c_.M_, I J p0.a_.c_.f_, I J p0.a_.c_.b_, I J p0.a_.c_.G_, B p0.a_.c_.P_, I J p0.a_.j_, I J p0.a_.N_, I J p0.a_.O_, I J p0.a_.s_, I J p0.a_.t_], W (ae e8 5) o8 b1 [S d4 b1.length d5], W (ae e8 5) [b0] ([1] : List Int) [S (U ⟨b0, 0, N⟩) (([1] : List Int).length) 1], b t 91 [S d4 b1.length d5, B n], W (ae e8 5) o6 d2 [S o4 d2.length o5], b o9 45 [I J p0.a_.c_.L_, I J p0.a_.c_.K_, I J p0.a_.c_.M_, I J p0.a_.c_.f_, I J p0.a_.c_.b_, I J p0.a_.c_.G_, B p0.a_.c_.P_]]) eR (by kernel_rfl) (iS kw) (tk 7 z) <| aa [.p, .fa 45 0 0 vt] z <| nr z (bU z) (r1 0 6 z ty3 z) <| aa [.fa 45 1 1 vE] z <| nr z (bU z) (r1 1 6 z ty3 z) <| aa [.fa 45 2 2 vw] z <| nr z (bU z) (r1 2 6 z ty3 z) <| aa [.fa 45 3 3 tu] z <| nr z (bU z) (r1 3 6 z ty3 z) <| aa [.fa 45 4 4 tx] z <| nr z (bU z) (r1 4 6 z ty3 z) <| aa [.fa 45 5 5 tl] z <| nr z (bU z) (r1 5 6 z ty3 z) <| aa [.fa 45 6 6 Aw] z <| nr z (bU z) (r1 6 6 z ty4 z) <| bE H fun h8 i0 H => oq z (qc z Me (fun c a => sY c i0)) (tk 7 z) <| dm (val := I J) (h1 := fun _ => z) [p0.a_.c_.L_, p0.a_.c_.K_, p0.a_.c_.M_, p0.a_.c_.f_, p0.a_.c_.b_, p0.a_.c_.G_, h8] [(0, [I J p0.a_.c_.L_]), (1, [I J p0.a_.c_.K_]), (2, [I J p0.a_.c_.M_]), (3, [I J p0.a_.c_.f_]), (4, [I J p0.a_.c_.b_]), (5, [I J p0.a_.c_.G_]), (6, [I J h8])] z z z z z ce ty3 z z z ⟨z, z, nl z, z, z, nl z, z, z, nl z, z, z, nl z, z, z, nl z, z, z, nl z, z, z, nl z, Y⟩ z z (fun _ => (tk 7 z)) fun p4 => sV <| Fz <| bE H fun p5 i1 H => aC z wN z z z z (fun c a => ck c i1 (a.carve [4, 2] z z) (rdO 7 [4, 2] z a z z)) fun p6 c P a f9 => ?_
  obtain ⟨p7, p8, p9, q0, rfl, b2⟩ := f9
  obtain rfl := aI (i := 1) b2 z
  refine ⟨St w d [_, _, _, _, _, _, _, _, _, _], a.comp [4, 2] z z b2, fun _ _ => Y, ?_⟩
  refine nQ <| ai <| CW.weak (C' := St w d [_, _, _, _, _, _, _, _]) ?_ (ss [0, 1, 3, 5, 6, 7, 8, 9] z z)
  refine aJ <| aa [.p, .fa 47 2 9 ta] z <| o1 z (r1 9 1 z ty3 z) <| aa [.fa 47 3 10 vJ] z <| o1 z (r1 10 1 z ty3 z) <| aa [.fa 47 4 11 vR] z <| o1 z (r1 11 1 z ty3 z) <| aa [.fa 47 5 12 tr] z <| o1 z (r1 12 1 z ty3 z) <| aa [.fa 47 6 13 sP] z <| o1 z (r1 13 1 z ty3 z) <| dm (val := I J) (h1 := fun _ => z) [p0.a_.j_, p0.a_.N_, p0.a_.O_, p0.a_.s_, p0.a_.t_] [(0, [I J p0.a_.j_]), (1, [I J p0.a_.N_]), (2, [I J p0.a_.O_]), (3, [I J p0.a_.s_]), (4, [I J p0.a_.t_])] z z z z z ce ty3 z z z ⟨z, z, nl z, z, z, nl z, z, z, nl z, z, z, nl z, z, z, nl z, Y⟩ z z (fun _ => kp) fun q2 => bE H fun d6 i2 H => aC z wN z z z z (fun c a => ck c i2 (a.carve [6, 7] z z) (rdO 8 [6, 7] z a z z)) fun q3 c P a g1 => ?_
  obtain ⟨i3, q4, i4, i5, rfl, b3⟩ := g1
  obtain rfl := aI (i := 1) b3 z
  refine ⟨St w d [_, _, _, _, _, _, _, _, _, _, _], a.comp [6, 7] z z b3, fun _ _ => Y, ?_⟩
  refine nQ <| ai <| ai <| CW.weak (C' := St w d [_, _, _, _, _, _, _, _, _]) ?_ (ss [0, 1, 2, 3, 4, 5, 8, 9, 10] z z)
  refine aJ <| aa [.fa 55 1 14 sU, .fa 50 0 0 qo] z <| o1 z (r1 14 0 z yI z) <| aa [.lenS 48 79 qi, .p] z <| nQ <| an <| CW.at (vO (fun (k : List Int) (u : Option Addr) (x : Nat) (Q : List Nat) (A : Bool) (C : Int) => St w d [b a1 55 [S F p0.a_.p_.d_.length G, S L p0.a_.p_.m_.length M, I J p0.a_.c_.L_, I J p0.a_.c_.K_, I J p0.a_.c_.M_, I J p0.a_.c_.f_, I J p0.a_.c_.b_, I J p0.a_.c_.G_, B p0.a_.c_.P_, I J p0.a_.j_, I J p0.a_.N_, I J p0.a_.O_, I J p0.a_.s_, I J p0.a_.t_, S a3 p0.J_.j_.length a4, S a5 p0.v_.n_.length a6, S a7 p0.v_.l_.length a8], b t 91 [S u k.length x, B A], W (ae e8 5) Q k [S u k.length x]]) (fun k u x Q A C => [(1, O (U ⟨a1, 0, N⟩)), (4, O (U ⟨t, 0, N⟩)), (70, S a3 p0.J_.j_.length a4), (71, I J (p0.J_.j_.length : Int)), (72, I J C)]) (fun kk => fun k u x Q A C => eS p0 kk k A C = U r) (fun _ _ _ _ _ _ H => ?_) (fun k1 i6 k u x Q A C H => ?_) aK (d6.T_) (i3) (i4) (i5) (d6.U_) (0) (H)) (ss [0, 7, 8] z z) (sb z)
  ·unfold eS at H
   exact absurd H (by simp)
  ·unfold eS at H
   refine sR <| oP z <| nQ <| ai <| cI H z (fun H => ?_) (fun H => ?_)
   ·refine aj <| ao <| ai <| an <| sR <| bE H fun f i7 H => bQ z z z z z qi mC z c7 i7 fun q5 q6 g2 g3 => ?_
    obtain ⟨q7, q8, q9, r0, rfl, i8, i9, j0, j1⟩ := dX g2
    obtain ⟨r2, r3, rfl, d7, j2⟩ := aW i8
    obtain ⟨d8, d9, rfl⟩ := ah d7
    obtain rfl := j2
    obtain rfl := i9
    obtain ⟨r4, r5, rfl, e0, j3⟩ := aW j0
    obtain ⟨e1, e2, rfl⟩ := ah e0
    obtain rfl := j3
    obtain ⟨r6, r7, rfl, j4, j5⟩ := dE j1
    obtain ⟨r8, rfl, e3⟩ := aT j4
    obtain ⟨e4, e5, rfl⟩ := ah e3
    obtain ⟨r9, rfl, e6⟩ := aT j5
    obtain ⟨e7, e9, rfl⟩ := ah e6
    refine o1 z (cu (cs := [S d8 f.F_.b_.length d9, I J f.F_.A_, B f.S_, S e1 f.w_.b_.length e2, I J f.w_.A_, S e4 f.H_.s_.o_.length e5, S e7 f.H_.t_.o_.length e9]) z z mC (bB bor g3) z) <| bL z z z z mC (fun _ => kp) fun s0 => sC 0 [S d8 f.F_.b_.length d9, I J f.F_.A_, B f.S_, S e1 f.w_.b_.length e2, I J f.w_.A_, S e4 f.H_.s_.o_.length e5, S e7 f.H_.t_.o_.length e9] [_, _, _, _, _, _, _] 3 z mC z <| nR <| aa [.p, .fa 79 0 0 sX] z <| o1 z (rx 0 3 _ z ol z) <| bE H fun s1 j6 H => aC z Nh z z z z (fun c a => qt c j6 (a.carve [1, 2] z z) (bh (rdB [1, 2] z z a d7) z)) fun s2 c P a g4 => ?_
    obtain ⟨s3, s4, s5, s6, rfl, b4⟩ := g4
    obtain rfl := aI (i := 1) b4 z
    refine ⟨St w d [_, _, _, _, _, _], a.comp [1, 2] z z b4, fun _ _ => Y, ?_⟩
    refine nQ <| ai <| CW.weak (C' := St w d [_, _, _, _]) ?_ (ss [0, 3, 4, 5] z z)
    refine aJ <| aa [.p, .fa 79 1 2 tO] z <| o1 z (r1 2 1 z ty4 z) <| bE H fun f0 j7 H => oq z (qc z Me (fun c a => sY c j7)) tt2 <| dm (val := I J) (h1 := fun _ => z) [f0] [(0, [I J f0])] z z z z z ce ty3 z z z ⟨z, z, nl z, Y⟩ z z (fun _ => kp) fun s7 => bE H fun s8 j8 H => aC z wN z z z z (fun c a => ck c j8 (a.carve [2, 3] z z) (rdO 4 [2, 3] z a z z)) fun s9 c P a g5 => ?_
    obtain ⟨t0, t1, t2, t3, rfl, b5⟩ := g5
    obtain rfl := aI (i := 1) b5 z
    refine ⟨St w d [_, _, _, _, _, _, _], a.comp [2, 3] z z b5, fun _ _ => Y, ?_⟩
    refine nQ <| ai <| CW.weak (C' := St w d [_, _, _, _, _]) ?_ (ss [0, 1, 4, 5, 6] z z)
    refine aJ <| aa [.p, .fa 79 2 3 qh] z <| o1 z (rx 3 1 _ z ol z) <| bE H fun t4 j9 H => aC z Nh z z z z (fun c a => qt c j9 (a.carve [3, 4] z z) (bh (rdB [3, 4] z z a e0) z)) fun t5 c P a g6 => ?_
    obtain ⟨t6, t7, t8, t9, rfl, b6⟩ := g6
    obtain rfl := aI (i := 1) b6 z
    refine ⟨St w d [_, _, _, _, _, _, _], a.comp [3, 4] z z b6, fun _ _ => Y, ?_⟩
    refine nQ <| ai <| CW.weak (C' := St w d [_, _, _, _, _]) ?_ (ss [0, 1, 2, 5, 6] z z)
    refine aJ <| aa [.p, .fa 79 3 5 rf, .fa 77 0 0 un] z <| o1 z (rx 5 1 _ z sM z) <| bE H fun u0 k0 H => aC z OO z z z z (fun c a => oW c k0 (a.carve [3, 4] z z) (bg (rdB [3, 4] z z a e3))) fun u1 c P a g7 => ?_
    obtain ⟨u2, u3, u4, u5, rfl, b7⟩ := g7
    obtain rfl := aI (i := 1) b7 z
    refine ⟨St w d [_, _, _, _, _, _, _], a.comp [3, 4] z z b7, fun _ _ => Y, ?_⟩
    refine nQ <| CW.weak (C' := St w d [_, _, _, _, _]) ?_ (ss [0, 1, 2, 5, 6] z z)
    refine aJ <| aa [.p, .fa 79 3 5 rf, .fa 77 1 1 tX] z <| o1 z (rx 6 1 _ z sM z) <| bE H fun f1 k4 H => aC z OO z z z z (fun c a => oW c k4 (a.carve [3, 4] z z) (bg (rdB [3, 4] z z a e6))) fun u6 c P a g8 => ?_
    obtain ⟨k5, u7, k6, k7, rfl, b8⟩ := g8
    obtain rfl := aI (i := 1) b8 z
    refine ⟨St w d [_, _, _, _, _, _, _], a.comp [3, 4] z z b8, fun _ _ => Y, ?_⟩
    refine aE <| cx <| ao <| CW.weak (C' := St w d [_, _, _, _, _]) ?_ (ss [0, 1, 2, 5, 6] z z)
    exact aJ <| oPP z <| aE <| cz (RW.at (i6 (f1.T_) (k5) (k6) (k7) (f1.U_) (J.wrap (C + 1)) (H)) (ss [0, 3, 4] z z) (sb z))
   ·refine bb <| aw <| ay <| ax <| ao <| ai <| sR <| aa [.fa 55 2 15 ni, .fa 53 0 0 mp] z <| o1 z (r1 15 0 z fw z) <| aa [.lenS 33 69 eK, .p] z <| nQ <| an <| CW.at (vO (fun (D : Int) (m : List Int) (R : Option Addr) (V : Nat) (a2 : List Nat) (X : Bool) => St w d [b a1 55 [S F p0.a_.p_.d_.length G, S L p0.a_.p_.m_.length M, I J p0.a_.c_.L_, I J p0.a_.c_.K_, I J p0.a_.c_.M_, I J p0.a_.c_.f_, I J p0.a_.c_.b_, I J p0.a_.c_.G_, B p0.a_.c_.P_, I J p0.a_.j_, I J p0.a_.N_, I J p0.a_.O_, I J p0.a_.s_, I J p0.a_.t_, S a3 p0.J_.j_.length a4, S a5 p0.v_.n_.length a6, S a7 p0.v_.l_.length a8], b t 91 [S R m.length V, B X], W (ae e8 5) a2 m [S R m.length V]]) (fun D m R V a2 X => [(1, O (U ⟨a1, 0, N⟩)), (4, O (U ⟨t, 0, N⟩)), (103, S a5 p0.v_.n_.length a6), (104, I J (p0.v_.n_.length : Int)), (105, I J D)]) (fun kk => fun D m R V a2 X => ec p0 kk D m X = U r) (fun _ _ _ _ _ _ H => ?_) (fun k2 k8 D m R V a2 X H => ?_) aK (0) (k) (u) (x) (Q) (A) (H)) (ss [0, 1, 2] z z) (sb z)
    ·unfold ec at H
     exact absurd H (by simp)
    ·unfold ec at H
     refine sR <| oP z <| nQ <| ai <| cI H z (fun H => ?_) (fun H => ?_)
     ·refine aj <| ao <| ai <| an <| sR <| bE H fun u8 k9 H => bQ z z z z z eK bW z c8 k9 fun u9 v0 b9 g9 => ?_
      obtain ⟨v1, v2, rfl⟩ := ah b9
      refine o1 z (aF z z bW (bB bor g9)) <| oP z <| nQ <| aJ <| oPP z <| bE H fun f2 l0 H => aC z HR z z z z (fun c a => gh c l0 (a.carve [1, 2] z z) (rdB [1, 2] z z a b9)) fun v3 c P a h0 => ?_
      obtain ⟨l1, v4, l2, l3, rfl, c1⟩ := h0
      obtain rfl := aI (i := 1) c1 z
      refine ⟨St w d [_, _, _, _, _], a.comp [1, 2] z z c1, fun _ _ => Y, ?_⟩
      refine aE <| cx <| ao <| CW.weak (C' := St w d [_, _, _]) ?_ (ss [0, 3, 4] z z)
      exact aJ <| oPP z <| aE <| cz (RW.at (k8 (J.wrap (D + 1)) (f2.T_) (l1) (l2) (l3) (f2.U_) (H)) (ss [0, 1, 2] z z) (sb z))
     ·refine bb <| aw <| ay <| ax <| ao <| sR <| aa [.p, .fa 55 2 15 ni, .fa 53 1 1 lO] z <| o1 z (r1 16 0 z ug z) <| aa [.lenS 51 84 pi] z <| dm (val := I J) (h1 := fun _ => z) [(p0.v_.l_.length : Int)] [(0, [I J (p0.v_.l_.length : Int)])] z z z z z ce ty3 z z z ⟨z, z, nl z, Y⟩ z z (fun _ => kp) fun v5 => bE H fun f3 l4 H => aC z wN z z z z (fun c a => ck c l4 (a.carve [1, 2] z z) (rdO 3 [1, 2] z a z z)) fun v6 c P a h2 => ?_
      obtain ⟨l5, v7, l6, l7, rfl, c2⟩ := h2
      obtain rfl := aI (i := 1) c2 z
      refine ⟨St w d [_, _, _, _, _, _], a.comp [1, 2] z z c2, fun _ _ => Y, ?_⟩
      refine nQ <| ai <| ai <| CW.weak (C' := St w d [_, _, _, _]) ?_ (ss [0, 3, 4, 5] z z)
      refine aJ <| aa [.fa 55 2 15 ni, .fa 53 1 1 lO] z <| o1 z (r1 16 0 z ug z) <| aa [.lenS 51 84 pi, .p] z <| nQ <| an <| CW.at (vO (fun (o : Int) (g : List Int) (q : Option Addr) (s : Nat) (Z : List Nat) (E : Bool) => St w d [b t 91 [S q g.length s, B E], W (ae e8 5) Z g [S q g.length s]]) (fun o g q s Z E => [(4, O (U ⟨t, 0, N⟩)), (122, S a7 p0.v_.l_.length a8), (123, I J (p0.v_.l_.length : Int)), (124, I J o)]) (fun kk => fun o g q s Z E => eO p0 kk o g E = U r) (fun _ _ _ _ _ _ H => ?_) (fun k3 l8 o g q s Z E H => ?_) aK (0) (f3.T_) (l5) (l6) (l7) (f3.U_) (H)) (ss [2, 3] z z) (sb z)
      ·unfold eO at H
       exact absurd H (by simp)
      ·unfold eO at H
       refine sR <| oP z <| nQ <| ai <| cI H z (fun H => ?_) (fun H => ?_)
       ·refine aj <| ao <| ai <| an <| sR <| bE H fun l f4 H => bO (e := bD) (xs := p0.v_.l_) (j := o) z z z z z pi nN z (ab a9) f4 z <| o1 z (cu (cs := [I J l.Q_, I J l.R_]) z z nN (ls (mS (ab a9) f4 (fun _ _ h => h)) z) z) <| bL z z z z nN (fun _ => kp) fun v8 => sC 0 [I J l.Q_, I J l.R_] [_, _] 2 z nN z <| nQ <| aJ <| aa [.p, .fa 84 0 0 rY] z <| o1 z (r1 0 2 z ty3 z) <| aa [.fa 84 1 1 sc] z <| o1 z (r1 1 2 z ty3 z) <| dm (val := I J) (h1 := fun _ => z) [l.Q_, l.R_] [(0, [I J l.Q_]), (1, [I J l.R_])] z z z z z ce ty3 z z z ⟨z, z, nl z, z, z, nl z, Y⟩ z z (fun _ => kp) fun v9 => bE H fun f5 l9 H => aC z wN z z z z (fun c a => ck c l9 (a.carve [0, 1] z z) (rdO 3 [0, 1] z a z z)) fun w0 c P a h3 => ?_
        obtain ⟨m0, w3, m1, m2, rfl, c3⟩ := h3
        obtain rfl := aI (i := 1) c3 z
        refine ⟨St w d [_, _, _, _, _, _], a.comp [0, 1] z z c3, fun _ _ => Y, ?_⟩
        refine aE <| cx <| ao <| CW.weak (C' := St w d [_, _, _, _]) ?_ (ss [2, 3, 4, 5] z z)
        exact aJ <| oPP z <| aE <| cz (RW.at (l8 (J.wrap (o + 1)) (f5.T_) (m0) (m1) (m2) (f5.U_) (H)) (ss [2, 3] z z) (sb z))
       ·refine bb <| aw <| ay <| ax <| ao <| ai <| tj 9 [(0, y), (1, y), (2, y), (3, y), (4, y), (5, y), (6, y), (7, y), (8, n)] (St w d [b t 91 [S q g.length s, B E], W (ae e8 5) Z g [S q g.length s]]) eR (by kernel_rfl) (iS kw) (tk 2 z) <| aa [.p, .p, .fa 91 0 0 xX] z <| nr z (bU z) (r1 0 0 z HJ z) <| aa [.p, .p, .fa 91 0 0 xX] z <| nr z (bU z) (r1 0 0 z HJ z) <| bE H fun m3 m4 H => aC z QH z z z z (fun c a => xq c m4 (a.carve [] z z) (aY (e := ae e8 5) (r := 1) z c a)) fun w4 c P a h4 => ?_
        obtain ⟨w5, w6, w7, w8, rfl, c4⟩ := h4
        obtain rfl := aI (i := 0) c4 z
        refine ⟨St w d [_, _, _], a.comp [] z z c4, (tk 2 z), ?_⟩
        exact sV <| Fz <| bE H fun f6 m5 H => cV (r := 1) (ys := m3) z z z z z z eH ty5 z z z (aY (e := ae e8 5) (r := 2) z) m5 (fun _ _ _ => kp) fun f7 f8 m6 => oP z <| nT <| ca (rs := [.tmp 2]) (vs := [S f7 f6.length f8]) z ⟨z, Y⟩ (fun w' hw' => by
         obtain rfl := ak H
         exact ⟨_, z, f7, f6.length, f8, m6, z, hw'.sel [1] z z⟩)
theorem qj (w : World) {p0 : List Int} {p1 : List Int} {a_0 : Option Addr} {n_0 c_0 : Nat} {a_1 : Option Addr} {n_1 c_1 : Nat} {r : Bool} (H : kl p0 p1 = U r) (f : (ae e8 5).rd w [] p0 [S a_0 n_0 c_0]) (g : (ae e8 5).rd w [] p1 [S a_1 n_1 c_1]) :
    Calls Tryz.prog 8 #[S a_0 n_0 c_0, S a_1 n_1 c_1] w (fun en w' => en = .returned (B r) ∧ Ext [] w w') := by
 obtain rfl := eb f
 obtain rfl := eb g
 unfold kl at H
 refine aq Tryz.func8 z Tryz.ntmps8 z (St.init w []) <| sR <| oP z <| nQ <| ai <| sR <| aa [.p, .lenS 40 5 eH, .p, .lenS 40 5 eH, .p] z <| nQ <| cI H z (fun H => ?_) (fun H => ?_)
 ·exact sR <| oP z <| nT <| af <| xr 4 z (by cases H; exact q1)
 ·refine aj <| ao <| ai <| sR <| oP z <| nQ <| an <| CW.at (dn (fun (a : Int) => St w [] []) (fun a => [(0, S a_0 p0.length c_0), (1, S a_1 p1.length c_1), (5, I J a)]) (fun kk => fun a => jk p0 p1 kk a = U r) (fun _ H => ?_) (fun l h a H => ?_) aK (0) (H)) (ss [] z z) (sb z)
  ·unfold jk at H
   exact absurd H (by simp)
  ·unfold jk at H
   refine ai <| sR <| aa [.p, .p, .lenS 40 5 eH, .p] z <| nQ <| cI H z (fun H => ?_) (fun H => ?_)
   ·refine aj <| ao <| ai <| an <| ai <| eF eR (by kernel_rfl) <| oPP z <| bE H fun i c H => bO (e := e8) (xs := p0) (j := a) z z z z z eH ty5 z (ab f) c (by rw [Nat.mul_one]) <| o1 z (aF z z ty5 (cq (ab f) c)) <| oPP z <| bE H fun k d H => bO (e := e8) (xs := p1) (j := a) z z z z z eH ty5 z (ab g) d (by rw [Nat.mul_one]) <| o1 z (aF z z ty5 (cq (ab g) d)) <| oP z <| dg <| ao <| cI H z (fun H => ?_) (fun H => ?_)
    ·exact sR <| oP z <| nT <| ar <| af <| bd <| ar <| af <| xr 4 z (by cases H; exact q1)
    ·exact aj <| cx <| ao <| aJ <| aa [.p, .p, .p] z <| aE <| cz (RW.at (h (J.wrap (a + 1)) (H)) (ss [] z z) (sb z))
   ·exact bb <| aw <| ay <| ax <| ao <| sR <| oP z <| nT <| xr 4 z (by cases H; exact q1)
theorem lv (w : World) {p0 : List Int} {p1 : List Int} {a_0 : Option Addr} {n_0 c_0 : Nat} {a_1 : Option Addr} {n_1 c_1 : Nat} {r : Bool} (H : iz p0 p1 = U r) (f : (ae eI 3).rd w [] p0 [S a_0 n_0 c_0]) (g : (ae eI 3).rd w [] p1 [S a_1 n_1 c_1]) :
    Calls Tryz.prog 114 #[S a_0 n_0 c_0, S a_1 n_1 c_1] w (fun en w' => en = .returned (B r) ∧ Ext [] w w') := by
 obtain rfl := eb f
 obtain rfl := eb g
 unfold iz at H
 refine aq Tryz.func114 z Tryz.ntmps114 z (St.init w []) <| sR <| oP z <| nQ <| ai <| sR <| aa [.p, .lenS 69 3 ce, .p, .lenS 69 3 ce, .p] z <| nQ <| cI H z (fun H => ?_) (fun H => ?_)
 ·exact sR <| oP z <| nT <| af <| xr 4 z (by cases H; exact q1)
 ·refine aj <| ao <| ai <| sR <| oP z <| nQ <| an <| CW.at (dn (fun (a : Int) => St w [] []) (fun a => [(0, S a_0 p0.length c_0), (1, S a_1 p1.length c_1), (5, I J a)]) (fun kk => fun a => jQ p0 p1 kk a = U r) (fun _ H => ?_) (fun l h a H => ?_) aK (0) (H)) (ss [] z z) (sb z)
  ·unfold jQ at H
   exact absurd H (by simp)
  ·unfold jQ at H
   refine ai <| sR <| aa [.p, .p, .lenS 69 3 ce, .p] z <| nQ <| cI H z (fun H => ?_) (fun H => ?_)
   ·refine aj <| ao <| ai <| an <| ai <| eF eR (by kernel_rfl) <| oPP z <| bE H fun i c H => bO (e := eI) (xs := p0) (j := a) z z z z z ce ty3 z (ab f) c (by rw [Nat.mul_one]) <| o1 z (aF z z ty3 (cq (ab f) c)) <| oPP z <| bE H fun k d H => bO (e := eI) (xs := p1) (j := a) z z z z z ce ty3 z (ab g) d (by rw [Nat.mul_one]) <| o1 z (aF z z ty3 (cq (ab g) d)) <| oP z <| dg <| ao <| cI H z (fun H => ?_) (fun H => ?_)
    ·exact sR <| oP z <| nT <| ar <| af <| bd <| ar <| af <| xr 4 z (by cases H; exact q1)
    ·exact aj <| cx <| ao <| aJ <| aa [.p, .p, .p] z <| aE <| cz (RW.at (h (J.wrap (a + 1)) (H)) (ss [] z z) (sb z))
   ·exact bb <| aw <| ay <| ax <| ao <| sR <| oP z <| nT <| xr 4 z (by cases H; exact q1)
theorem rF (w : World) {p0 : List (List UInt8)} {p1 : List (List UInt8)} {a_0 : Option Addr} {n_0 c_0 : Nat} {a_1 : Option Addr} {n_1 c_1 : Nat} {r : Bool} (H : jN p0 p1 = U r) (f : (ae (cy) 9).rd w [] p0 [S a_0 n_0 c_0]) (g : (ae (cy) 9).rd w [] p1 [S a_1 n_1 c_1]) :
    Calls Tryz.prog 112 #[S a_0 n_0 c_0, S a_1 n_1 c_1] w (fun en w' => en = .returned (B r) ∧ Ext [] w w') := by
 obtain rfl := eb f
 obtain rfl := eb g
 unfold jN at H
 refine aq Tryz.func112 z Tryz.ntmps112 z (St.init w []) <| sR <| oP z <| nQ <| ai <| sR <| aa [.p, .lenS 23 9 gm, .p, .lenS 23 9 gm, .p] z <| nQ <| cI H z (fun H => ?_) (fun H => ?_)
 ·exact sR <| oP z <| nT <| af <| xr 4 z (by cases H; exact q1)
 ·refine aj <| ao <| ai <| sR <| oP z <| nQ <| an <| CW.at (dn (fun (a : Int) => St w [] []) (fun a => [(0, S a_0 p0.length c_0), (1, S a_1 p1.length c_1), (5, I J a)]) (fun kk => fun a => gV p0 p1 kk a = U r) (fun _ H => ?_) (fun l h a H => ?_) aK (0) (H)) (ss [] z z) (sb z)
  ·unfold gV at H
   exact absurd H (by simp)
  ·unfold gV at H
   refine ai <| sR <| aa [.p, .p, .lenS 23 9 gm, .p] z <| nQ <| cI H z (fun H => ?_) (fun H => ?_)
   ·refine aj <| ao <| ai <| an <| ai <| eF eR (by kernel_rfl) <| oPP z <| bE H fun i c H => bO (e := cy) (xs := p0) (j := a) z z z z z gm ty9 z (ab f) c (by rw [Nat.mul_one]) <| o1 z (aF z z ty9 (cq (ab f) c)) <| oPP z <| bE H fun k d H => bO (e := cy) (xs := p1) (j := a) z z z z z gm ty9 z (ab g) d (by rw [Nat.mul_one]) <| o1 z (aF z z ty9 (cq (ab g) d)) <| oP z <| dg <| ao <| cI H z (fun H => ?_) (fun H => ?_)
    ·exact sR <| oP z <| nT <| ar <| af <| bd <| ar <| af <| xr 4 z (by cases H; exact q1)
    ·exact aj <| cx <| ao <| aJ <| aa [.p, .p, .p] z <| aE <| cz (RW.at (h (J.wrap (a + 1)) (H)) (ss [] z z) (sb z))
   ·exact bb <| aw <| ay <| ax <| ao <| sR <| oP z <| nT <| xr 4 z (by cases H; exact q1)
theorem Ax (w : World) {p0 : aB} {p1 : aB} {d : List Value} {e : List Value} {r : Bool} (H : nL p0 p1 = U r) (o : (bj).rd w [] p0 d) (p : (bj).rd w [] p1 e) :
    Calls Tryz.prog 145 #[.agg d.toArray, .agg e.toArray] w (fun en w' => en = .returned (B r) ∧ Ext [] w w') := by
 obtain ⟨q, s, t, rfl, j, f, g⟩ := bV o
 obtain rfl := j
 obtain ⟨u, v, rfl⟩ := ah f
 obtain ⟨x, A, rfl⟩ := ah g
 obtain ⟨C, D, E, rfl, k, h, i⟩ := bV p
 obtain rfl := k
 obtain ⟨F, G, rfl⟩ := ah h
 obtain ⟨L, M, rfl⟩ := ah i
 unfold nL at H
 refine aq Tryz.func145 z Tryz.ntmps145 z (St.init w []) <| sR <| ob _ z fun P => ob _ z fun Q => oP z <| nQ <| ai <| sR <| aa [.fa 111 0 0 me] z <| o1 z (r1 0 0 z ty9 z) <| aa [.fa 111 0 0 me] z <| o1 z (r1 0 1 z ty9 z) <| oP z <| nQ <| cI H z (fun H => ?_) (fun H => ?_)
 ·exact sR <| oP z <| nT <| af <| xr 4 z (by cases H; exact q1)
 ·refine aj <| ao <| ai <| sR <| aa [.fa 111 1 1 gn] z <| o1 z (r1 1 0 z bW z) <| aa [.fa 111 1 1 gn] z <| o1 z (r1 1 1 z bW z) <| bE H fun R l H => oq z (qc z EE (fun c a => lv c l (ab f c a) (ab h c a))) tt2 <| oP z <| nQ <| cI H z (fun H => ?_) (fun H => ?_)
  ·exact sR <| oP z <| nT <| af <| xr 4 z (by cases H; exact q1)
  ·refine aj <| ao <| ai <| sR <| aa [.fa 111 2 2 ks] z <| o1 z (r1 2 0 z lr z) <| aa [.fa 111 2 2 ks] z <| o1 z (r1 2 1 z lr z) <| bE H fun T m H => oq z (qc z Lu (fun c a => rF c m (ab g c a) (ab i c a))) tt2 <| oP z <| nQ <| cI H z (fun H => ?_) (fun H => ?_)
   ·exact sR <| oP z <| nT <| af <| xr 4 z (by cases H; exact q1)
   ·exact aj <| ao <| sR <| oP z <| nT <| xr 4 z (by cases H; exact q1)
theorem yT (w : World) {p0 : List aB} {p1 : List aB} {a_0 : Option Addr} {n_0 c_0 : Nat} {a_1 : Option Addr} {n_1 c_1 : Nat} {r : Bool} (H : nZ p0 p1 = U r) (C : (ae (bj) 111).rd w [] p0 [S a_0 n_0 c_0]) (D : (ae (bj) 111).rd w [] p1 [S a_1 n_1 c_1]) :
    Calls Tryz.prog 111 #[S a_0 n_0 c_0, S a_1 n_1 c_1] w (fun en w' => en = .returned (B r) ∧ Ext [] w w') := by
 obtain rfl := eb C
 obtain rfl := eb D
 unfold nZ at H
 refine aq Tryz.func111 z Tryz.ntmps111 z (St.init w []) <| sR <| oP z <| nQ <| ai <| sR <| aa [.p, .lenS 42 111 kr, .p, .lenS 42 111 kr, .p] z <| nQ <| cI H z (fun H => ?_) (fun H => ?_)
 ·exact sR <| oP z <| nT <| af <| xr 4 z (by cases H; exact q1)
 ·refine aj <| ao <| ai <| sR <| oP z <| nQ <| an <| CW.at (dn (fun (a : Int) => St w [] []) (fun a => [(0, S a_0 p0.length c_0), (1, S a_1 p1.length c_1), (5, I J a)]) (fun kk => fun a => jl p0 p1 kk a = U r) (fun _ H => ?_) (fun k1 l a H => ?_) aK (0) (H)) (ss [] z z) (sb z)
  ·unfold jl at H
   exact absurd H (by simp)
  ·unfold jl at H
   refine ai <| sR <| aa [.p, .p, .lenS 42 111 kr, .p] z <| nQ <| cI H z (fun H => ?_) (fun H => ?_)
   ·refine aj <| ao <| ai <| an <| ai <| eF eR (by kernel_rfl) <| oPP z <| bE H fun d E H => bQ z z z z z kr ed z C E fun a1 a2 m o => ?_
    obtain ⟨a3, a4, a5, rfl, F, j, k⟩ := bV m
    obtain rfl := F
    obtain ⟨G, L, rfl⟩ := ah j
    obtain ⟨M, P, rfl⟩ := ah k
    refine o1 z (cu (cs := [vS d.E_, S G d.z_.length L, S M d.I_.length P]) z z ed (bB bor o) z) <| oPP z <| bE H fun e Q H => bQ z z z z z kr ed z D Q fun R T q i => ?_
    obtain ⟨V, X, Z, rfl, s, f, g⟩ := bV q
    obtain rfl := s
    obtain ⟨t, u, rfl⟩ := ah f
    obtain ⟨v, x, rfl⟩ := ah g
    refine o1 z (cu (cs := [vS e.E_, S t e.z_.length u, S v e.I_.length x]) z z ed (bB bor i) z) <| bE H fun a0 A H => oq z (qc z Oa (fun h c => Ax h A (cZ z (ab j h c) (ab k h c)) (cZ z (ab f h c) (ab g h c)))) tt2 <| oP z <| dg <| ao <| cI H z (fun H => ?_) (fun H => ?_)
    ·exact sR <| oP z <| nT <| ar <| af <| bd <| ar <| af <| xr 4 z (by cases H; exact q1)
    ·exact aj <| cx <| ao <| aJ <| aa [.p, .p, .p] z <| aE <| cz (RW.at (l (J.wrap (a + 1)) (H)) (ss [] z z) (sb z))
   ·exact bb <| aw <| ay <| ax <| ao <| sR <| oP z <| nT <| xr 4 z (by cases H; exact q1)
theorem yc (w : World) {p0 : am} {p1 : am} {d : List Value} {e : List Value} {r : Bool} (H : mB p0 p1 = U r) (l : (bK).rd w [] p0 d) (m : (bK).rd w [] p1 e) :
    Calls Tryz.prog 72 #[.agg d.toArray, .agg e.toArray] w (fun en w' => en = .returned (B r) ∧ Ext [] w w') := by
 obtain ⟨o, p, rfl, f, g⟩ := aO l
 obtain ⟨q, s, rfl⟩ := ah f
 obtain ⟨t, u, rfl⟩ := ah g
 obtain ⟨v, x, rfl, h, i⟩ := aO m
 obtain ⟨A, C, rfl⟩ := ah h
 obtain ⟨D, E, rfl⟩ := ah i
 unfold mB at H
 refine aq Tryz.func72 z Tryz.ntmps72 z (St.init w []) <| sR <| ob _ z fun F => ob _ z fun G => oP z <| nQ <| ai <| sR <| aa [.fa 44 0 0 fS] z <| o1 z (r1 0 0 z nP z) <| aa [.fa 44 0 0 fS] z <| o1 z (r1 0 1 z nP z) <| bE H fun L j H => oq z (qc z Oc (fun c a => yT c j (ab f c a) (ab h c a))) tt2 <| oP z <| nQ <| cI H z (fun H => ?_) (fun H => ?_)
 ·exact sR <| oP z <| nT <| af <| xr 4 z (by cases H; exact q1)
 ·refine aj <| ao <| ai <| sR <| aa [.fa 44 1 1 lN] z <| o1 z (r1 1 0 z lr z) <| aa [.fa 44 1 1 lN] z <| o1 z (r1 1 1 z lr z) <| bE H fun M k H => oq z (qc z Lu (fun c a => rF c k (ab g c a) (ab i c a))) tt2 <| oP z <| nQ <| cI H z (fun H => ?_) (fun H => ?_)
  ·exact sR <| oP z <| nT <| af <| xr 4 z (by cases H; exact q1)
  ·exact aj <| ao <| sR <| oP z <| nT <| xr 4 z (by cases H; exact q1)
theorem zM (w : World) {p0 : cO} {p1 : cO} {r : Bool} (H : pN p0 p1 = U r)   :
    Calls Tryz.prog 73 #[.agg #[I J p0.L_, I J p0.K_, I J p0.M_, I J p0.f_, I J p0.b_, I J p0.G_, B p0.P_], .agg #[I J p1.L_, I J p1.K_, I J p1.M_, I J p1.f_, I J p1.b_, I J p1.G_, B p1.P_]] w (fun en w' => en = .returned (B r) ∧ Ext [] w w') := by
 unfold pN at H
 refine aq Tryz.func73 z Tryz.ntmps73 z (St.init w []) <| sR <| ob _ z fun a => ob _ z fun c => oP z <| nQ <| ai <| sR <| aa [.fa 45 0 0 vt] z <| o1 z (r1 0 0 z ty3 z) <| aa [.fa 45 0 0 vt] z <| o1 z (r1 0 1 z ty3 z) <| oP z <| nQ <| cI H z (fun H => ?_) (fun H => ?_)
 ·exact sR <| oP z <| nT <| af <| xr 4 z (by cases H; exact q1)
 ·refine aj <| ao <| ai <| sR <| aa [.fa 45 1 1 vE] z <| o1 z (r1 1 0 z ty3 z) <| aa [.fa 45 1 1 vE] z <| o1 z (r1 1 1 z ty3 z) <| oP z <| nQ <| cI H z (fun H => ?_) (fun H => ?_)
  ·exact sR <| oP z <| nT <| af <| xr 4 z (by cases H; exact q1)
  ·refine aj <| ao <| ai <| sR <| aa [.fa 45 2 2 vw] z <| o1 z (r1 2 0 z ty3 z) <| aa [.fa 45 2 2 vw] z <| o1 z (r1 2 1 z ty3 z) <| oP z <| nQ <| cI H z (fun H => ?_) (fun H => ?_)
   ·exact sR <| oP z <| nT <| af <| xr 4 z (by cases H; exact q1)
   ·refine aj <| ao <| ai <| sR <| aa [.fa 45 3 3 tu] z <| o1 z (r1 3 0 z ty3 z) <| aa [.fa 45 3 3 tu] z <| o1 z (r1 3 1 z ty3 z) <| oP z <| nQ <| cI H z (fun H => ?_) (fun H => ?_)
    ·exact sR <| oP z <| nT <| af <| xr 4 z (by cases H; exact q1)
    ·refine aj <| ao <| ai <| sR <| aa [.fa 45 4 4 tx] z <| o1 z (r1 4 0 z ty3 z) <| aa [.fa 45 4 4 tx] z <| o1 z (r1 4 1 z ty3 z) <| oP z <| nQ <| cI H z (fun H => ?_) (fun H => ?_)
     ·exact sR <| oP z <| nT <| af <| xr 4 z (by cases H; exact q1)
     ·refine aj <| ao <| ai <| sR <| aa [.fa 45 5 5 tl] z <| o1 z (r1 5 0 z ty3 z) <| aa [.fa 45 5 5 tl] z <| o1 z (r1 5 1 z ty3 z) <| oP z <| nQ <| cI H z (fun H => ?_) (fun H => ?_)
      ·exact sR <| oP z <| nT <| af <| xr 4 z (by cases H; exact q1)
      ·refine aj <| ao <| ai <| sR <| aa [.fa 45 6 6 Aw] z <| o1 z (r1 6 0 z ty4 z) <| aa [.fa 45 6 6 Aw] z <| o1 z (r1 6 1 z ty4 z) <| o1 z (Cv z z z bl4) <| nQ <| cI H z (fun H => ?_) (fun H => ?_)
       ·exact sR <| oP z <| nT <| af <| xr 4 z (by cases H; exact q1)
       ·exact aj <| ao <| sR <| oP z <| nT <| xr 4 z (by cases H; exact q1)
end Go.Vk
