/- The code does what the functions of data say. Printed by program. -/
import Derived.Test.YthdoeealefnabaaGreatDoorWSbB
namespace Go.Vk
open Value renaming int → I, slice → S, pointer → O, bool → B
open IntKind renaming i64 → J, u8 → K
open Bool renaming true → y, false → n
open Option renaming some → U, none → N
open Res renaming box → b, own → W
open Go.Proofs Go.RowKit
set_option maxHeartbeats 4000000
set_option maxRecDepth 100000
theorem ro (w : World) {s : List Nat} {p0 : Int} {r : List Int} (H : lF p0 = U r) (HS : St w s [] w) :
    Calls Tryz.prog 49 #[I J p0] w (fun en w' => ∃ v, en = .returned v ∧ ∃ (A : Option Addr), ∃ (C : Nat), ∃ (c0 : Nat), ∃ (P : List Nat), v = S A C c0 ∧ St w s [W (ae e8 5) P r [S A C c0]] w') := by
 unfold lF at H
 refine aq Tryz.func49 z Tryz.ntmps49 z (HS) <| sR <| oP z <| nR <| jw (e := e8) z z z z eH ty5 (fun _ => kp) fun f => oP z <| nQ <| ai <| sR <| oP z <| bE H fun T D H => oq z (qc z kH (fun t h => bu t D)) tt2 <| oP z <| nQ <| cI H z (fun H => ?_) (fun H => ?_)
 ·exact sR <| oPP z <| nT <| af <| ca (rs := [.tmp 2]) (vs := [S (U ⟨f, 0, N⟩) 0 0]) z ⟨z, Y⟩ (fun w' hw' => by
   obtain rfl := ak H
   exact ⟨_, z, (U ⟨f, 0, N⟩), 0, 0, [f], z, hw'.sel [0] z z⟩)
 ·refine aj <| ao <| ai <| an <| CW.at (oL (fun (a : Int) (c : List Int) (d : Option Addr) (g : Nat) (j : List Nat) => St w s [W (ae e8 5) j c [S d c.length g]]) (fun a c d g j => [(0, I J a), (3, S d c.length g)]) (fun kk => fun a c d g j => d.isNone = n ∧ gH kk a c = U r) (fun _ _ _ _ _ H => ?_) (fun Z u a c d g j ⟨Q, H⟩ => ?_) aK (p0) (([] : List Int)) ((U ⟨f, 0, N⟩)) (0) ([f]) (⟨z, H⟩)) (ss [0] z z) (sb z)
  ·unfold gH at H
   exact absurd H (by simp)
  ·unfold gH at H
   refine ai <| sR <| oPP z <| nQ <| cI H z (fun H => ?_) (fun H => ?_)
   ·exact aj <| ao <| an <| sR <| aa [.p, .p, .p, .p, .cv 3 5 K us3 in5] z <| dm (val := I K) (h1 := fun _ => z) [K.wrap (J.wrap ((Int.tmod a 128) + 128))] [(0, [I K (K.wrap (J.wrap ((Int.tmod a 128) + 128)))])] z z z z z eH ty5 z z z ⟨z, z, nl z, Y⟩ z z (fun _ => kp) fun V => bE H fun E k H => cV (r := 0) (ys := ([K.wrap (J.wrap ((Int.tmod a 128) + 128))] : List Int)) z z z z z z eH ty5 z z z (aY (e := ae e8 5) (r := 1) z) k (fun _ _ _ => kp) fun F G L => el z (fun t h => rW (i := 0) h z (sa k)) fun x => oP z <| nQ <| aJ <| aa [.p, .p, .p] z <| aE <| cx <| cz (RW.at (u (J.wrap (Int.tdiv a 128)) (E) (F) (G) (L) (⟨x, H⟩)) (ss [0] z z) (sb z))
   ·exact bb <| aw <| ay <| ax <| ao <| sR <| aa [.p, .p, .cv 3 5 K us3 in5] z <| dm (val := I K) (h1 := fun _ => z) [K.wrap a] [(0, [I K (K.wrap a)])] z z z z z eH ty5 z z z ⟨z, z, nl z, Y⟩ z z (fun _ => kp) fun X => bE H fun l m H => cV (r := 0) (ys := ([K.wrap a] : List Int)) z z z z z z eH ty5 z z z (aY (e := ae e8 5) (r := 1) z) m (fun _ _ _ => kp) fun o q M => el z (fun t h => rW (i := 0) h z (sa m)) fun R => oP z <| nT <| ca (rs := [.tmp 2]) (vs := [S o l.length q]) z ⟨z, Y⟩ (fun w' hw' => by
     obtain rfl := ak H
     exact ⟨_, z, o, l.length, q, M, z, hw'.sel [0] z z⟩)
theorem yS (w : World) {h : List Nat} {p0 : List UInt8} {r : List Int} (H : oh p0 = U r) (HS : St w h [] w) :
    Calls Tryz.prog 17 #[vS p0] w (fun en w' => ∃ v, en = .returned v ∧ ∃ (k : Option Addr), ∃ (l : Nat), ∃ (c0 : Nat), ∃ (x : List Nat), v = S k l c0 ∧ St w h [W (ae e8 5) x r [S k l c0]] w') := by
 unfold oh at H
 refine aq Tryz.func17 z Tryz.ntmps17 z (HS) <| sR <| oP z <| nR <| aa [.p, .lenT 9 st9] z <| bE H fun A m H => aC z Mw z z z z (fun o a => ro o m (a.carve [] z z)) fun C o P a j => ?_
 obtain ⟨D, E, F, G, rfl, c⟩ := j
 obtain rfl := aI (i := 0) c z
 refine ⟨St w h [_], a.comp [] z z c, fun _ _ => Y, ?_⟩
 exact oP z <| bE H fun q s H => MS z z z z z st9 eH in5 s (fun _ _ => kp) fun L M => bE H fun d t H => cV (r := 0) (ys := q) z z z z z z eH ty5 z z z (aY (e := ae e8 5) (r := 1) z) t (fun _ _ _ => kp) fun f g u => oP z <| nT <| ca (rs := [.tmp 2]) (vs := [S f d.length g]) z ⟨z, Y⟩ (fun w' hw' => by
  obtain rfl := ak H
  exact ⟨_, z, f, d.length, g, u, z, hw'.sel [0] z z⟩)
theorem rV (w : World) {p0 : Bool} {r : Int} (H : pe p0 = U r)   :
    Calls Tryz.prog 19 #[B p0] w (fun en w' => en = .returned (I J r) ∧ Ext [] w w') := by
 unfold pe at H
 refine aq Tryz.func19 z Tryz.ntmps19 z (St.init w []) <| sR <| oP z <| nQ <| ai <| sR <| oP z <| nQ <| cI H z (fun H => ?_) (fun H => ?_)
 ·exact sR <| oP z <| nT <| af <| xr 2 z (by cases H; exact q1)
 ·exact aj <| ao <| sR <| oP z <| nT <| xr 2 z (by cases H; exact q1)
theorem cD (w : World) {h : List Nat} {p0 : Int} {r : List Int} (H : cQ p0 = U r) (HS : St w h [] w) :
    Calls Tryz.prog 20 #[I J p0] w (fun en w' => ∃ v, en = .returned v ∧ ∃ (u : Option Addr), ∃ (x : Nat), ∃ (c0 : Nat), ∃ (G : List Nat), v = S u x c0 ∧ St w h [W (ae e8 5) G r [S u x c0]] w') := by
 unfold cQ at H
 refine aq Tryz.func20 z Tryz.ntmps20 z (HS) <| sR <| oP z <| nQ <| ai <| sR <| oP z <| bE H fun M A H => oq z (qc z kH (fun c a => bu c A)) tt2 <| oP z <| nQ <| cI H z (fun H => ?_) (fun H => ?_)
 ·exact sR <| jw (e := e8) z z z z eH ty5 (fun _ => kp) fun d => oP z <| nT <| af <| ca (rs := [.tmp 2]) (vs := [S (U ⟨d, 0, N⟩) 0 0]) z ⟨z, Y⟩ (fun w' hw' => by
   obtain rfl := ak H
   exact ⟨_, z, (U ⟨d, 0, N⟩), 0, 0, [d], z, hw'.sel [0] z z⟩)
 ·refine aj <| ao <| ai <| sR <| oPP z <| nQ <| cI H z (fun H => ?_) (fun H => ?_)
  ·refine sR <| aa [.p, .p, .p, .p] z <| bE H fun j C H => aC z Mw z z z z (fun c a => ro c C (a.carve [] z z)) fun P c L a s => ?_
   obtain ⟨k, Q, l, D, rfl, f⟩ := s
   obtain rfl := aI (i := 0) f z
   refine ⟨St w h [_], a.comp [] z z f, fun _ _ => Y, ?_⟩
   exact oP z <| nT <| af <| ca (rs := [.tmp 2]) (vs := [S k j.length l]) z ⟨z, Y⟩ (fun w' hw' => by
    obtain rfl := ak H
    exact ⟨_, z, k, j.length, l, D, z, hw'.sel [0] z z⟩)
  ·refine aj <| ao <| sR <| oPP z <| bE H fun m E H => aC z Mw z z z z (fun c a => ro c E (a.carve [] z z)) fun R c L a t => ?_
   obtain ⟨o, T, q, F, rfl, g⟩ := t
   obtain rfl := aI (i := 0) g z
   refine ⟨St w h [_], a.comp [] z z g, fun _ _ => Y, ?_⟩
   exact oP z <| nT <| ca (rs := [.tmp 2]) (vs := [S o m.length q]) z ⟨z, Y⟩ (fun w' hw' => by
    obtain rfl := ak H
    exact ⟨_, z, o, m.length, q, F, z, hw'.sel [0] z z⟩)
theorem gk (w : World) {p0 : List Int} {a_0 : Option Addr} {n_0 c_0 : Nat} {r : Bool} (H : eX p0 = U r) (d : (ae eI 3).rd w [] p0 [S a_0 n_0 c_0]) :
    Calls Tryz.prog 54 #[S a_0 n_0 c_0] w (fun en w' => en = .returned (B r) ∧ Ext [] w w') := by
 obtain rfl := eb d
 unfold eX at H
 refine aq Tryz.func54 z Tryz.ntmps54 z (St.init w []) <| sR <| oP z <| nQ <| ai <| sR <| oP z <| nQ <| an <| CW.at (dn (fun (a : Int) => St w [] []) (fun a => [(0, S a_0 p0.length c_0), (3, I J a)]) (fun kk => fun a => jv p0 kk a = U r) (fun _ H => ?_) (fun m f a H => ?_) aK (0) (H)) (ss [] z z) (sb z)
 ·unfold jv at H
  exact absurd H (by simp)
 ·unfold jv at H
  refine ai <| sR <| aa [.p, .p, .lenS 69 3 ce, .p] z <| nQ <| cI H z (fun H => ?_) (fun H => ?_)
  ·refine aj <| ao <| ai <| an <| sR <| oPP z <| bE H fun i c H => bO (e := eI) (xs := p0) (j := a) z z z z z ce ty3 z (ab d) c (by rw [Nat.mul_one]) <| o1 z (aF z z ty3 (cq (ab d) c)) <| bE H fun k g H => oq z (qc z kH (fun h l => bu h g)) tt2 <| oP z <| nQ <| cI H z (fun H => ?_) (fun H => ?_)
   ·exact sR <| oP z <| nT <| ar <| af <| bd <| ar <| af <| xr 2 z (by cases H; exact q1)
   ·exact aj <| cx <| ao <| aJ <| aa [.p, .p, .p] z <| aE <| cz (RW.at (f (J.wrap (a + 1)) (H)) (ss [] z z) (sb z))
  ·exact bb <| aw <| ay <| ax <| ao <| sR <| oP z <| nT <| xr 2 z (by cases H; exact q1)
theorem va (w : World) {p0 : au} {m : List Value} {r : Bool} (H : jP p0 = U r) (g0 : (bc).rd w [] p0 m) :
    Calls Tryz.prog 55 #[.agg m.toArray] w (fun en w' => en = .returned (B r) ∧ Ext [] w w') := by
 obtain ⟨b3, b4, b5, b6, b7, b8, b9, c0, c1, c2, rfl, A, C, o, D, E, F, q, G, L, M⟩ := bA g0
 obtain rfl := A
 obtain rfl := C
 obtain ⟨P, Q, rfl⟩ := ah o
 obtain rfl := D
 obtain ⟨c3, c4, rfl, s, t⟩ := aX E
 obtain ⟨T, V, rfl⟩ := ah s
 obtain ⟨X, Z, rfl⟩ := ah t
 obtain rfl := F
 obtain ⟨a0, a1, rfl⟩ := ah q
 obtain rfl := G
 obtain rfl := L
 obtain rfl := M
 unfold jP at H
 refine aq Tryz.func55 z Tryz.ntmps55 z (St.init w []) <| sR <| ob _ z fun d => oP z <| nQ <| ai <| sR <| aa [.fa 121 1 1 iW, .fa 117 0 0 ky] z <| o1 z (r1 1 0 z ty3 z) <| aa [.fa 121 1 1 iW, .fa 117 1 1 mb] z <| o1 z (r1 2 0 z ty3 z) <| aa [.fa 121 3 4 mc] z <| o1 z (r1 4 0 z ty3 z) <| aa [.fa 121 5 7 ln] z <| o1 z (r1 7 0 z ty3 z) <| aa [.fa 121 7 9 gB] z <| o1 z (r1 9 0 z ty3 z) <| aa [.fa 121 8 10 jF] z <| o1 z (r1 10 0 z ty3 z) <| aa [.fa 121 9 11 jy] z <| o1 z (r1 11 0 z ty3 z) <| dm (val := I J) (h1 := fun _ => z) [p0.g_.q_, p0.g_.u_, p0.C_, p0.D_, p0.f_, p0.x_, p0.B_] [(0, [I J p0.g_.q_]), (1, [I J p0.g_.u_]), (2, [I J p0.C_]), (3, [I J p0.D_]), (4, [I J p0.f_]), (5, [I J p0.x_]), (6, [I J p0.B_])] z z z z z ce ty3 z z z ⟨z, z, nl z, z, z, nl z, z, z, nl z, z, z, nl z, z, z, nl z, z, z, nl z, z, z, nl z, Y⟩ z z (fun _ => kp) fun c5 => bE H fun u a2 H => oq z (qc z EW (fun a c => gk a a2 (aY (e := ae eI 3) (r := 1) z a c))) tt2 <| oPP z <| bE H fun g h H => aL [(28, B g), (1, O (U ⟨d, 0, N⟩))] 5 ?_ (fun key => OW.sub (R := [(1, O (U ⟨d, 0, N⟩)), (23, B (!u))]) ?_ (sb z))
 ·refine oP z <| bE H fun i j H => aL [(34, B i), (1, O (U ⟨d, 0, N⟩))] 5 ?_ (fun key => OW.sub (R := [(1, O (U ⟨d, 0, N⟩)), (29, B g)]) ?_ (sb z))
  ·refine oP z <| bE H fun a3 k H => aL [(41, B a3), (1, O (U ⟨d, 0, N⟩))] 6 ?_ (fun key => OW.sub (R := [(1, O (U ⟨d, 0, N⟩)), (35, B i)]) ?_ (sb z))
   ·refine nQ <| cI H z (fun H => ?_) (fun H => ?_)
    ·exact sR <| oP z <| nT <| af <| xr 2 z (by cases H; exact q1)
    ·refine aj <| ao <| ai <| sR <| oP z <| nQ <| an <| CW.at (dn (fun (f : Int) => St w [] [b d 121 [B p0.y_, I J p0.g_.q_, I J p0.g_.u_, S P p0.r_.length Q, I J p0.C_, S T p0.i_.k_.length V, S X p0.i_.h_.length Z, I J p0.D_, S a0 p0.d_.length a1, I J p0.f_, I J p0.x_, I J p0.B_]]) (fun f => [(1, O (U ⟨d, 0, N⟩)), (3, I J f)]) (fun kk => fun f => fg p0 kk f = U r) (fun _ H => ?_) (fun k1 v f H => ?_) aK (0) (H)) (ss [0] z z) (sb z)
     ·unfold fg at H
      exact absurd H (by simp)
     ·unfold fg at H
      refine ai <| sR <| aa [.p, .fa 121 4 5 eY, .fa 119 1 1 fm] z <| o1 z (r1 6 0 z fw z) <| aa [.lenS 33 69 eK, .p] z <| nQ <| cI H z (fun H => ?_) (fun H => ?_)
      ·refine aj <| ao <| ai <| an <| sR <| aa [.fa 121 4 5 eY, .fa 119 1 1 fm] z <| o1 z (r1 6 0 z fw z) <| oP z <| bE H fun c6 a4 H => bQ z z z z z eK bW z t a4 fun c7 c8 l x => ?_
       obtain ⟨c9, d0, rfl⟩ := ah l
       refine o1 z (aF z z bW (bB bor x)) <| bE H fun d1 a5 H => oq z (qc z EW (fun a c => gk a a5 (ab l a c))) tt2 <| oP z <| nQ <| cI H z (fun H => ?_) (fun H => ?_)
       ·exact sR <| oP z <| nT <| ar <| af <| bd <| ar <| af <| xr 2 z (by cases H; exact q1)
       ·exact aj <| cx <| ao <| aJ <| aa [.p, .p, .p] z <| aE <| cz (RW.at (v (J.wrap (f + 1)) (H)) (ss [0] z z) (sb z))
      ·exact bb <| aw <| ay <| ax <| ao <| sR <| oP z <| nT <| xr 2 z (by cases H; exact q1)
   ·clear H
    have H := k
    clear k
    generalize i = a6 at H key ⊢
    cases a6
    ·have H := aQ z H
     refine aa [.fa 121 4 5 eY, .fa 119 0 0 gS] z <| o1 z (r1 5 0 z bW z) <| bE H fun d2 a7 H => oq z (qc z EW (fun a c => gk a a7 (ab s a c))) tt2 <| oP z <| oP z <| ?_
     obtain rfl := ak H
     exact OW.sub key (sb z)
    ·have H := aR z H
     refine aa [.p, .p, .p, .p, .p, .p] z ?_
     obtain rfl := ak H
     exact OW.sub key (sb z)
  ·clear H
   have H := j
   clear j
   generalize g = a8 at H key ⊢
   cases a8
   ·have H := aQ z H
    refine aa [.fa 121 6 8 mX] z <| o1 z (r1 8 0 z bW z) <| bE H fun d3 a9 H => oq z (qc z EW (fun a c => gk a a9 (ab q a c))) tt2 <| oP z <| oP z <| ?_
    obtain rfl := ak H
    exact OW.sub key (sb z)
   ·have H := aR z H
    refine aa [.p, .p, .p, .p, .p] z ?_
    obtain rfl := ak H
    exact OW.sub key (sb z)
 ·clear H
  have H := h
  clear h
  generalize (!u) = b0 at H key ⊢
  cases b0
  ·have H := aQ z H
   refine aa [.fa 121 2 3 gf] z <| o1 z (r1 3 0 z bW z) <| bE H fun d4 b1 H => oq z (qc z EW (fun a c => gk a b1 (ab o a c))) tt2 <| oP z <| oP z <| ?_
   obtain rfl := ak H
   exact OW.sub key (sb z)
  ·have H := aR z H
   refine aa [.p, .p, .p, .p, .p] z ?_
   obtain rfl := ak H
   exact OW.sub key (sb z)
theorem kF (w : World) {l : List Nat} {p0 : List Int} {a_0 : Option Addr} {n_0 c_0 : Nat} {r : List Int} (H : gz p0 = U r) (HS : St w l [] w) (s : (ae eI 3).rd w l p0 [S a_0 n_0 c_0]) :
    Calls Tryz.prog 23 #[S a_0 n_0 c_0] w (fun en w' => ∃ v, en = .returned v ∧ ∃ (C : Option Addr), ∃ (D : Nat), ∃ (c0 : Nat), ∃ (F0 : List Nat), v = S C D c0 ∧ St w l [W (ae e8 5) F0 r [S C D c0]] w') := by
 obtain rfl := eb s
 unfold gz at H
 refine aq Tryz.func23 z Tryz.ntmps23 z (HS) <| sR <| oP z <| nQ <| ai <| sR <| oP z <| bE H fun a4 E H => oq z (qc z EW (fun h a => gk h E (ab s h a))) tt2 <| oP z <| nQ <| cI H z (fun H => ?_) (fun H => ?_)
 ·exact sR <| jw (e := e8) z z z z eH ty5 (fun _ => kp) fun m => oP z <| nT <| af <| ca (rs := [.tmp 2]) (vs := [S (U ⟨m, 0, N⟩) 0 0]) z ⟨z, Y⟩ (fun w' hw' => by
   obtain rfl := ak H
   exact ⟨_, z, (U ⟨m, 0, N⟩), 0, 0, [m], z, hw'.sel [0] z z⟩)
 ·refine aj <| ao <| sR <| aa [.p, .lenS 69 3 ce] z <| bE H fun F G H => aC z tJ z z z z (fun h a => cD h G (a.carve [] z z)) fun a5 h w2 a u => ?_
  obtain ⟨L, a6, M, P, rfl, o⟩ := u
  obtain rfl := aI (i := 0) o z
  refine ⟨St w l [_], a.comp [] z z o, fun _ _ => Y, ?_⟩
  refine oP z <| nQ <| ai <| sR <| oP z <| nQ <| an <| CW.at (oL (fun (c : List Int) (d : Option Addr) (f : Nat) (k : List Nat) (g : Int) => St w l [W (ae e8 5) k c [S d c.length f]]) (fun c d f k g => [(0, S a_0 p0.length c_0), (3, S d c.length f), (4, I J g)]) (fun kk => fun c d f k g => ia p0 kk c g = U r) (fun _ _ _ _ _ H => ?_) (fun k1 x c d f k g H => ?_) aK (F) (L) (M) (P) (0) (H)) (ss [0] z z) (sb z)
  ·unfold ia at H
   exact absurd H (by simp)
  ·unfold ia at H
   refine ai <| sR <| aa [.p, .p, .lenS 69 3 ce, .p] z <| nQ <| cI H z (fun H => ?_) (fun H => ?_)
   ·refine aj <| ao <| ai <| an <| aJ <| aa [.p, .p, .p] z <| bE H fun a7 t H => bO (e := eI) (xs := p0) (j := g) z z z z z ce ty3 z (ab s) t (by rw [Nat.mul_one]) <| o1 z (aF z z ty3 (cq (ab s) t)) <| bE H fun Q R H => aC z tJ z z z z (fun h a => cD h R (a.carve [] z z)) fun a8 h w2 a A => ?_
    obtain ⟨a9, b0, b1, b2, rfl, q⟩ := A
    obtain rfl := aI (i := 0) q z
    refine ⟨St w l [_, _], a.comp [] z z q, fun _ _ => Y, ?_⟩
    exact bE H fun T V H => cV (r := 0) (ys := Q) z z z z z z eH ty5 z z z (aY (e := ae e8 5) (r := 1) z) V (fun _ _ _ => kp) fun X Z a1 => oP z <| aE <| cx <| ao <| aJ <| aa [.p, .p, .p] z <| aE <| cz (RW.at (x (T) (X) (Z) (a1) (J.wrap (g + 1)) (H)) (ss [0] z z) (sb z))
   ·exact bb <| aw <| ay <| ax <| ao <| sR <| oPP z <| nT <| ca (rs := [.tmp 2]) (vs := [S d c.length f]) z ⟨z, Y⟩ (fun w' hw' => by
     obtain rfl := ak H
     exact ⟨_, z, d, c.length, f, k, z, hw'.sel [0] z z⟩)
theorem qu (w : World) {j : List Nat} {p0 : List (List Int)} {a_0 : Option Addr} {n_0 c_0 : Nat} {r : List Int} (H : gw p0 = U r) (HS : St w j [] w) (x : (ae (ae eI 3) 69).rd w j p0 [S a_0 n_0 c_0]) :
    Calls Tryz.prog 57 #[S a_0 n_0 c_0] w (fun en w' => ∃ v, en = .returned v ∧ ∃ (A : Option Addr), ∃ (C : Nat), ∃ (c0 : Nat), ∃ (F0 : List Nat), v = S A C c0 ∧ St w j [W (ae e8 5) F0 r [S A C c0]] w') := by
 obtain rfl := eb x
 unfold gw at H
 refine aq Tryz.func57 z Tryz.ntmps57 z (HS) <| sR <| oP z <| nR <| aa [.p, .lenS 33 69 eK] z <| bE H fun D E H => aC z tJ z z z z (fun k c => cD k E (c.carve [] z z)) fun a3 k w2 c q => ?_
 obtain ⟨F, a4, G, L, rfl, l⟩ := q
 obtain rfl := aI (i := 0) l z
 refine ⟨St w j [_], c.comp [] z z l, fun _ _ => Y, ?_⟩
 refine oP z <| nQ <| ai <| sR <| oP z <| nQ <| an <| CW.at (oL (fun (a : List Int) (d : Option Addr) (f : Nat) (h : List Nat) (g : Int) => St w j [W (ae e8 5) h a [S d a.length f]]) (fun a d f h g => [(0, S a_0 p0.length c_0), (3, S d a.length f), (4, I J g)]) (fun kk => fun a d f h g => gj p0 kk a g = U r) (fun _ _ _ _ _ H => ?_) (fun k1 s a d f h g H => ?_) aK (D) (F) (G) (L) (0) (H)) (ss [0] z z) (sb z)
 ·unfold gj at H
  exact absurd H (by simp)
 ·unfold gj at H
  refine ai <| sR <| aa [.p, .p, .lenS 33 69 eK, .p] z <| nQ <| cI H z (fun H => ?_) (fun H => ?_)
  ·refine aj <| ao <| ai <| an <| aJ <| aa [.p, .p, .p] z <| bE H fun a5 M H => bQ z z z z z eK bW z x M fun a6 a7 m t => ?_
   obtain ⟨a8, a9, rfl⟩ := ah m
   refine o1 z (aF z z bW (bB bor t)) <| bE H fun P Q H => aC z Ju z z z z (fun k c => kF k Q (c.carve [] z z) (ab m k c)) fun b0 k w2 c u => ?_
   obtain ⟨b1, b2, b3, b4, rfl, o⟩ := u
   obtain rfl := aI (i := 0) o z
   refine ⟨St w j [_, _], c.comp [] z z o, fun _ _ => Y, ?_⟩
   exact bE H fun R T H => cV (r := 0) (ys := P) z z z z z z eH ty5 z z z (aY (e := ae e8 5) (r := 1) z) T (fun _ _ _ => kp) fun V X Z => oP z <| aE <| cx <| ao <| aJ <| aa [.p, .p, .p] z <| aE <| cz (RW.at (s (R) (V) (X) (Z) (J.wrap (g + 1)) (H)) (ss [0] z z) (sb z))
  ·exact bb <| aw <| ay <| ax <| ao <| sR <| oPP z <| nT <| ca (rs := [.tmp 2]) (vs := [S d a.length f]) z ⟨z, Y⟩ (fun w' hw' => by
    obtain rfl := ak H
    exact ⟨_, z, d, a.length, f, h, z, hw'.sel [0] z z⟩)
theorem vN (w : World) {d : List Nat} {p0 : au} {T : List Value} {r : List Int} (H : kI p0 = U r) (HS : St w d [] w) (g0 : (bc).rd w d p0 T) :
    Calls Tryz.prog 56 #[.agg T.toArray] w (fun en w' => ∃ v, en = .returned v ∧ ∃ (a0 : Option Addr), ∃ (n0 : Nat), ∃ (c0 : Nat), ∃ (F0 : List Nat), v = S a0 n0 c0 ∧ St w d [W (ae e8 5) F0 r [S a0 n0 c0]] w') := by
 obtain ⟨m4, m5, m6, m7, m8, m9, n1, n2, n3, n4, rfl, d2, d3, V, d4, d5, d6, X, d7, d8, d9⟩ := bA g0
 obtain rfl := d2
 obtain rfl := d3
 obtain ⟨n5, n6, rfl⟩ := ah V
 obtain rfl := d4
 obtain ⟨n7, n8, rfl, Z, a1⟩ := aX d5
 obtain ⟨n9, o0, rfl⟩ := ah Z
 obtain ⟨o2, o3, rfl⟩ := ah a1
 obtain rfl := d6
 obtain ⟨o4, o5, rfl⟩ := ah X
 obtain rfl := d7
 obtain rfl := d8
 obtain rfl := d9
 unfold kI at H
 refine aq Tryz.func56 z Tryz.ntmps56 z (HS) <| sR <| ob _ z fun o6 => oP z <| nR <| aa [.fa 121 0 0 kz] z <| o1 z (r1 0 0 z ty4 z) <| bE H fun o7 e0 H => oq z (qc z Mx (fun c a => rV c e0)) tt2 <| bE H fun o8 e1 H => aC z tJ z z z z (fun c a => cD c e1 (a.carve [] z z)) fun o9 c f a a2 => ?_
 obtain ⟨p1, p2, p3, p4, rfl, q⟩ := a2
 obtain rfl := aI (i := 0) q z
 refine ⟨St w d [_, _], a.comp [] z z q, fun _ _ => Y, ?_⟩
 refine oP z <| nR <| aa [.p, .fa 121 1 1 iW, .fa 117 0 0 ky] z <| o1 z (r1 1 0 z ty3 z) <| bE H fun e2 e3 H => aC z tJ z z z z (fun c a => cD c e3 (a.carve [] z z)) fun p5 c f a a3 => ?_
 obtain ⟨p6, p7, p8, p9, rfl, s⟩ := a3
 obtain rfl := aI (i := 0) s z
 refine ⟨St w d [_, _, _], a.comp [] z z s, fun _ _ => Y, ?_⟩
 refine bE H fun q0 e4 H => cV (r := 1) (ys := e2) z z z z z z eH ty5 z z z (aY (e := ae e8 5) (r := 2) z) e4 (fun _ _ _ => kp) fun q2 q3 q4 => oP z <| nR <| aa [.p, .fa 121 1 1 iW, .fa 117 1 1 mb] z <| o1 z (r1 2 0 z ty3 z) <| bE H fun e5 e6 H => aC z tJ z z z z (fun c a => cD c e6 (a.carve [] z z)) fun q5 c f a a4 => ?_
 obtain ⟨q6, q7, q8, q9, rfl, t⟩ := a4
 obtain rfl := aI (i := 0) t z
 refine ⟨St w d [_, _, _, _], a.comp [] z z t, fun _ _ => Y, ?_⟩
 refine bE H fun r0 e7 H => cV (r := 1) (ys := e5) z z z z z z eH ty5 z z z (aY (e := ae e8 5) (r := 3) z) e7 (fun _ _ _ => kp) fun r2 r3 r4 => oP z <| nR <| aa [.p, .fa 121 2 3 gf] z <| o1 z (r1 3 0 z bW z) <| bE H fun e9 f0 H => aC z Ju z z z z (fun c a => kF c f0 (a.carve [] z z) (ab V c a)) fun r5 c f a a5 => ?_
 obtain ⟨r6, r7, r8, r9, rfl, u⟩ := a5
 obtain rfl := aI (i := 0) u z
 refine ⟨St w d [_, _, _, _, _], a.comp [] z z u, fun _ _ => Y, ?_⟩
 refine bE H fun s0 f1 H => cV (r := 1) (ys := e9) z z z z z z eH ty5 z z z (aY (e := ae e8 5) (r := 4) z) f1 (fun _ _ _ => kp) fun s1 s2 s3 => oP z <| nR <| aa [.p, .fa 121 3 4 mc] z <| o1 z (r1 4 0 z ty3 z) <| bE H fun f2 f3 H => aC z tJ z z z z (fun c a => cD c f3 (a.carve [] z z)) fun s4 c f a E => ?_
 obtain ⟨f6, f7, f8, f9, rfl, x⟩ := E
 obtain rfl := aI (i := 0) x z
 refine ⟨St w d [_, _, _, _, _, _], a.comp [] z z x, fun _ _ => Y, ?_⟩
 refine bE H fun g1 a6 H => cV (r := 1) (ys := f2) z z z z z z eH ty5 z z z (aY (e := ae e8 5) (r := 5) z) a6 (fun _ _ _ => kp) fun g2 g3 g4 => oP z <| nR <| aa [.p, .fa 121 4 5 eY, .fa 119 0 0 gS] z <| o1 z (r1 5 0 z bW z) <| bE H fun a7 a8 H => aC z Ju z z z z (fun c a => kF c a8 (a.carve [] z z) (ab Z c a)) fun g5 c f a F => ?_
 obtain ⟨g6, g7, g8, g9, rfl, g⟩ := F
 obtain rfl := aI (i := 0) g z
 refine ⟨St w d [_, _, _, _, _, _, _], a.comp [] z z g, fun _ _ => Y, ?_⟩
 refine bE H fun h0 a9 H => cV (r := 1) (ys := a7) z z z z z z eH ty5 z z z (aY (e := ae e8 5) (r := 6) z) a9 (fun _ _ _ => kp) fun h1 h2 h3 => oP z <| nR <| aa [.p, .fa 121 4 5 eY, .fa 119 1 1 fm] z <| o1 z (r1 6 0 z fw z) <| bE H fun b0 b1 H => aC z OL z z z z (fun c a => qu c b1 (a.carve [] z z) (ab a1 c a)) fun h4 c f a G => ?_
 obtain ⟨h5, h6, h7, h8, rfl, h⟩ := G
 obtain rfl := aI (i := 0) h z
 refine ⟨St w d [_, _, _, _, _, _, _, _], a.comp [] z z h, fun _ _ => Y, ?_⟩
 refine bE H fun h9 b2 H => cV (r := 1) (ys := b0) z z z z z z eH ty5 z z z (aY (e := ae e8 5) (r := 7) z) b2 (fun _ _ _ => kp) fun i0 i1 i2 => oP z <| nR <| aa [.p, .fa 121 5 7 ln] z <| o1 z (r1 7 0 z ty3 z) <| bE H fun b3 b4 H => aC z tJ z z z z (fun c a => cD c b4 (a.carve [] z z)) fun i3 c f a L => ?_
 obtain ⟨i4, i5, i6, i7, rfl, j⟩ := L
 obtain rfl := aI (i := 0) j z
 refine ⟨St w d [_, _, _, _, _, _, _, _, _], a.comp [] z z j, fun _ _ => Y, ?_⟩
 refine bE H fun i8 b5 H => cV (r := 1) (ys := b3) z z z z z z eH ty5 z z z (aY (e := ae e8 5) (r := 8) z) b5 (fun _ _ _ => kp) fun i9 j0 j1 => oP z <| nR <| aa [.p, .fa 121 6 8 mX] z <| o1 z (r1 8 0 z bW z) <| bE H fun b6 b7 H => aC z Ju z z z z (fun c a => kF c b7 (a.carve [] z z) (ab X c a)) fun j2 c f a M => ?_
 obtain ⟨j3, j4, j5, j6, rfl, k⟩ := M
 obtain rfl := aI (i := 0) k z
 refine ⟨St w d [_, _, _, _, _, _, _, _, _, _], a.comp [] z z k, fun _ _ => Y, ?_⟩
 refine bE H fun j7 b8 H => cV (r := 1) (ys := b6) z z z z z z eH ty5 z z z (aY (e := ae e8 5) (r := 9) z) b8 (fun _ _ _ => kp) fun j8 j9 k0 => oP z <| nR <| aa [.p, .fa 121 7 9 gB] z <| o1 z (r1 9 0 z ty3 z) <| bE H fun b9 c1 H => aC z tJ z z z z (fun c a => cD c c1 (a.carve [] z z)) fun k1 c f a P => ?_
 obtain ⟨k2, k3, k4, k5, rfl, l⟩ := P
 obtain rfl := aI (i := 0) l z
 refine ⟨St w d [_, _, _, _, _, _, _, _, _, _, _], a.comp [] z z l, fun _ _ => Y, ?_⟩
 refine bE H fun k6 c2 H => cV (r := 1) (ys := b9) z z z z z z eH ty5 z z z (aY (e := ae e8 5) (r := 10) z) c2 (fun _ _ _ => kp) fun k7 k8 k9 => oP z <| nR <| aa [.p, .fa 121 8 10 jF] z <| o1 z (r1 10 0 z ty3 z) <| bE H fun c3 c4 H => aC z tJ z z z z (fun c a => cD c c4 (a.carve [] z z)) fun l0 c f a Q => ?_
 obtain ⟨l1, l2, l3, l4, rfl, m⟩ := Q
 obtain rfl := aI (i := 0) m z
 refine ⟨St w d [_, _, _, _, _, _, _, _, _, _, _, _], a.comp [] z z m, fun _ _ => Y, ?_⟩
 refine bE H fun l5 c5 H => cV (r := 1) (ys := c3) z z z z z z eH ty5 z z z (aY (e := ae e8 5) (r := 11) z) c5 (fun _ _ _ => kp) fun l6 l7 l8 => oP z <| nR <| aa [.p, .fa 121 9 11 jy] z <| o1 z (r1 11 0 z ty3 z) <| bE H fun c6 c7 H => aC z tJ z z z z (fun c a => cD c c7 (a.carve [] z z)) fun l9 c f a R => ?_
 obtain ⟨m0, m1, m2, m3, rfl, o⟩ := R
 obtain rfl := aI (i := 0) o z
 refine ⟨St w d [_, _, _, _, _, _, _, _, _, _, _, _, _], a.comp [] z z o, fun _ _ => Y, ?_⟩
 exact bE H fun A c8 H => cV (r := 1) (ys := c6) z z z z z z eH ty5 z z z (aY (e := ae e8 5) (r := 12) z) c8 (fun _ _ _ => kp) fun C D c9 => oP z <| nT <| ca (rs := [.tmp 2]) (vs := [S C A.length D]) z ⟨z, Y⟩ (fun w' hw' => by
  obtain rfl := ak H
  exact ⟨_, z, C, A.length, D, c9, z, hw'.sel [1] z z⟩)
theorem tE (w : World) {m : List Nat} {p0 : ap} {Z : List Value} {r : List Int} (H : ku p0 = U r) (HS : St w m [] w) (g0 : (bp).rd w m p0 Z) :
    Calls Tryz.prog 21 #[.agg Z.toArray] w (fun en w' => ∃ v, en = .returned v ∧ ∃ (a0 : Option Addr), ∃ (n0 : Nat), ∃ (c0 : Nat), ∃ (F0 : List Nat), v = S a0 n0 c0 ∧ St w m [W (ae e8 5) F0 r [S a0 n0 c0]] w') := by
 obtain ⟨k3, k4, rfl, s, f3⟩ := aW g0
 obtain ⟨a1, a2, rfl⟩ := ah s
 obtain rfl := f3
 unfold ku at H
 refine aq Tryz.func21 z Tryz.ntmps21 z (HS) <| sR <| ob _ z fun t => oP z <| nQ <| ai <| sR <| aa [.fa 73 1 1 nf] z <| o1 z (r1 1 0 z ty3 z) <| dm (val := I J) (h1 := fun _ => z) [p0.A_] [(0, [I J p0.A_])] z z z z z ce ty3 z z z ⟨z, z, nl z, Y⟩ z z (fun _ => kp) fun a3 => bE H fun k5 f4 H => oq z (qc z EW (fun f a => gk f f4 (aY (e := ae eI 3) (r := 1) z f a))) tt2 <| oP z <| nQ <| cI H z (fun H => ?_) (fun H => ?_)
 ·exact sR <| jw (e := e8) z z z z eH ty5 (fun _ => kp) fun u => oP z <| nT <| af <| ca (rs := [.tmp 2]) (vs := [S (U ⟨u, 0, N⟩) 0 0]) z ⟨z, Y⟩ (fun w' hw' => by
   obtain rfl := ak H
   exact ⟨_, z, (U ⟨u, 0, N⟩), 0, 0, [u], z, hw'.sel [2] z z⟩)
 ·refine aj <| ao <| ai <| tj 6 [(0, y), (1, y), (3, y), (4, y), (5, y), (2, n)] (St w m [b t 73 [S a1 p0.b_.length a2, I J p0.A_], W (ae eI 3) [a3] ([p0.A_] : List Int) [S (U ⟨a3, 0, N⟩) (([p0.A_] : List Int).length) 1]]) eR (by kernel_rfl) (iS kw) (tk 2 z) <| aa [.fa 73 1 1 nf] z <| nr z (bU z) (r1 1 0 z ty3 z) <| aa [.fa 73 0 0 eg] z <| nr z (bU z) (r1 0 0 z kN z) <| aa [.lenS 71 121 fT] z <| bE H fun k6 f5 H => aC z tJ z z z z (fun f a => cD f f5 (a.carve [] z z)) fun k7 f w2 a a4 => ?_
  obtain ⟨k8, k9, l0, l1, rfl, x⟩ := a4
  obtain rfl := aI (i := 0) x z
  refine ⟨St w m [_, _, _], a.comp [] z z x, (tk 2 z), ?_⟩
  refine sV <| Fz <| bE H fun f7 f8 H => aC z tJ z z z z (fun f a => cD f f8 (a.carve [] z z)) fun l2 f w2 a a5 => ?_
  obtain ⟨l3, l4, l5, l6, rfl, A⟩ := a5
  obtain rfl := aI (i := 0) A z
  refine ⟨St w m [_, _, _, _], a.comp [] z z A, fun _ _ => Y, ?_⟩
  refine bE H fun f9 g1 H => cV (r := 2) (ys := f7) z z z z z z eH ty5 z z z (aY (e := ae e8 5) (r := 3) z) g1 (fun _ _ _ => kp) fun g2 g3 g4 => oP z <| nQ <| ai <| sR <| oP z <| nQ <| an <| CW.at (oL (fun (g : List Int) (h : Option Addr) (j : Nat) (l : List Nat) (k : Int) => St w m [b t 73 [S a1 p0.b_.length a2, I J p0.A_], W (ae e8 5) l g [S h g.length j]]) (fun g h j l k => [(1, O (U ⟨t, 0, N⟩)), (3, S h g.length j), (4, I J k)]) (fun kk => fun g h j l k => jf p0 kk g k = U r) (fun _ _ _ _ _ H => ?_) (fun k1 a6 g h j l k H => ?_) aK (f9) (g2) (g3) (g4) (0) (H)) (ss [0, 2] z z) (sb z)
  ·unfold jf at H
   exact absurd H (by simp)
  ·unfold jf at H
   refine ai <| sR <| aa [.p, .fa 73 0 0 eg] z <| o1 z (r1 0 0 z kN z) <| aa [.lenS 71 121 fT, .p] z <| nQ <| cI H z (fun H => ?_) (fun H => ?_)
   ·refine aj <| ao <| ai <| an <| ai <| sR <| aa [.fa 73 0 0 eg] z <| o1 z (r1 0 0 z kN z) <| oP z <| bE H fun c a7 H => bQ z z z z z fT co z s a7 fun g7 g8 Q R => ?_
    obtain ⟨g9, h0, h2, h3, h4, h5, h6, h7, h8, h9, rfl, a8, a9, C, b0, b1, b2, D, b3, b4, b5⟩ := bA Q
    obtain rfl := a8
    obtain rfl := a9
    obtain ⟨b6, b7, rfl⟩ := ah C
    obtain rfl := b0
    obtain ⟨i0, i1, rfl, E, F⟩ := aX b1
    obtain ⟨b8, b9, rfl⟩ := ah E
    obtain ⟨c1, c2, rfl⟩ := ah F
    obtain rfl := b2
    obtain ⟨c3, c4, rfl⟩ := ah D
    obtain rfl := b3
    obtain rfl := b4
    obtain rfl := b5
    refine o1 z (cu (cs := [B c.y_, I J c.g_.q_, I J c.g_.u_, S b6 c.r_.length b7, I J c.C_, S b8 c.i_.k_.length b9, S c1 c.i_.h_.length c2, I J c.D_, S c3 c.d_.length c4, I J c.f_, I J c.x_, I J c.B_]) z z co (bB bor R) z) <| bE H fun i2 c5 H => oq z (qc z QG (fun f a => va f c5 (ga z z (ab C f a) z (ct (ab E f a) (ab F f a)) z (ab D f a) z z z))) tt2 <| oP z <| nQ <| cI H z (fun H => ?_) (fun H => ?_)
    ·exact sR <| jw (e := e8) z z z z eH ty5 (fun _ => kp) fun o => oP z <| nT <| af <| ar <| af <| bd <| ar <| af <| ca (rs := [.tmp 2]) (vs := [S (U ⟨o, 0, N⟩) 0 0]) z ⟨z, Y⟩ (fun w' hw' => by
      obtain rfl := ak H
      exact ⟨_, z, (U ⟨o, 0, N⟩), 0, 0, [o], z, hw'.sel [2] z z⟩)
    ·refine aj <| ao <| aJ <| aa [.p, .fa 73 0 0 eg] z <| o1 z (r1 0 0 z kN z) <| oP z <| bE H fun d c6 H => bQ z z z z z fT co z s c6 fun i3 i4 T V => ?_
     obtain ⟨i5, i6, i7, i8, i9, j0, j1, j2, j3, j4, rfl, c7, c8, G, c9, d0, d1, L, d2, d3, d4⟩ := bA T
     obtain rfl := c7
     obtain rfl := c8
     obtain ⟨d5, d6, rfl⟩ := ah G
     obtain rfl := c9
     obtain ⟨j5, j6, rfl, M, P⟩ := aX d0
     obtain ⟨d7, d8, rfl⟩ := ah M
     obtain ⟨d9, e0, rfl⟩ := ah P
     obtain rfl := d1
     obtain ⟨e1, e2, rfl⟩ := ah L
     obtain rfl := d2
     obtain rfl := d3
     obtain rfl := d4
     refine o1 z (cu (cs := [B d.y_, I J d.g_.q_, I J d.g_.u_, S d5 d.r_.length d6, I J d.C_, S d7 d.i_.k_.length d8, S d9 d.i_.h_.length e0, I J d.D_, S e1 d.d_.length e2, I J d.f_, I J d.x_, I J d.B_]) z z co (bB bor V) z) <| bE H fun e3 e4 H => aC z QF z z z z (fun f a => vN f e4 (a.carve [] z z) (ga z z (ab G f a) z (ct (ab M f a) (ab P f a)) z (ab L f a) z z z)) fun j7 f w2 a X => ?_
     obtain ⟨j8, j9, k0, k2, rfl, q⟩ := X
     obtain rfl := aI (i := 0) q z
     refine ⟨St w m [_, _, _], a.comp [] z z q, fun _ _ => Y, ?_⟩
     exact bE H fun e5 e6 H => cV (r := 1) (ys := e3) z z z z z z eH ty5 z z z (aY (e := ae e8 5) (r := 2) z) e6 (fun _ _ _ => kp) fun e7 e9 f0 => oP z <| aE <| cx <| ao <| aJ <| aa [.p, .p, .p] z <| aE <| cz (RW.at (a6 (e5) (e7) (e9) (f0) (J.wrap (k + 1)) (H)) (ss [0, 1] z z) (sb z))
   ·exact bb <| aw <| ay <| ax <| ao <| sR <| oPP z <| nT <| ca (rs := [.tmp 2]) (vs := [S h g.length j]) z ⟨z, Y⟩ (fun w' hw' => by
     obtain rfl := ak H
     exact ⟨_, z, h, g.length, j, l, z, hw'.sel [1] z z⟩)
theorem rD (w : World) {f : List Nat} {p0 : aA} {l : List Value} {r : List Int} (H : iO p0 = U r) (HS : St w f [] w) (P : (bI).rd w f p0 l) :
    Calls Tryz.prog 22 #[.agg l.toArray] w (fun en w' => ∃ v, en = .returned v ∧ ∃ (A : Option Addr), ∃ (C : Nat), ∃ (c0 : Nat), ∃ (Q : List Nat), v = S A C c0 ∧ St w f [W (ae e8 5) Q r [S A C c0]] w') := by
 obtain ⟨R, rfl, g⟩ := aT P
 obtain ⟨D, E, rfl⟩ := ah g
 unfold iO at H
 refine aq Tryz.func22 z Tryz.ntmps22 z (HS) <| sR <| ob _ z fun m => oP z <| nQ <| ai <| sR <| oP z <| nQ <| an <| CW.at (dn (fun (a : Int) => St w f [b m 75 [S D p0.o_.length E]]) (fun a => [(1, O (U ⟨m, 0, N⟩)), (3, I J a)]) (fun kk => fun a => gY p0 kk a = U r) (fun _ H => ?_) (fun k1 t a H => ?_) aK (0) (H)) (ss [0] z z) (sb z)
 ·unfold gY at H
  exact absurd H (by simp)
 ·unfold gY at H
  refine ai <| sR <| aa [.p, .fa 75 0 0 lu] z <| o1 z (r1 0 0 z fw z) <| aa [.lenS 33 69 eK, .p] z <| nQ <| cI H z (fun H => ?_) (fun H => ?_)
  ·refine aj <| ao <| ai <| an <| sR <| aa [.fa 75 0 0 lu] z <| o1 z (r1 0 0 z fw z) <| oP z <| bE H fun T F H => bQ z z z z z eK bW z g F fun V X h u => ?_
   obtain ⟨Z, a1, rfl⟩ := ah h
   refine o1 z (aF z z bW (bB bor u)) <| bE H fun a2 G H => oq z (qc z EW (fun d c => gk d G (ab h d c))) tt2 <| oP z <| nQ <| cI H z (fun H => ?_) (fun H => ?_)
   ·exact sR <| jw (e := e8) z z z z eH ty5 (fun _ => kp) fun j => oP z <| nT <| ar <| af <| bd <| ar <| af <| ca (rs := [.tmp 2]) (vs := [S (U ⟨j, 0, N⟩) 0 0]) z ⟨z, Y⟩ (fun w' hw' => by
     obtain rfl := ak H
     exact ⟨_, z, (U ⟨j, 0, N⟩), 0, 0, [j], z, hw'.sel [1] z z⟩)
   ·exact aj <| cx <| ao <| aJ <| aa [.p, .p, .p] z <| aE <| cz (RW.at (t (J.wrap (a + 1)) (H)) (ss [0] z z) (sb z))
  ·refine bb <| aw <| ay <| ax <| ao <| sR <| aa [.fa 75 0 0 lu] z <| o1 z (r1 0 0 z fw z) <| bE H fun o L H => aC z OL z z z z (fun d c => qu d L (c.carve [] z z) (ab g d c)) fun a3 d w2 c x => ?_
   obtain ⟨q, a4, s, M, rfl, k⟩ := x
   obtain rfl := aI (i := 0) k z
   refine ⟨St w f [_, _], c.comp [] z z k, fun _ _ => Y, ?_⟩
   exact oP z <| nT <| ca (rs := [.tmp 2]) (vs := [S q o.length s]) z ⟨z, Y⟩ (fun w' hw' => by
    obtain rfl := ak H
    exact ⟨_, z, q, o.length, s, M, z, hw'.sel [1] z z⟩)
theorem DE (w : World) {p0 : List Int} {a_0 : Option Addr} {n_0 c_0 : Nat} {r : Int} (H : wa p0 = U r) (i : (ae e8 5).rd w [] p0 [S a_0 n_0 c_0]) :
    Calls Tryz.prog 58 #[S a_0 n_0 c_0] w (fun en w' => en = .returned (I J r) ∧ Ext [] w w') := by
 obtain rfl := eb i
 unfold wa at H
 refine aq Tryz.func58 z Tryz.ntmps58 z (St.init w []) <| sR <| oP z <| nR <| oP z <| nQ <| ai <| sR <| oP z <| nQ <| an <| CW.at (fx (fun (f : Int) (a : Int) => St w [] []) (fun f a => [(0, S a_0 p0.length c_0), (3, I J f), (4, I J a)]) (fun kk => fun f a => iB p0 kk f a = U r) (fun _ _ H => ?_) (fun m k f a H => ?_) aK (4294967295) (0) (H)) (ss [] z z) (sb z)
 ·unfold iB at H
  exact absurd H (by simp)
 ·unfold iB at H
  refine ai <| sR <| aa [.p, .p, .lenS 40 5 eH, .p] z <| nQ <| cI H z (fun H => ?_) (fun H => ?_)
  ·refine aj <| ao <| ai <| an <| sR <| aa [.p, .p, .p] z <| bE H fun l h H => bO (e := e8) (xs := p0) (j := a) z z z z z eH ty5 z (ab i) h (by rw [Nat.mul_one]) <| o1 z (aF z z ty5 (cq (ab i) h)) <| aa [.cv 5 3 J us5 in3, .p, .p] z <| nR <| oP z <| nQ <| an <| CW.at (fx (fun (c : Int) (d : Int) => St w [] []) (fun c d => [(0, S a_0 p0.length c_0), (3, I J c), (4, I J a), (5, I J d)]) (fun kk => fun c d => jD (iB p0 m) a kk c d = U r) (fun _ _ H => ?_) (fun o g c d H => ?_) aK (io .xor J f (J.wrap l)) (0) (H)) (ss [] z z) (sb z)
   ·unfold jD at H
    exact absurd H (by simp)
   ·unfold jD at H
    refine ai <| sR <| oPP z <| nQ <| cI H z (fun H => ?_) (fun H => ?_)
    ·refine aj <| ao <| ai <| an <| sR <| aa [.p, .p, .p, .p] z <| nR <| aa [.p, .p, .p] z <| nR <| oP z <| nQ <| cI H z (fun H => ?_) (fun H => ?_)
     ·exact aJ <| aa [.p, .p, .p] z <| aE <| cx <| ao <| aJ <| aa [.p, .p, .p] z <| aE <| cz (RW.at (g (io .xor J (J.wrap (Int.tdiv c 2)) 3988292384) (J.wrap (d + 1)) (H)) (ss [] z z) (sb z))
     ·exact aj <| cx <| ao <| aJ <| aa [.p, .p, .p] z <| aE <| cz (RW.at (g (J.wrap (Int.tdiv c 2)) (J.wrap (d + 1)) (H)) (ss [] z z) (sb z))
    ·exact bb <| aw <| ay <| ax <| cx <| ao <| aJ <| aa [.p, .p, .p] z <| aE <| cz (RW.at (k (c) (J.wrap (a + 1)) (H)) (ss [] z z) (sb z))
  ·exact bb <| aw <| ay <| ax <| ao <| sR <| aa [.p, .p, .p] z <| nT <| xr 2 z (by cases H; exact q1)
theorem Am (w : World) {d : List Nat} {p0 : List Int} {a_0 : Option Addr} {n_0 c_0 : Nat} {r : List Int} (H : jB p0 = U r) (HS : St w d [] w) (e : (ae e8 5).rd w d p0 [S a_0 n_0 c_0]) :
    Calls Tryz.prog 24 #[S a_0 n_0 c_0] w (fun en w' => ∃ v, en = .returned v ∧ ∃ (f : Option Addr), ∃ (g : Nat), ∃ (c0 : Nat), ∃ (k : List Nat), v = S f g c0 ∧ St w d [W (ae e8 5) k r [S f g c0]] w') := by
 obtain rfl := eb e
 unfold jB at H
 exact aq Tryz.func24 z Tryz.ntmps24 z (HS) <| sR <| oP z <| nR <| oP z <| bE H fun a h H => oq z (qc z PO (fun i j => DE i h (ab e i j))) tt2 <| oP z <| nR <| aa [.p, .p, .cv 3 5 K us3 in5, .p, .p, .p, .cv 3 5 K us3 in5, .p, .p, .p, .cv 3 5 K us3 in5, .p, .p, .cv 3 5 K us3 in5] z <| dm (val := I K) (h1 := fun _ => z) [K.wrap (J.wrap (Int.tdiv a 16777216)), K.wrap (Int.tmod (J.wrap (Int.tdiv a 65536)) 256), K.wrap (Int.tmod (J.wrap (Int.tdiv a 256)) 256), K.wrap (Int.tmod a 256)] [(0, [I K (K.wrap (J.wrap (Int.tdiv a 16777216)))]), (1, [I K (K.wrap (Int.tmod (J.wrap (Int.tdiv a 65536)) 256))]), (2, [I K (K.wrap (Int.tmod (J.wrap (Int.tdiv a 256)) 256))]), (3, [I K (K.wrap (Int.tmod a 256))])] z z z z z eH ty5 z z z ⟨z, z, nl z, z, z, nl z, z, z, nl z, z, z, nl z, Y⟩ z z (fun _ => kp) fun c => oP z <| nT <| ca (rs := [.tmp 2]) (vs := [S (U ⟨c, 0, N⟩) (([K.wrap (J.wrap (Int.tdiv a 16777216)), K.wrap (Int.tmod (J.wrap (Int.tdiv a 65536)) 256), K.wrap (Int.tmod (J.wrap (Int.tdiv a 256)) 256), K.wrap (Int.tmod a 256)] : List Int).length) 4]) z ⟨z, Y⟩ (fun w' hw' => by
  obtain rfl := ak H
  exact ⟨_, z, (U ⟨c, 0, N⟩), (([K.wrap (J.wrap (Int.tdiv a 16777216)), K.wrap (Int.tmod (J.wrap (Int.tdiv a 65536)) 256), K.wrap (Int.tmod (J.wrap (Int.tdiv a 256)) 256), K.wrap (Int.tmod a 256)] : List Int).length), 4, [c], z, hw'.sel [0] z z⟩)
theorem vX (w : World) {f : List Nat} {p0 : aP} {g4 : List Value} {r : List Int} (H : ju p0 = U r) (HS : St w f [] w) (g0 : (jx).rd w f p0 g4) :
    Calls Tryz.prog 5 #[.agg g4.toArray] w (fun en w' => ∃ v, en = .returned v ∧ ∃ (a0 : Option Addr), ∃ (n0 : Nat), ∃ (c0 : Nat), ∃ (F0 : List Nat), v = S a0 n0 c0 ∧ St w f [W (ae e8 5) F0 r [S a0 n0 c0]] w') := by
 obtain ⟨B0, B1, B2, rfl, o4, o5, o6⟩ := jc g0
 obtain ⟨B3, B4, B5, B6, B7, B8, B9, rfl, o7, o8, o9, p1, p2, p3, p4⟩ := cP o4
 obtain ⟨C0, C1, rfl, c3, c4⟩ := aO o7
 obtain ⟨Z, a1, rfl⟩ := ah c3
 obtain ⟨a2, a3, rfl⟩ := ah c4
 obtain rfl := o8
 obtain rfl := o9
 obtain rfl := p1
 obtain rfl := p2
 obtain rfl := p3
 obtain rfl := p4
 obtain ⟨C2, rfl, c5⟩ := er o5
 obtain ⟨a4, a5, rfl⟩ := ah c5
 obtain ⟨C3, C4, rfl, c6, P⟩ := eU o6
 obtain ⟨a6, a7, rfl⟩ := ah c6
 obtain ⟨a8, a9, rfl⟩ := ah P
 unfold ju at H
 refine aq Tryz.func5 z Tryz.ntmps5 z (HS) <| sR <| ob _ z fun x => oP z <| nQ <| ai <| sR <| o1 z (rx 0 0 _ z yH z) <| bE H fun C5 p5 H => oq z (qc z Qi (fun c a => zg c p5 (ij (cl (av (ab c3 c a) (ab c4 c a)) z z z z z z) (dV (ab c5 c a)) (ei (ab c6 c a) (ab P c a))))) tt2 <| oP z <| nQ <| cI H z (fun H => ?_) (fun H => ?_)
 ·exact sR <| jw (e := e8) z z z z eH ty5 (fun _ => kp) fun c7 => oP z <| nT <| af <| ca (rs := [.tmp 2]) (vs := [S (U ⟨c7, 0, N⟩) 0 0]) z ⟨z, Y⟩ (fun w' hw' => by
   obtain rfl := ak H
   exact ⟨_, z, (U ⟨c7, 0, N⟩), 0, 0, [c7], z, hw'.sel [1] z z⟩)
 ·refine aj <| ao <| sR <| dm (val := I K) (h1 := fun _ => z) [83, 80, 78, 1] [(0, [I K 83]), (1, [I K 80]), (2, [I K 78]), (3, [I K 1])] z z z z z eH ty5 z z z ⟨z, z, nl z, z, z, nl z, z, z, nl z, z, z, nl z, Y⟩ z z (fun _ => kp) fun C6 => oP z <| nR <| aa [.p, .fa 55 0 0 mq, .fa 47 0 0 mr] z <| o1 z (rx 0 0 _ z ja z) <| bE H fun C7 p6 H => oq z (qc z Qz (fun c a => vL c p6 (av (ab c3 c a) (ab c4 c a)))) tt2 <| bE H fun p7 p8 H => aC z Ph z z z z (fun c a => yS c p8 (a.carve [] z z)) fun C8 c C a g5 => ?_
  obtain ⟨C9, D0, D1, D2, rfl, c8⟩ := g5
  obtain rfl := aI (i := 0) c8 z
  refine ⟨St w f [_, _, _], a.comp [] z z c8, fun _ _ => Y, ?_⟩
  refine bE H fun p9 q0 H => cV (r := 1) (ys := p7) z z z z z z eH ty5 z z z (aY (e := ae e8 5) (r := 2) z) q0 (fun _ _ _ => kp) fun q2 q3 q4 => oP z <| nR <| aa [.fa 55 0 0 mq, .fa 47 1 2 ru] z <| o1 z (rx 2 0 _ z ry z) <| bL z z z z ry (fun _ => kp) fun D3 => sC 0 [I J p0.a_.c_.L_, I J p0.a_.c_.K_, I J p0.a_.c_.M_, I J p0.a_.c_.f_, I J p0.a_.c_.b_, I J p0.a_.c_.G_, B p0.a_.c_.P_] [_, _, _, _, _, _, _] 3 z ry z <| nQ <| ai <| ME 30 eR (by kernel_rfl) <| aa [.fa 45 0 0 vt] z <| o1 z (r1 0 3 z ty3 z) <| aa [.fa 45 1 1 vE] z <| o1 z (r1 1 3 z ty3 z) <| aa [.fa 45 2 2 vw] z <| o1 z (r1 2 3 z ty3 z) <| aa [.fa 45 3 3 tu] z <| o1 z (r1 3 3 z ty3 z) <| aa [.fa 45 4 4 tx] z <| o1 z (r1 4 3 z ty3 z) <| aa [.fa 45 5 5 tl] z <| o1 z (r1 5 3 z ty3 z) <| aa [.fa 45 6 6 Aw] z <| o1 z (r1 6 3 z ty4 z) <| bE H fun D q5 H => oq z (qc z Mx (fun c a => rV c q5)) tt2 <| aa [.fa 55 0 0 mq, .fa 47 2 9 ta] z <| o1 z (r1 9 0 z ty3 z) <| aa [.fa 55 0 0 mq, .fa 47 3 10 vJ] z <| o1 z (r1 10 0 z ty3 z) <| aa [.fa 55 0 0 mq, .fa 47 4 11 vR] z <| o1 z (r1 11 0 z ty3 z) <| aa [.fa 55 0 0 mq, .fa 47 5 12 tr] z <| o1 z (r1 12 0 z ty3 z) <| aa [.fa 55 0 0 mq, .fa 47 6 13 sP] z <| ?_
  refine o1 z (r1 13 0 z ty3 z) <| dg <| dm (val := I J) (h1 := fun _ => z) [p0.a_.c_.L_, p0.a_.c_.K_, p0.a_.c_.M_, p0.a_.c_.f_, p0.a_.c_.b_, p0.a_.c_.G_, D, p0.a_.j_, p0.a_.N_, p0.a_.O_, p0.a_.s_, p0.a_.t_] [(0, [I J p0.a_.c_.L_]), (1, [I J p0.a_.c_.K_]), (2, [I J p0.a_.c_.M_]), (3, [I J p0.a_.c_.f_]), (4, [I J p0.a_.c_.b_]), (5, [I J p0.a_.c_.G_]), (6, [I J D]), (7, [I J p0.a_.j_]), (8, [I J p0.a_.N_]), (9, [I J p0.a_.O_]), (10, [I J p0.a_.s_]), (11, [I J p0.a_.t_])] z z z z z ce ty3 z z z ⟨z, z, nl z, z, z, nl z, z, z, nl z, z, z, nl z, z, z, nl z, z, z, nl z, z, z, nl z, z, z, nl z, z, z, nl z, z, z, nl z, z, z, nl z, z, z, nl z, Y⟩ (Jq z z) z (fun _ => kp) fun c9 => oP z <| nQ <| ai <| sR <| oP z <| nQ <| an <| CW.at (oL (fun (A : List Int) (Q : Option Addr) (R : Nat) (X : List Nat) (l : Int) => St w f [b x 55 [S Z p0.a_.p_.d_.length a1, S a2 p0.a_.p_.m_.length a3, I J p0.a_.c_.L_, I J p0.a_.c_.K_, I J p0.a_.c_.M_, I J p0.a_.c_.f_, I J p0.a_.c_.b_, I J p0.a_.c_.G_, B p0.a_.c_.P_, I J p0.a_.j_, I J p0.a_.N_, I J p0.a_.O_, I J p0.a_.s_, I J p0.a_.t_, S a4 p0.J_.j_.length a5, S a6 p0.v_.n_.length a7, S a8 p0.v_.l_.length a9], W (ae e8 5) X A [S Q A.length R], W (ae eI 3) [c9] ([p0.a_.c_.L_, p0.a_.c_.K_, p0.a_.c_.M_, p0.a_.c_.f_, p0.a_.c_.b_, p0.a_.c_.G_, D, p0.a_.j_, p0.a_.N_, p0.a_.O_, p0.a_.s_, p0.a_.t_] : List Int) [S (U ⟨c9, 0, N⟩) (([p0.a_.c_.L_, p0.a_.c_.K_, p0.a_.c_.M_, p0.a_.c_.f_, p0.a_.c_.b_, p0.a_.c_.G_, D, p0.a_.j_, p0.a_.N_, p0.a_.O_, p0.a_.s_, p0.a_.t_] : List Int).length) 12]]) (fun A Q R X l => [(1, O (U ⟨x, 0, N⟩)), (3, S Q A.length R), (5, S (U ⟨c9, 0, N⟩) (([p0.a_.c_.L_, p0.a_.c_.K_, p0.a_.c_.M_, p0.a_.c_.f_, p0.a_.c_.b_, p0.a_.c_.G_, D, p0.a_.j_, p0.a_.N_, p0.a_.O_, p0.a_.s_, p0.a_.t_] : List Int).length) 12), (6, I J l)]) (fun kk => fun A Q R X l => go p0 D kk A l = U r) (fun _ _ _ _ _ H => ?_) (fun k1 g6 A Q R X l H => ?_) aK (p9) (q2) (q3) (q4) (0) (H)) (ss [0, 1, 4] z z) (sb z)
  ·unfold go at H
   exact absurd H (by simp)
  ·unfold go at H
   refine ai <| sR <| aa [.p, .p, .lenS 69 3 ce, .p] z <| nQ <| cI H z (fun H => ?_) (fun H => ?_)
   ·refine aj <| ao <| ai <| an <| aJ <| aa [.p, .p, .p] z <| bE H fun q8 d0 H => bO (e := eI) (xs := ([p0.a_.c_.L_, p0.a_.c_.K_, p0.a_.c_.M_, p0.a_.c_.f_, p0.a_.c_.b_, p0.a_.c_.G_, D, p0.a_.j_, p0.a_.N_, p0.a_.O_, p0.a_.s_, p0.a_.t_] : List Int)) (j := l) z z z z z ce ty3 z (aY (e := ae eI 3) (r := 2) z) d0 (by rw [Nat.mul_one]) <| o1 z (aF z z ty3 (cq (aY (e := ae eI 3) (r := 2) z) d0)) <| bE H fun g7 g8 H => aC z tJ z z z z (fun c a => cD c g8 (a.carve [] z z)) fun q9 c C a e9 => ?_
    obtain ⟨r0, r2, r3, r4, rfl, b0⟩ := e9
    obtain rfl := aI (i := 0) b0 z
    refine ⟨St w f [_, _, _, _], a.comp [] z z b0, fun _ _ => Y, ?_⟩
    exact bE H fun g9 h0 H => cV (r := 1) (ys := g7) z z z z z z eH ty5 z z z (aY (e := ae e8 5) (r := 3) z) h0 (fun _ _ _ => kp) fun h2 h3 h4 => oP z <| aE <| cx <| ao <| aJ <| aa [.p, .p, .p] z <| aE <| cz (RW.at (g6 (g9) (h2) (h3) (h4) (J.wrap (l + 1)) (H)) (ss [0, 1, 2] z z) (sb z))
   ·refine bb <| aw <| ay <| ax <| ao <| ai <| sR <| oP z <| nQ <| an <| CW.at (oL (fun (g : List Int) (q : Option Addr) (s : Nat) (E : List Nat) (t : Int) => St w f [b x 55 [S Z p0.a_.p_.d_.length a1, S a2 p0.a_.p_.m_.length a3, I J p0.a_.c_.L_, I J p0.a_.c_.K_, I J p0.a_.c_.M_, I J p0.a_.c_.f_, I J p0.a_.c_.b_, I J p0.a_.c_.G_, B p0.a_.c_.P_, I J p0.a_.j_, I J p0.a_.N_, I J p0.a_.O_, I J p0.a_.s_, I J p0.a_.t_, S a4 p0.J_.j_.length a5, S a6 p0.v_.n_.length a7, S a8 p0.v_.l_.length a9], W (ae e8 5) E g [S q g.length s]]) (fun g q s E t => [(1, O (U ⟨x, 0, N⟩)), (3, S q g.length s), (7, I J t)]) (fun kk => fun g q s E t => ea p0 kk g t = U r) (fun _ _ _ _ _ H => ?_) (fun k2 h5 g q s E t H => ?_) aK (A) (Q) (R) (X) (0) (H)) (ss [0, 1] z z) (sb z)
    ·unfold ea at H
     exact absurd H (by simp)
    ·unfold ea at H
     refine ai <| sR <| aa [.p, .fa 55 1 14 sU, .fa 50 0 0 qo] z <| o1 z (r1 14 0 z yI z) <| aa [.lenS 48 79 qi, .p] z <| nQ <| cI H z (fun H => ?_) (fun H => ?_)
     ·refine aj <| ao <| ai <| an <| sR <| aa [.fa 55 1 14 sU, .fa 50 0 0 qo] z <| o1 z (r1 14 0 z yI z) <| oP z <| bE H fun d h6 H => bQ z z z z z qi mC z c5 h6 fun r5 r6 f0 f1 => ?_
      obtain ⟨r7, r8, r9, s0, rfl, h7, h8, h9, i0⟩ := dX f0
      obtain ⟨s1, s2, rfl, d1, i1⟩ := aW h7
      obtain ⟨d2, d3, rfl⟩ := ah d1
      obtain rfl := i1
      obtain rfl := h8
      obtain ⟨s3, s4, rfl, d4, i2⟩ := aW h9
      obtain ⟨d5, d6, rfl⟩ := ah d4
      obtain rfl := i2
      obtain ⟨s5, s6, rfl, i3, i4⟩ := dE i0
      obtain ⟨s7, rfl, d7⟩ := aT i3
      obtain ⟨d8, d9, rfl⟩ := ah d7
      obtain ⟨s8, rfl, e0⟩ := aT i4
      obtain ⟨e1, e2, rfl⟩ := ah e0
      refine o1 z (cu (cs := [S d2 d.F_.b_.length d3, I J d.F_.A_, B d.S_, S d5 d.w_.b_.length d6, I J d.w_.A_, S d8 d.H_.s_.o_.length d9, S e1 d.H_.t_.o_.length e2]) z z mC (bB bor f1) z) <| bL z z z z mC (fun _ => kp) fun s9 => sC 0 [S d2 d.F_.b_.length d3, I J d.F_.A_, B d.S_, S d5 d.w_.b_.length d6, I J d.w_.A_, S d8 d.H_.s_.o_.length d9, S e1 d.H_.t_.o_.length e2] [_, _, _, _, _, _, _] 2 z mC z <| nR <| aa [.p, .fa 79 0 0 sX] z <| o1 z (rx 0 2 _ z ol z) <| bE H fun i5 i6 H => aC z OH z z z z (fun c a => tE c i6 (a.carve [] z z) (bh (ab d1 c a) z)) fun t0 c C a f2 => ?_
      obtain ⟨t1, t2, t3, t4, rfl, b1⟩ := f2
      obtain rfl := aI (i := 0) b1 z
      refine ⟨St w f [_, _, _, _], a.comp [] z z b1, fun _ _ => Y, ?_⟩
      refine bE H fun t5 i7 H => cV (r := 1) (ys := i5) z z z z z z eH ty5 z z z (aY (e := ae e8 5) (r := 3) z) i7 (fun _ _ _ => kp) fun t6 t7 t8 => oP z <| nR <| aa [.p, .fa 79 1 2 tO] z <| o1 z (r1 2 2 z ty4 z) <| bE H fun t9 i8 H => oq z (qc z Mx (fun c a => rV c i8)) tt2 <| bE H fun i9 j0 H => aC z tJ z z z z (fun c a => cD c j0 (a.carve [] z z)) fun u0 c C a f3 => ?_
      obtain ⟨u1, u2, u3, u4, rfl, b2⟩ := f3
      obtain rfl := aI (i := 0) b2 z
      refine ⟨St w f [_, _, _, _, _], a.comp [] z z b2, fun _ _ => Y, ?_⟩
      refine bE H fun u5 j1 H => cV (r := 1) (ys := i9) z z z z z z eH ty5 z z z (aY (e := ae e8 5) (r := 4) z) j1 (fun _ _ _ => kp) fun u6 u7 u8 => oP z <| nR <| aa [.p, .fa 79 2 3 qh] z <| o1 z (rx 3 2 _ z ol z) <| bE H fun j2 j3 H => aC z OH z z z z (fun c a => tE c j3 (a.carve [] z z) (bh (ab d4 c a) z)) fun u9 c C a f4 => ?_
      obtain ⟨v0, v1, v2, v3, rfl, b3⟩ := f4
      obtain rfl := aI (i := 0) b3 z
      refine ⟨St w f [_, _, _, _, _, _], a.comp [] z z b3, fun _ _ => Y, ?_⟩
      refine bE H fun v4 j4 H => cV (r := 1) (ys := j2) z z z z z z eH ty5 z z z (aY (e := ae e8 5) (r := 5) z) j4 (fun _ _ _ => kp) fun v5 v6 v7 => oP z <| nR <| aa [.p, .fa 79 3 5 rf, .fa 77 0 0 un] z <| o1 z (rx 5 2 _ z sM z) <| bE H fun j5 j6 H => aC z Oz z z z z (fun c a => rD c j6 (a.carve [] z z) (bg (ab d7 c a))) fun v8 c C a f5 => ?_
      obtain ⟨v9, w0, w3, w4, rfl, b4⟩ := f5
      obtain rfl := aI (i := 0) b4 z
      refine ⟨St w f [_, _, _, _, _, _, _], a.comp [] z z b4, fun _ _ => Y, ?_⟩
      refine bE H fun w5 j7 H => cV (r := 1) (ys := j5) z z z z z z eH ty5 z z z (aY (e := ae e8 5) (r := 6) z) j7 (fun _ _ _ => kp) fun w6 w7 w8 => oP z <| nQ <| aJ <| aa [.p, .fa 79 3 5 rf, .fa 77 1 1 tX] z <| o1 z (rx 6 2 _ z sM z) <| bE H fun j8 j9 H => aC z Oz z z z z (fun c a => rD c j9 (a.carve [] z z) (bg (ab e0 c a))) fun w9 c C a f6 => ?_
      obtain ⟨x0, x1, x2, x3, rfl, b5⟩ := f6
      obtain rfl := aI (i := 0) b5 z
      refine ⟨St w f [_, _, _, _, _, _, _, _], a.comp [] z z b5, fun _ _ => Y, ?_⟩
      exact bE H fun k0 k5 H => cV (r := 1) (ys := j8) z z z z z z eH ty5 z z z (aY (e := ae e8 5) (r := 7) z) k5 (fun _ _ _ => kp) fun k6 k7 k8 => oP z <| aE <| cx <| ao <| aJ <| aa [.p, .p, .p] z <| aE <| cz (RW.at (h5 (k0) (k6) (k7) (k8) (J.wrap (t + 1)) (H)) (ss [0, 1] z z) (sb z))
     ·refine bb <| aw <| ay <| ax <| ao <| ai <| sR <| oP z <| nQ <| an <| CW.at (oL (fun (m : List Int) (F : Option Addr) (G : Nat) (T : List Nat) (u : Int) => St w f [b x 55 [S Z p0.a_.p_.d_.length a1, S a2 p0.a_.p_.m_.length a3, I J p0.a_.c_.L_, I J p0.a_.c_.K_, I J p0.a_.c_.M_, I J p0.a_.c_.f_, I J p0.a_.c_.b_, I J p0.a_.c_.G_, B p0.a_.c_.P_, I J p0.a_.j_, I J p0.a_.N_, I J p0.a_.O_, I J p0.a_.s_, I J p0.a_.t_, S a4 p0.J_.j_.length a5, S a6 p0.v_.n_.length a7, S a8 p0.v_.l_.length a9], W (ae e8 5) T m [S F m.length G]]) (fun m F G T u => [(1, O (U ⟨x, 0, N⟩)), (3, S F m.length G), (9, I J u)]) (fun kk => fun m F G T u => dZ p0 kk m u = U r) (fun _ _ _ _ _ H => ?_) (fun k3 k9 m F G T u H => ?_) aK (g) (q) (s) (E) (0) (H)) (ss [0, 1] z z) (sb z)
      ·unfold dZ at H
       exact absurd H (by simp)
      ·unfold dZ at H
       refine ai <| sR <| aa [.p, .fa 55 2 15 ni, .fa 53 0 0 mp] z <| o1 z (r1 15 0 z fw z) <| aa [.lenS 33 69 eK, .p] z <| nQ <| cI H z (fun H => ?_) (fun H => ?_)
       ·refine aj <| ao <| ai <| an <| aJ <| aa [.p, .fa 55 2 15 ni, .fa 53 0 0 mp] z <| o1 z (r1 15 0 z fw z) <| oP z <| bE H fun x4 l0 H => bQ z z z z z eK bW z c6 l0 fun x5 x6 b6 f7 => ?_
        obtain ⟨x7, x8, rfl⟩ := ah b6
        refine o1 z (aF z z bW (bB bor f7)) <| bE H fun l1 l2 H => aC z Ju z z z z (fun c a => kF c l2 (a.carve [] z z) (ab b6 c a)) fun x9 c C a f8 => ?_
        obtain ⟨y0, y1, y2, y3, rfl, b7⟩ := f8
        obtain rfl := aI (i := 0) b7 z
        refine ⟨St w f [_, _, _], a.comp [] z z b7, fun _ _ => Y, ?_⟩
        exact bE H fun l3 l4 H => cV (r := 1) (ys := l1) z z z z z z eH ty5 z z z (aY (e := ae e8 5) (r := 2) z) l4 (fun _ _ _ => kp) fun l5 l6 l7 => oP z <| aE <| cx <| ao <| aJ <| aa [.p, .p, .p] z <| aE <| cz (RW.at (k9 (l3) (l5) (l6) (l7) (J.wrap (u + 1)) (H)) (ss [0, 1] z z) (sb z))
       ·refine bb <| aw <| ay <| ax <| ao <| sR <| aa [.p, .fa 55 2 15 ni, .fa 53 1 1 lO] z <| o1 z (r1 16 0 z ug z) <| aa [.lenS 51 84 pi] z <| bE H fun l8 l9 H => aC z tJ z z z z (fun c a => cD c l9 (a.carve [] z z)) fun y4 c C a f9 => ?_
        obtain ⟨y5, y6, y7, y8, rfl, b8⟩ := f9
        obtain rfl := aI (i := 0) b8 z
        refine ⟨St w f [_, _, _], a.comp [] z z b8, fun _ _ => Y, ?_⟩
        refine bE H fun m0 m1 H => cV (r := 1) (ys := l8) z z z z z z eH ty5 z z z (aY (e := ae e8 5) (r := 2) z) m1 (fun _ _ _ => kp) fun m2 m3 m4 => oP z <| nQ <| ai <| sR <| oP z <| nQ <| an <| CW.at (oL (fun (k : Int) (o : List Int) (L : Option Addr) (M : Nat) (V : List Nat) => St w f [b x 55 [S Z p0.a_.p_.d_.length a1, S a2 p0.a_.p_.m_.length a3, I J p0.a_.c_.L_, I J p0.a_.c_.K_, I J p0.a_.c_.M_, I J p0.a_.c_.f_, I J p0.a_.c_.b_, I J p0.a_.c_.G_, B p0.a_.c_.P_, I J p0.a_.j_, I J p0.a_.N_, I J p0.a_.O_, I J p0.a_.s_, I J p0.a_.t_, S a4 p0.J_.j_.length a5, S a6 p0.v_.n_.length a7, S a8 p0.v_.l_.length a9], W (ae e8 5) V o [S L o.length M]]) (fun k o L M V => [(1, O (U ⟨x, 0, N⟩)), (3, S L o.length M), (10, I J k)]) (fun kk => fun k o L M V => eN p0 kk k o = U r) (fun _ _ _ _ _ H => ?_) (fun k4 m5 k o L M V H => ?_) aK (0) (m0) (m2) (m3) (m4) (H)) (ss [0, 1] z z) (sb z)
        ·unfold eN at H
         exact absurd H (by simp)
        ·unfold eN at H
         refine ai <| sR <| aa [.p, .fa 55 2 15 ni, .fa 53 1 1 lO] z <| o1 z (r1 16 0 z ug z) <| aa [.lenS 51 84 pi, .p] z <| nQ <| cI H z (fun H => ?_) (fun H => ?_)
         ·refine aj <| ao <| ai <| an <| sR <| aa [.p, .fa 55 2 15 ni, .fa 53 1 1 lO] z <| o1 z (r1 16 0 z ug z) <| oP z <| bE H fun y9 e3 H => bO (e := bD) (xs := p0.v_.l_) (j := k) z z z z z pi nN z (ab P) e3 z <| aa [.fa 84 0 0 rY] z <| o1 z (aF z z ty3 (Cs (ls (mS (ab P) e3 (fun _ _ h => h)) z) 0 1)) <| bE H fun m6 m7 H => aC z tJ z z z z (fun c a => cD c m7 (a.carve [] z z)) fun z0 c C a g1 => ?_
          obtain ⟨z1, z2, z3, z4, rfl, b9⟩ := g1
          obtain rfl := aI (i := 0) b9 z
          refine ⟨St w f [_, _, _], a.comp [] z z b9, fun _ _ => Y, ?_⟩
          refine bE H fun z5 m8 H => cV (r := 1) (ys := m6) z z z z z z eH ty5 z z z (aY (e := ae e8 5) (r := 2) z) m8 (fun _ _ _ => kp) fun z6 z7 z8 => oP z <| nQ <| aJ <| aa [.p, .fa 55 2 15 ni, .fa 53 1 1 lO] z <| o1 z (r1 16 0 z ug z) <| oP z <| bE H fun z9 e4 H => bO (e := bD) (xs := p0.v_.l_) (j := k) z z z z z pi nN z (ab P) e4 z <| aa [.fa 84 1 1 sc] z <| o1 z (aF z z ty3 (Cs (ls (mS (ab P) e4 (fun _ _ h => h)) z) 1 1)) <| bE H fun m9 n1 H => aC z tJ z z z z (fun c a => cD c n1 (a.carve [] z z)) fun A0 c C a g2 => ?_
          obtain ⟨A1, A2, A3, A4, rfl, c1⟩ := g2
          obtain rfl := aI (i := 0) c1 z
          refine ⟨St w f [_, _, _, _], a.comp [] z z c1, fun _ _ => Y, ?_⟩
          exact bE H fun n2 n3 H => cV (r := 1) (ys := m9) z z z z z z eH ty5 z z z (aY (e := ae e8 5) (r := 3) z) n3 (fun _ _ _ => kp) fun n4 n5 n6 => oP z <| aE <| cx <| ao <| aJ <| aa [.p, .p, .p] z <| aE <| cz (RW.at (m5 (J.wrap (k + 1)) (n2) (n4) (n5) (n6) (H)) (ss [0, 1] z z) (sb z))
         ·refine bb <| aw <| ay <| ax <| ao <| sR <| oPP z <| bE H fun n7 n8 H => aC z Pk z z z z (fun c a => Am c n8 (a.carve [] z z) (aY (e := ae e8 5) (r := 1) z c a)) fun A5 c C a g3 => ?_
          obtain ⟨A6, A7, A8, A9, rfl, c2⟩ := g3
          obtain rfl := aI (i := 0) c2 z
          refine ⟨St w f [_, _, _], a.comp [] z z c2, fun _ _ => Y, ?_⟩
          exact bE H fun e5 n9 H => cV (r := 1) (ys := n7) z z z z z z eH ty5 z z z (aY (e := ae e8 5) (r := 2) z) n9 (fun _ _ _ => kp) fun e6 e7 o0 => oP z <| nT <| ca (rs := [.tmp 2]) (vs := [S e6 e5.length e7]) z ⟨z, Y⟩ (fun w' hw' => by
           obtain rfl := ak H
           exact ⟨_, z, e6, e5.length, e7, o0, z, hw'.sel [1] z z⟩)
theorem be (w : World) {p0 : Int} {p1 : Int} {a : Int} {r : Bool} (H : aZ p0 p1 a = U r)   :
    Calls Tryz.prog 101 #[I J p0, I J p1, I J a] w (fun en w' => en = .returned (B r) ∧ Ext [] w w') := by
 unfold aZ at H
 refine aq Tryz.func101 z Tryz.ntmps101 z (St.init w []) <| sR <| oP z <| nR <| aa [.p, .p, .p, .p] z <| aL [(14, B ((decide (p0 ≥ p1)) && (decide (p0 ≤ a)))), (6, B n)] 4 ?_ (fun key => OW.sub (R := [(0, I J p0), (2, I J a), (6, B n), (10, B (decide (p0 ≥ p1)))]) ?_ (sb z))
 ·exact oP z <| nT <| xr 6 z (by cases H; exact q1)
 ·generalize (decide (p0 ≥ p1)) = c at key ⊢
  cases c
  ·exact aa [.p, .p, .p, .p] z <| OW.sub key (sb z)
  ·exact aa [.p, .p, .p] z <| oP z <| OW.sub key (sb z)
theorem ua (w : World) {p0 : List UInt8} {r : Bool} (H : nG p0 = U r)   :
    Calls Tryz.prog 139 #[vS p0] w (fun en w' => en = .returned (B r) ∧ Ext [] w w') := by
 unfold nG at H
 refine aq Tryz.func139 z Tryz.ntmps139 z (St.init w []) <| sR <| oP z <| nQ <| ai <| sR <| aa [.p, .lenT 9 st9] z <| bE H fun l f H => oq z (qc z gy (fun k m => be k f)) tt2 <| oP z <| nQ <| cI H z (fun H => ?_) (fun H => ?_)
 ·exact sR <| oP z <| nT <| af <| xr 2 z (by cases H; exact q1)
 ·refine aj <| ao <| ai <| sR <| aa [.p, .lenT 9 st9, .p] z <| nQ <| an <| CW.at (dn (fun (a : Int) => St w [] []) (fun a => [(0, vS p0), (9, I J (p0.length : Int)), (10, I J a)]) (fun kk => fun a => iN p0 kk a = U r) (fun _ H => ?_) (fun q e a H => ?_) aK (0) (H)) (ss [] z z) (sb z)
  ·unfold iN at H
   exact absurd H (by simp)
  ·unfold iN at H
   refine sR <| oP z <| nQ <| ai <| cI H z (fun H => ?_) (fun H => ?_)
   ·refine aj <| ao <| ai <| an <| sR <| oPP z <| nR <| oPP z <| bE H fun d g H => o1 z (zy (s := p0) z z z st9 g) <| oPP z <| bE H fun h c H => aL [(22, B h), (0, vS p0), (9, I J (p0.length : Int)), (10, I J a)] 5 ?_ (fun key => OW.sub (R := [(0, vS p0), (3, I J a), (9, I J (p0.length : Int)), (10, I J a), (17, B (decide ((d.toNat : Int) < 97)))]) ?_ (sb z))
    ·refine nQ <| cI H z (fun H => ?_) (fun H => ?_)
     ·exact sR <| oP z <| nT <| ar <| af <| bd <| ar <| af <| xr 2 z (by cases H; exact q1)
     ·exact aj <| cx <| ao <| aJ <| oPP z <| aE <| cz (RW.at (e (J.wrap (a + 1)) (H)) (ss [] z z) (sb z))
    ·clear H
     have H := c
     clear c
     generalize (decide ((d.toNat : Int) < 97)) = i at H key ⊢
     cases i
     ·have H := aQ z H
      refine oPP z <| bE H fun o j H => o1 z (zy (s := p0) z z z st9 j) <| oP z <| oP z <| ?_
      obtain rfl := ak H
      exact OW.sub key (sb z)
     ·have H := aR z H
      refine aa [.p, .p, .p, .p, .p] z ?_
      obtain rfl := ak H
      exact OW.sub key (sb z)
   ·exact bb <| aw <| ay <| ax <| ao <| sR <| oP z <| nT <| xr 2 z (by cases H; exact q1)
theorem ms (w : World) {p0 : List (List UInt8)} {p1 : List UInt8} {a_0 : Option Addr} {n_0 c_0 : Nat} {r : Int} (H : eo p0 p1 = U r) (d : (ae (cy) 9).rd w [] p0 [S a_0 n_0 c_0]) :
    Calls Tryz.prog 163 #[S a_0 n_0 c_0, vS p1] w (fun en w' => en = .returned (I J r) ∧ Ext [] w w') := by
 obtain rfl := eb d
 unfold eo at H
 refine aq Tryz.func163 z Tryz.ntmps163 z (St.init w []) <| sR <| oP z <| nQ <| ai <| sR <| aa [.p, .lenS 23 9 gm, .p] z <| nQ <| an <| CW.at (dn (fun (a : Int) => St w [] []) (fun a => [(0, S a_0 p0.length c_0), (1, vS p1), (7, I J (p0.length : Int)), (8, I J a)]) (fun kk => fun a => cg p0 p1 kk a = U r) (fun _ H => ?_) (fun h f a H => ?_) aK (0) (H)) (ss [] z z) (sb z)
 ·unfold cg at H
  exact absurd H (by simp)
 ·unfold cg at H
  refine sR <| oP z <| nQ <| ai <| cI H z (fun H => ?_) (fun H => ?_)
  ·refine aj <| ao <| ai <| an <| sR <| oPP z <| nR <| aa [.p, .p, .p] z <| bE H fun g c H => bO (e := cy) (xs := p0) (j := a) z z z z z gm ty9 z (ab d) c (by rw [Nat.mul_one]) <| o1 z (aF z z ty9 (cq (ab d) c)) <| oP z <| nQ <| cI H z (fun H => ?_) (fun H => ?_)
   ·exact sR <| oPP z <| nT <| ar <| af <| bd <| ar <| af <| xr 4 z (by cases H; exact q1)
   ·exact aj <| cx <| ao <| aJ <| oPP z <| aE <| cz (RW.at (f (J.wrap (a + 1)) (H)) (ss [] z z) (sb z))
  ·exact bb <| aw <| ay <| ax <| ao <| sR <| oP z <| nT <| xr 4 z (by cases H; exact q1)
theorem lq (w : World) {p0 : List (List UInt8)} {p1 : List UInt8} {a_0 : Option Addr} {n_0 c_0 : Nat} {r : Bool} (H : dN p0 p1 = U r) (a : (ae (cy) 9).rd w [] p0 [S a_0 n_0 c_0]) :
    Calls Tryz.prog 140 #[S a_0 n_0 c_0, vS p1] w (fun en w' => en = .returned (B r) ∧ Ext [] w w') := by
 obtain rfl := eb a
 unfold dN at H
 exact aq Tryz.func140 z Tryz.ntmps140 z (St.init w []) <| sR <| oP z <| nR <| oPP z <| bE H fun f c H => oq z (qc z NP (fun d e => ms d c (ab a d e))) tt2 <| oPP z <| nT <| xr 4 z (by cases H; exact q1)
theorem lj (w : World) {p0 : List (List UInt8)} {a_0 : Option Addr} {n_0 c_0 : Nat} {r : Bool} (H : eQ p0 = U r) (f : (ae (cy) 9).rd w [] p0 [S a_0 n_0 c_0]) :
    Calls Tryz.prog 105 #[S a_0 n_0 c_0] w (fun en w' => en = .returned (B r) ∧ Ext [] w w') := by
 obtain rfl := eb f
 unfold eQ at H
 refine aq Tryz.func105 z Tryz.ntmps105 z (St.init w []) <| sR <| oP z <| nQ <| ai <| sR <| aa [.p, .lenS 23 9 gm, .p] z <| nQ <| an <| CW.at (dn (fun (a : Int) => St w [] []) (fun a => [(0, S a_0 p0.length c_0), (5, S a_0 p0.length c_0), (6, I J (p0.length : Int)), (7, I J a)]) (fun kk => fun a => eD p0 kk a = U r) (fun _ H => ?_) (fun E m a H => ?_) aK (0) (H)) (ss [] z z) (sb z)
 ·unfold eD at H
  exact absurd H (by simp)
 ·unfold eD at H
  refine sR <| oP z <| nQ <| ai <| cI H z (fun H => ?_) (fun H => ?_)
  ·refine aj <| ao <| ai <| an <| sR <| oP z <| bE H fun o h H => bO (e := cy) (xs := p0) (j := a) z z z z z gm ty9 z (ab f) h (by rw [Nat.mul_one]) <| o1 z (aF z z ty9 (cq (ab f) h)) <| oPP z <| nR <| oP z <| bE H fun i q H => oq z (qc z LE (fun g k => ua g q)) tt2 <| oPP z <| bE H fun s d H => aL [(21, B s), (0, S a_0 p0.length c_0), (5, S a_0 p0.length c_0), (6, I J (p0.length : Int)), (7, I J a)] 6 ?_ (fun key => OW.sub (R := [(0, S a_0 p0.length c_0), (3, I J a), (4, vS o), (5, S a_0 p0.length c_0), (6, I J (p0.length : Int)), (7, I J a), (15, B (!i))]) ?_ (sb z))
   ·refine nQ <| cI H z (fun H => ?_) (fun H => ?_)
    ·exact sR <| oP z <| nT <| ar <| af <| bd <| ar <| af <| xr 2 z (by cases H; exact q1)
    ·exact aj <| cx <| ao <| aJ <| oPP z <| aE <| cz (RW.at (m (J.wrap (a + 1)) (H)) (ss [] z z) (sb z))
   ·clear H
    have H := d
    clear d
    generalize (!i) = t at H key ⊢
    cases t
    ·have H := aQ z H
     refine oPP z <| bE H fun l u H => Kg z z z z gm ty9 z z z u f fun C c => ?_
     obtain ⟨v, x, rfl⟩ := NO c
     have c : (ae (cy) 9).rd w [] l [S v l.length x] := c
     refine oP z <| bE H fun D A H => oq z (qc z Oq (fun g k => lq g A (ab c g k))) tt2 <| oP z <| ?_
     obtain rfl := ak H
     exact OW.sub key (sb z)
    ·have H := aR z H
     refine aa [.p, .p, .p, .p, .p, .p] z ?_
     obtain rfl := ak H
     exact OW.sub key (sb z)
  ·exact bb <| aw <| ay <| ax <| ao <| sR <| oP z <| nT <| xr 2 z (by cases H; exact q1)
theorem og (w : World) {p0 : List Int} {a_0 : Option Addr} {n_0 c_0 : Nat} {r : Bool} (H : gc p0 = U r) (c : (ae eI 3).rd w [] p0 [S a_0 n_0 c_0]) :
    Calls Tryz.prog 164 #[S a_0 n_0 c_0] w (fun en w' => en = .returned (B r) ∧ Ext [] w w') := by
 obtain rfl := eb c
 unfold gc at H
 refine aq Tryz.func164 z Tryz.ntmps164 z (St.init w []) <| sR <| oP z <| nQ <| ai <| sR <| oP z <| nQ <| an <| CW.at (dn (fun (a : Int) => St w [] []) (fun a => [(0, S a_0 p0.length c_0), (3, I J a)]) (fun kk => fun a => eJ p0 kk a = U r) (fun _ H => ?_) (fun k g a H => ?_) aK (1) (H)) (ss [] z z) (sb z)
 ·unfold eJ at H
  exact absurd H (by simp)
 ·unfold eJ at H
  refine ai <| sR <| aa [.p, .p, .lenS 69 3 ce, .p] z <| nQ <| cI H z (fun H => ?_) (fun H => ?_)
  ·refine aj <| ao <| ai <| an <| ai <| eF eR (by kernel_rfl) <| oPP z <| bE H fun h d H => bO (e := eI) (xs := p0) (j := a) z z z z z ce ty3 z (ab c) d (by rw [Nat.mul_one]) <| o1 z (aF z z ty3 (cq (ab c) d)) <| aa [.p, .p, .p] z <| bE H fun i f H => bO (e := eI) (xs := p0) (j := J.wrap (a - 1)) z z z z z ce ty3 z (ab c) f (by rw [Nat.mul_one]) <| o1 z (aF z z ty3 (cq (ab c) f)) <| oP z <| dg <| ao <| cI H z (fun H => ?_) (fun H => ?_)
   ·exact sR <| oP z <| nT <| ar <| af <| bd <| ar <| af <| xr 2 z (by cases H; exact q1)
   ·exact aj <| cx <| ao <| aJ <| aa [.p, .p, .p] z <| aE <| cz (RW.at (g (J.wrap (a + 1)) (H)) (ss [] z z) (sb z))
  ·exact bb <| aw <| ay <| ax <| ao <| sR <| oP z <| nT <| xr 2 z (by cases H; exact q1)
theorem Bg (w : World) {p0 : Int} {r : Bool} (H : tn p0 = U r)   :
    Calls Tryz.prog 166 #[I J p0] w (fun en w' => en = .returned (B r) ∧ Ext [] w w') := by
 unfold tn at H
 exact aq Tryz.func166 z Tryz.ntmps166 z (St.init w []) <| sR <| oP z <| nR <| oP z <| bE H fun d a H => oq z (qc z gy (fun c e => be c a)) tt2 <| oP z <| nT <| xr 2 z (by cases H; exact q1)
theorem xv (w : World) {p0 : Int} {r : Bool} (H : pr p0 = U r)   :
    Calls Tryz.prog 165 #[I J p0] w (fun en w' => en = .returned (B r) ∧ Ext [] w w') := by
 unfold pr at H
 exact aq Tryz.func165 z Tryz.ntmps165 z (St.init w []) <| sR <| oP z <| nR <| oP z <| bE H fun d a H => oq z (qc z Pe (fun c e => Bg c a)) tt2 <| oPP z <| nT <| xr 2 z (by cases H; exact q1)
theorem iZ (w : World) {p0 : List Int} {a_0 : Option Addr} {n_0 c_0 : Nat} {r : Int} (H : cN p0 = U r) (d : (ae eI 3).rd w [] p0 [S a_0 n_0 c_0]) :
    Calls Tryz.prog 137 #[S a_0 n_0 c_0, .func (.func 165) #[] #[]] w (fun en w' => en = .returned (I J r) ∧ Ext [] w w') := by
 obtain rfl := eb d
 unfold cN at H
 refine aq Tryz.func137 z Tryz.ntmps137 z (St.init w []) <| sR <| oP z <| nQ <| ai <| sR <| aa [.p, .lenS 69 3 ce, .p] z <| nQ <| an <| CW.at (dn (fun (a : Int) => St w [] []) (fun a => [(0, S a_0 p0.length c_0), (1, .func (.func 165) #[] #[]), (7, I J (p0.length : Int)), (8, I J a)]) (fun kk => fun a => bz p0 kk a = U r) (fun _ H => ?_) (fun m f a H => ?_) aK (0) (H)) (ss [] z z) (sb z)
 ·unfold bz at H
  exact absurd H (by simp)
 ·unfold bz at H
  refine sR <| oP z <| nQ <| ai <| cI H z (fun H => ?_) (fun H => ?_)
  ·refine aj <| ao <| ai <| an <| sR <| oPP z <| nR <| aa [.p, .p, .p] z <| bE H fun i c H => bO (e := eI) (xs := p0) (j := a) z z z z z ce ty3 z (ab d) c (by rw [Nat.mul_one]) <| o1 z (aF z z ty3 (cq (ab d) c)) <| bE H fun k g H => CF z z (bU z) (pB (cap := []) z Pf z z (fun h l => xv h g)) (fun _ _ => Y) <| nQ <| cI H z (fun H => ?_) (fun H => ?_)
   ·exact sR <| oPP z <| nT <| ar <| af <| bd <| ar <| af <| xr 4 z (by cases H; exact q1)
   ·exact aj <| cx <| ao <| aJ <| oPP z <| aE <| cz (RW.at (f (J.wrap (a + 1)) (H)) (ss [] z z) (sb z))
  ·exact bb <| aw <| ay <| ax <| ao <| sR <| oP z <| nT <| xr 4 z (by cases H; exact q1)
theorem ir (w : World) {p0 : List Int} {a_0 : Option Addr} {n_0 c_0 : Nat} {r : Bool} (H : cA p0 = U r) (a : (ae eI 3).rd w [] p0 [S a_0 n_0 c_0]) :
    Calls Tryz.prog 102 #[S a_0 n_0 c_0, .func (.func 165) #[] #[]] w (fun en w' => en = .returned (B r) ∧ Ext [] w w') := by
 obtain rfl := eb a
 unfold cA at H
 exact aq Tryz.func102 z Tryz.ntmps102 z (St.init w []) <| sR <| oP z <| nR <| oPP z <| bE H fun f c H => oq z (qc z Er (fun d e => iZ d c (ab a d e))) tt2 <| oPP z <| nT <| xr 4 z (by cases H; exact q1)
theorem zF (w : World) {p0 : List Int} {a_0 : Option Addr} {n_0 c_0 : Nat} {r : Bool} (H : pR p0 = U r) (h : (ae eI 3).rd w [] p0 [S a_0 n_0 c_0]) :
    Calls Tryz.prog 141 #[S a_0 n_0 c_0] w (fun en w' => en = .returned (B r) ∧ Ext [] w w') := by
 obtain rfl := eb h
 unfold pR at H
 refine aq Tryz.func141 z Tryz.ntmps141 z (St.init w []) <| sR <| oP z <| nR <| aa [.p, .lenS 69 3 ce] z <| bE H fun g i H => oq z (qc z gy (fun a c => be a i)) tt2 <| oP z <| bE H fun d e H => aL [(9, B d), (0, S a_0 p0.length c_0), (2, B n)] 3 ?_ (fun key => OW.sub (R := [(0, S a_0 p0.length c_0), (2, B n), (6, B g)]) ?_ (sb z))
 ·refine oP z <| bE H fun j f H => aL [(14, B j), (2, B n)] 4 ?_ (fun key => OW.sub (R := [(0, S a_0 p0.length c_0), (2, B n), (10, B d)]) ?_ (sb z))
  ·exact oP z <| nT <| xr 2 z (by cases H; exact q1)
  ·clear H
   have H := f
   clear f
   generalize d = k at H key ⊢
   cases k
   ·have H := aQ z H
    refine aa [.p, .p, .p, .p] z ?_
    obtain rfl := ak H
    exact OW.sub key (sb z)
   ·have H := aR z H
    refine oP z <| bE H fun q l H => oq z (qc z EB (fun a c => ir a l (ab h a c))) tt2 <| oP z <| oP z <| ?_
    obtain rfl := ak H
    exact OW.sub key (sb z)
 ·clear H
  have H := e
  clear e
  generalize g = m at H key ⊢
  cases m
  ·have H := aQ z H
   refine aa [.p, .p, .p] z ?_
   obtain rfl := ak H
   exact OW.sub key (sb z)
  ·have H := aR z H
   refine oP z <| bE H fun s o H => oq z (qc z Js (fun a c => og a o (ab h a c))) tt2 <| oP z <| ?_
   obtain rfl := ak H
   exact OW.sub key (sb z)
theorem tR (w : World) {p0 : aB} {f : List Value} {r : Bool} (H : nx p0 = U r) (x : (bj).rd w [] p0 f) :
    Calls Tryz.prog 106 #[.agg f.toArray] w (fun en w' => en = .returned (B r) ∧ Ext [] w w') := by
 obtain ⟨A, C, D, rfl, k, g, h⟩ := bV x
 obtain rfl := k
 obtain ⟨E, F, rfl⟩ := ah g
 obtain ⟨G, L, rfl⟩ := ah h
 unfold nx at H
 refine aq Tryz.func106 z Tryz.ntmps106 z (St.init w []) <| sR <| ob _ z fun i => oP z <| nQ <| ai <| sR <| aa [.fa 111 0 0 me] z <| o1 z (r1 0 0 z ty9 z) <| bE H fun M l H => oq z (qc z LE (fun a c => ua a l)) tt2 <| oP z <| nQ <| cI H z (fun H => ?_) (fun H => ?_)
 ·exact sR <| oP z <| nT <| af <| xr 2 z (by cases H; exact q1)
 ·refine aj <| ao <| ai <| sR <| aa [.fa 111 1 1 gn] z <| o1 z (r1 1 0 z bW z) <| aa [.lenS 69 3 ce, .p] z <| nQ <| cI H z (fun H => ?_) (fun H => ?_)
  ·refine sR <| aa [.fa 111 2 2 ks] z <| o1 z (r1 2 0 z lr z) <| aa [.lenS 23 9 gm] z <| bE H fun j m H => oq z (qc z gy (fun a c => be a m)) tt2 <| oP z <| bE H fun o d H => aL [(19, B o), (2, B n)] 4 ?_ (fun key => OW.sub (R := [(1, O (U ⟨i, 0, N⟩)), (2, B n), (15, B j)]) ?_ (sb z))
   ·exact oP z <| nT <| af <| xr 2 z (by cases H; exact q1)
   ·clear H
    have H := d
    clear d
    generalize j = q at H key ⊢
    cases q
    ·have H := aQ z H
     refine aa [.p, .p, .p, .p] z ?_
     obtain rfl := ak H
     exact OW.sub key (sb z)
    ·have H := aR z H
     refine aa [.fa 111 2 2 ks] z <| o1 z (r1 2 0 z lr z) <| bE H fun P s H => oq z (qc z JL (fun a c => lj a s (ab h a c))) tt2 <| oP z <| ?_
     obtain rfl := ak H
     exact OW.sub key (sb z)
  ·refine aj <| ao <| sR <| aa [.fa 111 2 2 ks] z <| o1 z (r1 2 0 z lr z) <| aa [.lenS 23 9 gm, .p, .p] z <| bE H fun t e H => aL [(28, B t), (2, B n)] 4 ?_ (fun key => OW.sub (R := [(1, O (U ⟨i, 0, N⟩)), (2, B n), (24, B ((p0.I_.length : Int) == 0))]) ?_ (sb z))
   ·exact oP z <| nT <| xr 2 z (by cases H; exact q1)
   ·clear H
    have H := e
    clear e
    generalize ((p0.I_.length : Int) == 0) = u at H key ⊢
    cases u
    ·have H := aQ z H
     refine aa [.p, .p, .p, .p] z ?_
     obtain rfl := ak H
     exact OW.sub key (sb z)
    ·have H := aR z H
     refine aa [.fa 111 1 1 gn] z <| o1 z (r1 1 0 z bW z) <| bE H fun Q v H => oq z (qc z Nc (fun a c => zF a v (ab g a c))) tt2 <| oP z <| ?_
     obtain rfl := ak H
     exact OW.sub key (sb z)
theorem iG (w : World) {p0 : am} {G : List Value} {r : Bool} (H : fW p0 = U r) (g0 : (bK).rd w [] p0 G) :
    Calls Tryz.prog 67 #[.agg G.toArray] w (fun en w' => en = .returned (B r) ∧ Ext [] w w') := by
 obtain ⟨c4, c5, rfl, L, M⟩ := aO g0
 obtain ⟨a5, a6, rfl⟩ := ah L
 obtain ⟨c6, c7, rfl⟩ := ah M
 unfold fW at H
 refine aq Tryz.func67 z Tryz.ntmps67 z (St.init w []) <| sR <| ob _ z fun k => oP z <| nQ <| ai <| sR <| aa [.fa 44 0 0 fS] z <| o1 z (r1 0 0 z nP z) <| aa [.lenS 42 111 kr] z <| bE H fun P a7 H => oq z (qc z gy (fun d c => be d a7)) tt2 <| oPP z <| bE H fun m o H => aL [(17, B m), (1, O (U ⟨k, 0, N⟩))] 6 ?_ (fun key => OW.sub (R := [(1, O (U ⟨k, 0, N⟩)), (11, B (!P))]) ?_ (sb z))
 ·refine oP z <| bE H fun a8 q H => aL [(23, B a8), (1, O (U ⟨k, 0, N⟩))] 5 ?_ (fun key => OW.sub (R := [(1, O (U ⟨k, 0, N⟩)), (18, B m)]) ?_ (sb z))
  ·refine nQ <| cI H z (fun H => ?_) (fun H => ?_)
   ·exact sR <| oP z <| nT <| af <| xr 2 z (by cases H; exact q1)
   ·refine aj <| ao <| sR <| jw (e := cy) z z z z gm ty9 (fun _ => kp) fun Q => oP z <| nQ <| ai <| sR <| aa [.fa 44 0 0 fS] z <| o1 z (r1 0 0 z nP z) <| aa [.lenS 42 111 kr, .p] z <| nQ <| an <| CW.at (oL (fun (g : Int) (f : List (List UInt8)) (h : Option Addr) (j : Nat) (l : List Nat) => St w [] [W (ae (cy) 9) l f [S h f.length j]]) (fun g f h j l => [(3, S h f.length j), (26, S a5 p0.d_.length a6), (27, I J (p0.d_.length : Int)), (28, I J g)]) (fun kk => fun g f h j l => h.isNone = n ∧ ex p0 kk g f = U r) (fun _ _ _ _ _ H => ?_) (fun k1 T g f h j l ⟨b4, H⟩ => ?_) aK (0) (([] : List (List UInt8))) ((U ⟨Q, 0, N⟩)) (0) ([Q]) (⟨z, H⟩)) (ss [1] z z) (sb z)
    ·unfold ex at H
     exact absurd H (by simp)
    ·unfold ex at H
     refine sR <| oP z <| nQ <| ai <| cI H z (fun H => ?_) (fun H => ?_)
     ·refine aj <| ao <| ai <| an <| sR <| bE H fun a V H => bQ z z z z z kr ed z L V fun b5 b6 D E => ?_
      obtain ⟨b7, b8, b9, rfl, X, s, t⟩ := bV D
      obtain rfl := X
      obtain ⟨u, v, rfl⟩ := ah s
      obtain ⟨x, A, rfl⟩ := ah t
      refine o1 z (cu (cs := [vS a.E_, S u a.z_.length v, S x a.I_.length A]) z z ed (bB bor E) z) <| bL z z z z ed (fun _ => kp) fun c0 => sC 0 [vS a.E_, S u a.z_.length v, S x a.I_.length A] [_, _, _] 1 z ed z <| nQ <| ai <| sR <| o1 z (rx 0 1 _ z ed z) <| bE H fun c1 Z H => oq z (qc z LI (fun d c => tR d Z (cZ z (ab s d c) (ab t d c)))) tt2 <| oP z <| nQ <| cI H z (fun H => ?_) (fun H => ?_)
      ·exact sR <| oP z <| nT <| af <| ar <| af <| bd <| ar <| af <| xr 2 z (by cases H; exact q1)
      ·exact aj <| ao <| aJ <| aa [.p, .fa 111 0 0 me] z <| o1 z (r1 0 1 z ty9 z) <| dm (val := vS) (h1 := fun _ => z) [a.E_] [(0, [vS a.E_])] z z z z z gm ty9 z z z ⟨z, z, nl z, Y⟩ z z (fun _ => kp) fun c2 => bE H fun a0 C H => cV (r := 0) (ys := ([a.E_] : List (List UInt8))) z z z z z z gm ty9 z z z (fun d c => aY (e := ae (cy) 9) (r := 2) z d c) C (fun _ _ _ => kp) fun a1 a2 a3 => el z (fun d c => rW (i := 0) c z (sa C)) fun F => oP z <| aE <| cx <| ao <| aJ <| oPP z <| aE <| cz (RW.at (T (J.wrap (g + 1)) (a0) (a1) (a2) (a3) (⟨F, H⟩)) (ss [0] z z) (sb z))
     ·exact bb <| aw <| ay <| ax <| ao <| sR <| oP z <| bE H fun c3 a4 H => oq z (qc z JL (fun d c => lj d a4 (aY (e := ae (cy) 9) (r := 0) z d c))) tt2 <| oP z <| nT <| xr 2 z (by cases H; exact q1)
  ·clear H
   have H := q
   clear q
   generalize m = a9 at H key ⊢
   cases a9
   ·have H := aQ z H
    refine aa [.fa 44 1 1 lN] z <| o1 z (r1 1 0 z lr z) <| bE H fun c8 b0 H => oq z (qc z JL (fun d c => lj d b0 (ab M d c))) tt2 <| oP z <| oP z <| ?_
    obtain rfl := ak H
    exact OW.sub key (sb z)
   ·have H := aR z H
    refine aa [.p, .p, .p, .p, .p] z ?_
    obtain rfl := ak H
    exact OW.sub key (sb z)
 ·clear H
  have H := o
  clear o
  generalize (!P) = b1 at H key ⊢
  cases b1
  ·have H := aQ z H
   refine aa [.fa 44 1 1 lN] z <| o1 z (r1 1 0 z lr z) <| aa [.lenS 23 9 gm] z <| bE H fun c9 b2 H => oq z (qc z gy (fun d c => be d b2)) tt2 <| oP z <| oP z <| ?_
   obtain rfl := ak H
   exact OW.sub key (sb z)
  ·have H := aR z H
   refine aa [.p, .p, .p, .p, .p, .p] z ?_
   obtain rfl := ak H
   exact OW.sub key (sb z)
theorem tV (w : World) {p0 : cO} {r : Bool} (H : nE p0 = U r)   :
    Calls Tryz.prog 131 #[.agg #[I J p0.L_, I J p0.K_, I J p0.M_, I J p0.f_, I J p0.b_, I J p0.G_, B p0.P_]] w (fun en w' => en = .returned (B r) ∧ Ext [] w w') := by
 unfold nE at H
 refine aq Tryz.func131 z Tryz.ntmps131 z (St.init w []) <| sR <| ob _ z fun a => oP z <| nR <| aa [.fa 45 0 0 vt] z <| o1 z (r1 0 0 z ty3 z) <| bE H fun o q H => oq z (qc z gy (fun c d => be c q)) tt2 <| oP z <| bE H fun e f H => aL [(10, B e), (1, O (U ⟨a, 0, N⟩)), (2, B n)] 4 ?_ (fun key => OW.sub (R := [(1, O (U ⟨a, 0, N⟩)), (2, B n), (6, B o)]) ?_ (sb z))
 ·refine oP z <| bE H fun g h H => aL [(15, B g), (1, O (U ⟨a, 0, N⟩)), (2, B n)] 4 ?_ (fun key => OW.sub (R := [(1, O (U ⟨a, 0, N⟩)), (2, B n), (11, B e)]) ?_ (sb z))
  ·refine oP z <| bE H fun i j H => aL [(20, B i), (1, O (U ⟨a, 0, N⟩)), (2, B n)] 4 ?_ (fun key => OW.sub (R := [(1, O (U ⟨a, 0, N⟩)), (2, B n), (16, B g)]) ?_ (sb z))
   ·refine oP z <| bE H fun k l H => aL [(25, B k), (1, O (U ⟨a, 0, N⟩)), (2, B n)] 4 ?_ (fun key => OW.sub (R := [(1, O (U ⟨a, 0, N⟩)), (2, B n), (21, B i)]) ?_ (sb z))
    ·refine oP z <| bE H fun s m H => aL [(30, B s), (2, B n)] 4 ?_ (fun key => OW.sub (R := [(1, O (U ⟨a, 0, N⟩)), (2, B n), (26, B k)]) ?_ (sb z))
     ·exact oP z <| nT <| xr 2 z (by cases H; exact q1)
     ·clear H
      have H := m
      clear m
      generalize k = t at H key ⊢
      cases t
      ·have H := aQ z H
       refine aa [.p, .p, .p, .p] z ?_
       obtain rfl := ak H
       exact OW.sub key (sb z)
      ·have H := aR z H
       refine aa [.fa 45 5 5 tl] z <| o1 z (r1 5 0 z ty3 z) <| bE H fun L u H => oq z (qc z gy (fun c d => be c u)) tt2 <| oP z <| ?_
       obtain rfl := ak H
       exact OW.sub key (sb z)
    ·clear H
     have H := l
     clear l
     generalize i = v at H key ⊢
     cases v
     ·have H := aQ z H
      refine aa [.p, .p, .p, .p] z ?_
      obtain rfl := ak H
      exact OW.sub key (sb z)
     ·have H := aR z H
      refine aa [.fa 45 4 4 tx] z <| o1 z (r1 4 0 z ty3 z) <| bE H fun M x H => oq z (qc z gy (fun c d => be c x)) tt2 <| oP z <| ?_
      obtain rfl := ak H
      exact OW.sub key (sb z)
   ·clear H
    have H := j
    clear j
    generalize g = A at H key ⊢
    cases A
    ·have H := aQ z H
     refine aa [.p, .p, .p, .p] z ?_
     obtain rfl := ak H
     exact OW.sub key (sb z)
    ·have H := aR z H
     refine aa [.fa 45 3 3 tu] z <| o1 z (r1 3 0 z ty3 z) <| bE H fun P C H => oq z (qc z gy (fun c d => be c C)) tt2 <| oP z <| ?_
     obtain rfl := ak H
     exact OW.sub key (sb z)
  ·clear H
   have H := h
   clear h
   generalize e = D at H key ⊢
   cases D
   ·have H := aQ z H
    refine aa [.p, .p, .p, .p] z ?_
    obtain rfl := ak H
    exact OW.sub key (sb z)
   ·have H := aR z H
    refine aa [.fa 45 2 2 vw] z <| o1 z (r1 2 0 z ty3 z) <| bE H fun Q E H => oq z (qc z gy (fun c d => be c E)) tt2 <| oP z <| ?_
    obtain rfl := ak H
    exact OW.sub key (sb z)
 ·clear H
  have H := f
  clear f
  generalize o = F at H key ⊢
  cases F
  ·have H := aQ z H
   refine aa [.p, .p, .p, .p] z ?_
   obtain rfl := ak H
   exact OW.sub key (sb z)
  ·have H := aR z H
   refine aa [.fa 45 1 1 vE] z <| o1 z (r1 1 0 z ty3 z) <| bE H fun T G H => oq z (qc z gy (fun c d => be c G)) tt2 <| oP z <| ?_
   obtain rfl := ak H
   exact OW.sub key (sb z)
theorem vZ (w : World) {f : List Nat} {p0 : Int} {r : (List Int) × Bool} (H : kE p0 = U r) (HS : St w f [] w) :
    Calls Tryz.prog 132 #[I J p0] w (fun en w' => ∃ v, en = .returned v ∧ ∃ (d : Option Addr), ∃ (g : Nat), ∃ (c0 : Nat), ∃ (i : List Nat), v = S d g c0 ∧ d.isNone = r.2 ∧ St w f [W (ae eI 3) i r.1 [S d g c0]] w') := by
 unfold kE at H
 refine aq Tryz.func132 z Tryz.ntmps132 z (HS) <| sR <| oP z <| nQ <| ai <| sR <| oP z <| nQ <| an <| sR <| oPP z <| nQ <| cI H z (fun H => ?_) (fun H => ?_)
 ·exact sR <| dm (val := I J) (h1 := fun _ => z) [24109, 48218, 60273, 64291, 65296, 65497, 65530] [(0, [I J 24109]), (1, [I J 48218]), (2, [I J 60273]), (3, [I J 64291]), (4, [I J 65296]), (5, [I J 65497]), (6, [I J 65530])] z z z z z ce ty3 z z z ⟨z, z, nl z, z, z, nl z, z, z, nl z, z, z, nl z, z, z, nl z, z, z, nl z, z, z, nl z, Y⟩ z z (fun _ => kp) fun a => oP z <| nT <| ar <| af <| ca (rs := [.tmp 2]) (vs := [S (U ⟨a, 0, N⟩) (([24109, 48218, 60273, 64291, 65296, 65497, 65530] : List Int).length) 7]) z ⟨z, Y⟩ (fun w' hw' => by
   obtain rfl := ak H
   exact ⟨_, z, (U ⟨a, 0, N⟩), (([24109, 48218, 60273, 64291, 65296, 65497, 65530] : List Int).length), 7, [a], z, z, hw'.sel [0] z z⟩)
 ·refine sR <| oPP z <| nQ <| cI H z (fun H => ?_) (fun H => ?_)
  ·exact sR <| dm (val := I J) (h1 := fun _ => z) [162, 1137, 4061, 9909, 18681, 29208, 39734] [(0, [I J 162]), (1, [I J 1137]), (2, [I J 4061]), (3, [I J 9909]), (4, [I J 18681]), (5, [I J 29208]), (6, [I J 39734])] z z z z z ce ty3 z z z ⟨z, z, nl z, z, z, nl z, z, z, nl z, z, z, nl z, z, z, nl z, z, z, nl z, z, z, nl z, Y⟩ z z (fun _ => kp) fun c => oP z <| nT <| ar <| af <| ca (rs := [.tmp 2]) (vs := [S (U ⟨c, 0, N⟩) (([162, 1137, 4061, 9909, 18681, 29208, 39734] : List Int).length) 7]) z ⟨z, Y⟩ (fun w' hw' => by
    obtain rfl := ak H
    exact ⟨_, z, (U ⟨c, 0, N⟩), (([162, 1137, 4061, 9909, 18681, 29208, 39734] : List Int).length), 7, [c], z, z, hw'.sel [0] z z⟩)
  ·exact aj <| cx <| ao <| sR <| oP z <| nT <| ml (fun _ h => St.pushNil (e := eI) (T := 3) h) <| ca (rs := [.tmp 2]) (vs := [S N 0 0]) z ⟨z, Y⟩ (fun w' hw' => by
    obtain rfl := ak H
    exact ⟨_, z, N, 0, 0, [], z, z, hw'.sel [0] z z⟩)
theorem ut (w : World) {p0 : bi} {v : List Value} {r : Bool} (H : nq p0 = U r) (g0 : (dL).rd w [] p0 v) :
    Calls Tryz.prog 97 #[.agg v.toArray] w (fun en w' => en = .returned (B r) ∧ Ext [] w w') := by
 obtain ⟨b2, b3, b4, b5, b6, b7, b8, rfl, F, G, L, M, P, Q, T⟩ := cP g0
 obtain ⟨b9, c0, rfl, x, A⟩ := aO F
 obtain ⟨c1, c2, rfl⟩ := ah x
 obtain ⟨c3, c4, rfl⟩ := ah A
 obtain rfl := G
 obtain rfl := L
 obtain rfl := M
 obtain rfl := P
 obtain rfl := Q
 obtain rfl := T
 unfold nq at H
 refine aq Tryz.func97 z Tryz.ntmps97 z (St.init w []) <| sR <| ob _ z fun a => oP z <| nR <| aa [.fa 47 0 0 mr] z <| o1 z (rx 0 0 _ z ja z) <| bE H fun C V H => oq z (qc z HZ (fun d c => iG d V (av (ab x d c) (ab A d c)))) tt2 <| oP z <| bE H fun f g H => aL [(10, B f), (1, O (U ⟨a, 0, N⟩)), (2, B n)] 4 ?_ (fun key => OW.sub (R := [(1, O (U ⟨a, 0, N⟩)), (2, B n), (6, B C)]) ?_ (sb z))
 ·refine oP z <| bE H fun h j H => aL [(15, B h), (1, O (U ⟨a, 0, N⟩)), (2, B n)] 4 ?_ (fun key => OW.sub (R := [(1, O (U ⟨a, 0, N⟩)), (2, B n), (11, B f)]) ?_ (sb z))
  ·refine oP z <| bE H fun k l H => aL [(24, B k), (1, O (U ⟨a, 0, N⟩)), (2, B n)] 8 ?_ (fun key => OW.sub (R := [(1, O (U ⟨a, 0, N⟩)), (2, B n), (16, B h)]) ?_ (sb z))
   ·refine oP z <| bE H fun m o H => aL [(30, B m), (1, O (U ⟨a, 0, N⟩)), (2, B n)] 5 ?_ (fun key => OW.sub (R := [(1, O (U ⟨a, 0, N⟩)), (2, B n), (25, B k)]) ?_ (sb z))
    ·refine oP z <| bE H fun q s H => aL [(35, B q), (1, O (U ⟨a, 0, N⟩)), (2, B n)] 4 ?_ (fun key => OW.sub (R := [(1, O (U ⟨a, 0, N⟩)), (2, B n), (31, B m)]) ?_ (sb z))
     ·refine oP z <| bE H fun e t H => aL [(40, B e), (1, O (U ⟨a, 0, N⟩)), (2, B n)] 4 ?_ (fun key => OW.sub (R := [(1, O (U ⟨a, 0, N⟩)), (2, B n), (36, B q)]) ?_ (sb z))
      ·refine oP z <| aL [(47, B (e && (decide (p0.s_ ≤ p0.t_)))), (2, B n)] 6 ?_ (fun key => OW.sub (R := [(1, O (U ⟨a, 0, N⟩)), (2, B n), (41, B e)]) ?_ (sb z))
       ·exact oP z <| nT <| xr 2 z (by cases H; exact q1)
       ·generalize e = X at key ⊢
        cases X
        ·exact aa [.p, .p, .p, .p, .p, .p] z <| OW.sub key (sb z)
        ·exact aa [.fa 47 5 12 tr] z <| o1 z (r1 12 0 z ty3 z) <| aa [.fa 47 6 13 sP] z <| o1 z (r1 13 0 z ty3 z) <| oP z <| oP z <| OW.sub key (sb z)
      ·clear H
       have H := t
       clear t
       generalize q = Z at H key ⊢
       cases Z
       ·have H := aQ z H
        refine aa [.p, .p, .p, .p] z ?_
        obtain rfl := ak H
        exact OW.sub key (sb z)
       ·have H := aR z H
        refine aa [.fa 47 6 13 sP] z <| o1 z (r1 13 0 z ty3 z) <| bE H fun c5 a0 H => oq z (qc z gy (fun d c => be d a0)) tt2 <| oP z <| ?_
        obtain rfl := ak H
        exact OW.sub key (sb z)
     ·clear H
      have H := s
      clear s
      generalize m = a1 at H key ⊢
      cases a1
      ·have H := aQ z H
       refine aa [.p, .p, .p, .p] z ?_
       obtain rfl := ak H
       exact OW.sub key (sb z)
      ·have H := aR z H
       refine aa [.fa 47 5 12 tr] z <| o1 z (r1 12 0 z ty3 z) <| bE H fun c6 a2 H => oq z (qc z gy (fun d c => be d a2)) tt2 <| oP z <| ?_
       obtain rfl := ak H
       exact OW.sub key (sb z)
    ·clear H
     have H := o
     clear o
     generalize k = a3 at H key ⊢
     cases a3
     ·have H := aQ z H
      refine aa [.p, .p, .p, .p, .p] z ?_
      obtain rfl := ak H
      exact OW.sub key (sb z)
     ·have H := aR z H
      refine aa [.fa 47 4 11 vR] z <| o1 z (r1 11 0 z ty3 z) <| bE H fun c7 a4 H => aC z Nz z z z z (fun d c => vZ d a4 (c.carve [] z z)) fun c8 d w2 c D => ?_
      obtain ⟨c9, d0, d1, d2, rfl, E, u⟩ := D
      obtain rfl := aI (i := 0) u z
      refine ⟨St w [] [_, _], c.comp [] z z u, fun _ _ => Y, ?_⟩
      refine o1 z (Ix z z ce E) <| mo z (C' := St w [] [_]) (ss [0] z z) <| oP z <| ?_
      obtain rfl := ak H
      exact OW.sub key (sb z)
   ·clear H
    have H := l
    clear l
    generalize h = a5 at H key ⊢
    cases a5
    ·have H := aQ z H
     refine aa [.p, .p, .p, .p, .p, .p, .p, .p] z ?_
     obtain rfl := ak H
     exact OW.sub key (sb z)
    ·have H := aR z H
     refine aa [.fa 47 3 10 vJ] z <| o1 z (r1 10 0 z ty3 z) <| aa [.fa 47 0 0 mr, .fa 44 0 0 fS] z <| o1 z (r1 0 0 z nP z) <| aa [.lenS 42 111 kr] z <| bE H fun d3 a6 H => oq z (qc z gy (fun d c => be d a6)) tt2 <| oP z <| ?_
     obtain rfl := ak H
     exact OW.sub key (sb z)
  ·clear H
   have H := j
   clear j
   generalize f = a7 at H key ⊢
   cases a7
   ·have H := aQ z H
    refine aa [.p, .p, .p, .p] z ?_
    obtain rfl := ak H
    exact OW.sub key (sb z)
   ·have H := aR z H
    refine aa [.fa 47 2 9 ta] z <| o1 z (r1 9 0 z ty3 z) <| bE H fun d4 a8 H => oq z (qc z gy (fun d c => be d a8)) tt2 <| oP z <| ?_
    obtain rfl := ak H
    exact OW.sub key (sb z)
 ·clear H
  have H := g
  clear g
  generalize C = a9 at H key ⊢
  cases a9
  ·have H := aQ z H
   refine aa [.p, .p, .p, .p] z ?_
   obtain rfl := ak H
   exact OW.sub key (sb z)
  ·have H := aR z H
   refine aa [.fa 47 1 2 ru] z <| o1 z (rx 2 0 _ z ry z) <| bE H fun d5 b0 H => oq z (qc z Lo (fun d c => tV d (p0 := p0.c_) b0)) tt2 <| oP z <| ?_
   obtain rfl := ak H
   exact OW.sub key (sb z)
theorem wy (w : World) {p0 : Int} {r : Bool} (H : oQ p0 = U r)   :
    Calls Tryz.prog 215 #[I J p0] w (fun en w' => en = .returned (B r) ∧ Ext [] w w') := by
 unfold oQ at H
 exact aq Tryz.func215 z Tryz.ntmps215 z (St.init w []) <| sR <| oP z <| nR <| oP z <| bE H fun d a H => oq z (qc z gy (fun c e => be c a)) tt2 <| oPP z <| nT <| xr 2 z (by cases H; exact q1)
theorem iL (w : World) {p0 : List Int} {a_0 : Option Addr} {n_0 c_0 : Nat} {r : Int} (H : cG p0 = U r) (d : (ae eI 3).rd w [] p0 [S a_0 n_0 c_0]) :
    Calls Tryz.prog 137 #[S a_0 n_0 c_0, .func (.func 215) #[] #[]] w (fun en w' => en = .returned (I J r) ∧ Ext [] w w') := by
 obtain rfl := eb d
 unfold cG at H
 refine aq Tryz.func137 z Tryz.ntmps137 z (St.init w []) <| sR <| oP z <| nQ <| ai <| sR <| aa [.p, .lenS 69 3 ce, .p] z <| nQ <| an <| CW.at (dn (fun (a : Int) => St w [] []) (fun a => [(0, S a_0 p0.length c_0), (1, .func (.func 215) #[] #[]), (7, I J (p0.length : Int)), (8, I J a)]) (fun kk => fun a => bv p0 kk a = U r) (fun _ H => ?_) (fun m f a H => ?_) aK (0) (H)) (ss [] z z) (sb z)
 ·unfold bv at H
  exact absurd H (by simp)
 ·unfold bv at H
  refine sR <| oP z <| nQ <| ai <| cI H z (fun H => ?_) (fun H => ?_)
  ·refine aj <| ao <| ai <| an <| sR <| oPP z <| nR <| aa [.p, .p, .p] z <| bE H fun i c H => bO (e := eI) (xs := p0) (j := a) z z z z z ce ty3 z (ab d) c (by rw [Nat.mul_one]) <| o1 z (aF z z ty3 (cq (ab d) c)) <| bE H fun k g H => CF z z (bU z) (pB (cap := []) z OT z z (fun h l => wy h g)) (fun _ _ => Y) <| nQ <| cI H z (fun H => ?_) (fun H => ?_)
   ·exact sR <| oPP z <| nT <| ar <| af <| bd <| ar <| af <| xr 4 z (by cases H; exact q1)
   ·exact aj <| cx <| ao <| aJ <| oPP z <| aE <| cz (RW.at (f (J.wrap (a + 1)) (H)) (ss [] z z) (sb z))
  ·exact bb <| aw <| ay <| ax <| ao <| sR <| oP z <| nT <| xr 4 z (by cases H; exact q1)
theorem ip (w : World) {p0 : List Int} {a_0 : Option Addr} {n_0 c_0 : Nat} {r : Bool} (H : bZ p0 = U r) (a : (ae eI 3).rd w [] p0 [S a_0 n_0 c_0]) :
    Calls Tryz.prog 102 #[S a_0 n_0 c_0, .func (.func 215) #[] #[]] w (fun en w' => en = .returned (B r) ∧ Ext [] w w') := by
 obtain rfl := eb a
 unfold bZ at H
 exact aq Tryz.func102 z Tryz.ntmps102 z (St.init w []) <| sR <| oP z <| nR <| oPP z <| bE H fun f c H => oq z (qc z Er (fun d e => iL d c (ab a d e))) tt2 <| oPP z <| nT <| xr 4 z (by cases H; exact q1)
theorem tA (w : World) {p0 : List Int} {p1 : Int} {a_0 : Option Addr} {n_0 c_0 : Nat} {r : Bool} (H : lU p0 p1 = U r) (c : (ae eI 3).rd w [] p0 [S a_0 n_0 c_0]) :
    Calls Tryz.prog 205 #[S a_0 n_0 c_0, I J p1] w (fun en w' => en = .returned (B r) ∧ Ext [] w w') := by
 obtain rfl := eb c
 unfold lU at H
 refine aq Tryz.func205 z Tryz.ntmps205 z (St.init w []) <| sR <| oP z <| nR <| aa [.p, .lenS 69 3 ce, .p, .p, .p] z <| bE H fun d a H => aL [(13, B d), (4, B n)] 4 ?_ (fun key => OW.sub (R := [(0, S a_0 p0.length c_0), (4, B n), (9, B ((p0.length : Int) == p1))]) ?_ (sb z))
 ·exact oP z <| nT <| xr 4 z (by cases H; exact q1)
 ·clear H
  have H := a
  clear a
  generalize ((p0.length : Int) == p1) = e at H key ⊢
  cases e
  ·have H := aQ z H
   refine aa [.p, .p, .p, .p] z ?_
   obtain rfl := ak H
   exact OW.sub key (sb z)
  ·have H := aR z H
   refine oP z <| bE H fun i f H => oq z (qc z EB (fun g h => ip g f (ab c g h))) tt2 <| oP z <| oP z <| ?_
   obtain rfl := ak H
   exact OW.sub key (sb z)
theorem rZ (w : World) {p0 : List Int} {a_0 : Option Addr} {n_0 c_0 : Nat} {r : Int} (H : kC p0 = U r) (f : (ae eI 3).rd w [] p0 [S a_0 n_0 c_0]) :
    Calls Tryz.prog 138 #[S a_0 n_0 c_0] w (fun en w' => en = .returned (I J r) ∧ Ext [] w w') := by
 obtain rfl := eb f
 unfold kC at H
 refine aq Tryz.func138 z Tryz.ntmps138 z (St.init w []) <| sR <| oP z <| nR <| oP z <| nQ <| ai <| sR <| aa [.p, .lenS 69 3 ce, .p] z <| nQ <| an <| CW.at (fx (fun (c : Int) (a : Int) => St w [] []) (fun c a => [(3, I J c), (6, S a_0 p0.length c_0), (7, I J (p0.length : Int)), (8, I J a)]) (fun kk => fun c a => eV p0 kk c a = U r) (fun _ _ H => ?_) (fun i g c a H => ?_) aK (0) (0) (H)) (ss [] z z) (sb z)
 ·unfold eV at H
  exact absurd H (by simp)
 ·unfold eV at H
  refine sR <| oP z <| nQ <| ai <| cI H z (fun H => ?_) (fun H => ?_)
  ·exact aj <| ao <| ai <| an <| sR <| bE H fun h d H => bO (e := eI) (xs := p0) (j := a) z z z z z ce ty3 z (ab f) d (by rw [Nat.mul_one]) <| o1 z (aF z z ty3 (cq (ab f) d)) <| oP z <| nQ <| aJ <| aa [.p, .p, .p, .p] z <| aE <| cx <| ao <| aJ <| oPP z <| aE <| cz (RW.at (g (J.wrap (c + h)) (J.wrap (a + 1)) (H)) (ss [] z z) (sb z))
  ·exact bb <| aw <| ay <| ax <| ao <| sR <| oPP z <| nT <| xr 2 z (by cases H; exact q1)
theorem tw (w : World) {p0 : aB} {a : List Value} {r : Int} (H : mh p0 = U r) (f : (bj).rd w [] p0 a) :
    Calls Tryz.prog 206 #[.agg a.toArray] w (fun en w' => en = .returned (I J r) ∧ Ext [] w w') := by
 obtain ⟨g, h, i, rfl, c, d, e⟩ := bV f
 obtain rfl := c
 obtain ⟨j, k, rfl⟩ := ah d
 obtain ⟨l, m, rfl⟩ := ah e
 unfold mh at H
 refine aq Tryz.func206 z Tryz.ntmps206 z (St.init w []) <| sR <| ob _ z fun o => oP z <| nQ <| ai <| sR <| aa [.fa 111 1 1 gn] z <| o1 z (r1 1 0 z bW z) <| aa [.lenS 69 3 ce, .p] z <| nQ <| cI H z (fun H => ?_) (fun H => ?_)
 ·exact sR <| aa [.fa 111 1 1 gn] z <| o1 z (r1 1 0 z bW z) <| aa [.lenS 69 3 ce, .p, .p] z <| nT <| af <| xr 2 z (by cases H; exact q1)
 ·exact aj <| ao <| sR <| aa [.fa 111 2 2 ks] z <| o1 z (r1 2 0 z lr z) <| aa [.lenS 23 9 gm, .p] z <| nT <| xr 2 z (by cases H; exact q1)
theorem Bz (w : World) {d : List Nat} {p0 : Int} {r : List Int} (H : sW p0 = U r) (HS : St w d [] w) :
    Calls Tryz.prog 207 #[I J p0] w (fun en w' => ∃ v, en = .returned v ∧ ∃ (f : Option Addr), ∃ (g : Nat), ∃ (c0 : Nat), ∃ (i : List Nat), v = S f g c0 ∧ St w d [W (ae eI 3) i r [S f g c0]] w') := by
 unfold sW at H
 exact aq Tryz.func207 z Tryz.ntmps207 z (HS) <| sR <| oP z <| nR <| oP z <| bE H fun a h H => rP (e := eI) (zero := (0 : Int)) z z z z z z ce ty3 z z z z (fun _ => ⟨z, z⟩) h (fun _ => kp) fun c => oP z <| nT <| ca (rs := [.tmp 2]) (vs := [S (U ⟨c, 0, N⟩) a.length a.length]) z ⟨z, Y⟩ (fun w' hw' => by
  obtain rfl := ak H
  exact ⟨_, z, (U ⟨c, 0, N⟩), a.length, a.length, [c], z, hw'.sel [0] z z⟩)
theorem yK (w : World) {p0 : am} {p1 : aV} {a5 : List Value} {a6 : List Value} {r : Bool} (H : oH p0 p1 = U r) (g0 : (bK).rd w [] p0 a5) (g1 : (cL).rd w [] p1 a6) :
    Calls Tryz.prog 195 #[.agg a5.toArray, .agg a6.toArray] w (fun en w' => en = .returned (B r) ∧ Ext [] w w') := by
 obtain ⟨g2, g3, rfl, A, a7⟩ := aO g0
 obtain ⟨a8, a9, rfl⟩ := ah A
 obtain ⟨b0, b1, rfl⟩ := ah a7
 obtain ⟨g4, g5, rfl, q, b2⟩ := aX g1
 obtain ⟨b3, b4, rfl⟩ := ah q
 obtain ⟨u, v, rfl⟩ := ah b2
 unfold oH at H
 refine aq Tryz.func195 z Tryz.ntmps195 z (St.init w []) <| sR <| ob _ z fun h => ob _ z fun k => oP z <| nR <| aa [.fa 44 1 1 lN] z <| o1 z (r1 1 0 z lr z) <| aa [.lenS 23 9 gm, .p] z <| nQ <| ai <| sR <| o1 z (rx 0 0 _ z ja z) <| bE H fun b5 d6 H => oq z (qc z HZ (fun c a => iG c d6 (av (ab A c a) (ab a7 c a)))) tt2 <| oPP z <| bE H fun C D H => aL [(23, B C), (2, O (U ⟨h, 0, N⟩)), (3, O (U ⟨k, 0, N⟩)), (5, I J (p0.m_.length : Int))] 6 ?_ (fun key => OW.sub (R := [(2, O (U ⟨h, 0, N⟩)), (3, O (U ⟨k, 0, N⟩)), (5, I J (p0.m_.length : Int)), (17, B (!b5))]) ?_ (sb z))
 ·refine oP z <| bE H fun d7 E H => aL [(29, B d7), (2, O (U ⟨h, 0, N⟩)), (3, O (U ⟨k, 0, N⟩)), (5, I J (p0.m_.length : Int))] 5 ?_ (fun key => OW.sub (R := [(2, O (U ⟨h, 0, N⟩)), (3, O (U ⟨k, 0, N⟩)), (5, I J (p0.m_.length : Int)), (24, B C)]) ?_ (sb z))
  ·refine nQ <| cI H z (fun H => ?_) (fun H => ?_)
   ·exact sR <| oP z <| nT <| af <| xr 4 z (by cases H; exact q1)
   ·refine aj <| ao <| ai <| sR <| aa [.fa 119 1 1 fm] z <| o1 z (r1 1 1 z fw z) <| aa [.lenS 33 69 eK, .p] z <| nQ <| cI H z (fun H => ?_) (fun H => ?_)
    ·exact sR <| oP z <| nT <| af <| xr 4 z (by cases H; exact q1)
    ·refine aj <| ao <| ai <| sR <| aa [.fa 119 1 1 fm] z <| o1 z (r1 1 1 z fw z) <| aa [.lenS 33 69 eK, .fa 44 0 0 fS] z <| o1 z (r1 0 0 z nP z) <| aa [.lenS 42 111 kr, .p] z <| nQ <| cI H z (fun H => ?_) (fun H => ?_)
     ·exact sR <| oP z <| nT <| af <| xr 4 z (by cases H; exact q1)
     ·refine aj <| ao <| ai <| sR <| aa [.fa 119 1 1 fm] z <| o1 z (r1 1 1 z fw z) <| aa [.lenS 33 69 eK, .p] z <| nQ <| an <| CW.at (dn (fun (f : Int) => St w [] [b h 44 [S a8 p0.d_.length a9, S b0 p0.m_.length b1], b k 119 [S b3 p1.k_.length b4, S u p1.h_.length v]]) (fun f => [(2, O (U ⟨h, 0, N⟩)), (3, O (U ⟨k, 0, N⟩)), (5, I J (p0.m_.length : Int)), (42, S u p1.h_.length v), (43, I J (p1.h_.length : Int)), (44, I J f)]) (fun kk => fun f => de p1 p0 kk f = U r) (fun _ H => ?_) (fun k1 b6 f H => ?_) aK (0) (H)) (ss [0, 1] z z) (sb z)
      ·unfold de at H
       exact absurd H (by simp)
      ·unfold de at H
       refine sR <| oP z <| nQ <| ai <| cI H z (fun H => ?_) (fun H => ?_)
       ·refine aj <| ao <| ai <| an <| sR <| oP z <| bE H fun o b7 H => bQ z z z z z eK bW z b2 b7 fun e5 e6 l a1 => ?_
        obtain ⟨b8, b9, rfl⟩ := ah l
        refine o1 z (aF z z bW (bB bor a1)) <| oPP z <| nQ <| ai <| sR <| aa [.p, .fa 44 0 0 fS] z <| o1 z (r1 0 0 z nP z) <| oP z <| bE H fun s c0 H => bQ z z z z z kr ed z A c0 fun e7 e9 a2 a3 => ?_
        obtain ⟨f0, f1, f2, rfl, c1, F, G⟩ := bV a2
        obtain rfl := c1
        obtain ⟨c2, c3, rfl⟩ := ah F
        obtain ⟨c4, c5, rfl⟩ := ah G
        refine o1 z (cu (cs := [vS s.E_, S c2 s.z_.length c3, S c4 s.I_.length c5]) z z ed (bB bor a3) z) <| bE H fun f3 c6 H => oq z (qc z Jx (fun c a => tw c c6 (cZ z (ab F c a) (ab G c a)))) tt2 <| oPP z <| bE H fun f4 c7 H => oq z (qc z Lw (fun c a => tA c c7 (ab l c a))) tt2 <| oP z <| nQ <| cI H z (fun H => ?_) (fun H => ?_)
        ·exact sR <| oP z <| nT <| af <| ar <| af <| bd <| ar <| af <| xr 4 z (by cases H; exact q1)
        ·refine aj <| ao <| sR <| oP z <| bE H fun t c8 H => aC z Ox z z z z (fun c a => Bz c c8 (a.carve [] z z)) fun f5 c w2 a a4 => ?_
         obtain ⟨L, f6, M, c9, rfl, x⟩ := a4
         obtain rfl := aI (i := 0) x z
         refine ⟨St w [] [_, _, _], a.comp [] z z x, fun _ _ => Y, ?_⟩
         refine oP z <| nR <| aa [.p, .lenS 69 3 ce, .p] z <| nQ <| an <| CW.at (fx (fun (g : Int) (d : List Int) => St w [] [b h 44 [S a8 p0.d_.length a9, S b0 p0.m_.length b1], b k 119 [S b3 p1.k_.length b4, S u p1.h_.length v], W (ae eI 3) c9 d [S L t.length M]]) (fun g d => [(2, O (U ⟨h, 0, N⟩)), (3, O (U ⟨k, 0, N⟩)), (5, I J (p0.m_.length : Int)), (8, S L t.length M), (42, S u p1.h_.length v), (43, I J (p1.h_.length : Int)), (44, I J f), (62, S b8 o.length b9), (63, I J (o.length : Int)), (64, I J g)]) (fun kk => fun g d => dp o p0 p1 (de p1 p0 k1) f kk g d = U r) (fun _ _ H => ?_) (fun k2 d0 g d H => ?_) aK (0) (t) (H)) (ss [0, 1, 2] z z) (sb z)
         ·unfold dp at H
          exact absurd H (by simp)
         ·unfold dp at H
          refine sR <| oP z <| nQ <| ai <| cI H z (fun H => ?_) (fun H => ?_)
          ·refine aj <| ao <| ai <| an <| sR <| oP z <| bE H fun P Q H => bO (e := eI) (xs := o) (j := g) z z z z z ce ty3 z (ab l) Q (by rw [Nat.mul_one]) <| o1 z (aF z z ty3 (cq (ab l) Q)) <| oPP z <| nR <| aa [.p, .p, .p] z <| bE H fun m d1 H => o1 z (Gb z z z d1) <| bE H fun T V H => bO (e := eI) (xs := d) (j := m) z z z z z ce ty3 z (aY (e := ae eI 3) (r := 2) z) V (by rw [Nat.mul_one]) <| o1 z (aF z z ty3 (cq (aY (e := ae eI 3) (r := 2) z) V)) <| oPP z <| bE H fun f7 X H => bO (e := eI) (xs := d) (j := m) z z z z z ce ty3 z (aY (e := ae eI 3) (r := 2) z) X (by rw [Nat.mul_one]) <| qI (i := 2) (j := m) z z z z z z ty3 z X (fun _ => z) kp <| nQ <| ai <| eF eR (by kernel_rfl) <| aa [.p, .p, .p] z <| bE H fun d2 d3 H => o1 z (Gb z z z d3) <| bE H fun f8 Z H => bO (e := eI) (xs := (d.set m.toNat (J.wrap (T + P)))) (j := d2) z z z z z ce ty3 z (aY (e := ae eI 3) (r := 2) z) Z (by rw [Nat.mul_one]) <| o1 z (aF z z ty3 (cq (aY (e := ae eI 3) (r := 2) z) Z)) <| aa [.fa 119 0 0 gS] z <| o1 z (r1 0 1 z bW z) <| oPP z <| bE H fun d4 d5 H => o1 z (Gb z z z d5) <| ?_
           refine bE H fun f9 a0 H => bO (e := eI) (xs := p1.k_) (j := d4) z z z z z ce ty3 z (ab q) a0 (by rw [Nat.mul_one]) <| o1 z (aF z z ty3 (cq (ab q) a0)) <| oP z <| dg <| ao <| cI H z (fun H => ?_) (fun H => ?_)
           ·exact sR <| oP z <| nT <| ar <| af <| bd <| ar <| ar <| af <| bd <| ar <| af <| xr 4 z (by cases H; exact q1)
           ·exact aj <| cx <| ao <| aJ <| oPP z <| aE <| cz (RW.at (d0 (J.wrap (g + 1)) ((d.set m.toNat (J.wrap (T + P)))) (H)) (ss [0, 1, 2] z z) (sb z))
          ·exact bb <| aw <| ay <| ax <| cx <| ao <| aJ <| oPP z <| aE <| cz (RW.at (b6 (J.wrap (f + 1)) (H)) (ss [0, 1] z z) (sb z))
       ·exact bb <| aw <| ay <| ax <| ao <| sR <| oP z <| nT <| xr 4 z (by cases H; exact q1)
  ·clear H
   have H := E
   clear E
   generalize C = d8 at H key ⊢
   cases d8
   ·have H := aQ z H
    refine aa [.fa 119 0 0 gS] z <| o1 z (r1 0 1 z bW z) <| bE H fun g6 d9 H => oq z (qc z JE (fun c a => rZ c d9 (ab q c a))) tt2 <| oP z <| oP z <| ?_
    obtain rfl := ak H
    exact OW.sub key (sb z)
   ·have H := aR z H
    refine aa [.p, .p, .p, .p, .p] z ?_
    obtain rfl := ak H
    exact OW.sub key (sb z)
 ·clear H
  have H := D
  clear D
  generalize (!b5) = e0 at H key ⊢
  cases e0
  ·have H := aQ z H
   refine aa [.fa 119 0 0 gS] z <| o1 z (r1 0 1 z bW z) <| oP z <| bE H fun g7 e1 H => oq z (qc z Lw (fun c a => tA c e1 (ab q c a))) tt2 <| oP z <| oP z <| ?_
   obtain rfl := ak H
   exact OW.sub key (sb z)
  ·have H := aR z H
   refine aa [.p, .p, .p, .p, .p, .p] z ?_
   obtain rfl := ak H
   exact OW.sub key (sb z)
theorem yF (w : World) {p0 : am} {p1 : List Int} {o : List Value} {a_1 : Option Addr} {n_1 c_1 : Nat} {r : Bool} (H : nW p0 p1 = U r) (G : (bK).rd w [] p0 o) (f : (ae eI 3).rd w [] p1 [S a_1 n_1 c_1]) :
    Calls Tryz.prog 196 #[.agg o.toArray, S a_1 n_1 c_1] w (fun en w' => en = .returned (B r) ∧ Ext [] w w') := by
 obtain ⟨L, M, rfl, q, s⟩ := aO G
 obtain ⟨P, Q, rfl⟩ := ah q
 obtain ⟨T, V, rfl⟩ := ah s
 obtain rfl := eb f
 unfold nW at H
 refine aq Tryz.func196 z Tryz.ntmps196 z (St.init w []) <| sR <| ob _ z fun a => oP z <| nQ <| ai <| eF eR (by kernel_rfl) <| o1 z (rx 0 0 _ z ja z) <| bE H fun c v H => oq z (qc z HZ (fun g d => iG g v (av (ab q g d) (ab s g d)))) tt2 <| oP z <| aL [(11, B (c && (decide ((p1.length : Int) > 0)))), (1, S a_1 p1.length c_1), (2, O (U ⟨a, 0, N⟩)), (4, B n)] 4 ?_ (fun key => OW.sub (R := [(1, S a_1 p1.length c_1), (2, O (U ⟨a, 0, N⟩)), (4, B n), (7, B c)]) ?_ (sb z))
 ·refine oP z <| bE H fun h i H => aL [(15, B h), (1, S a_1 p1.length c_1), (2, O (U ⟨a, 0, N⟩)), (4, B n)] 3 ?_ (fun key => OW.sub (R := [(1, S a_1 p1.length c_1), (2, O (U ⟨a, 0, N⟩)), (4, B n), (12, B (c && (decide ((p1.length : Int) > 0))))]) ?_ (sb z))
  ·refine oP z <| bE H fun k l H => aL [(21, B k), (1, S a_1 p1.length c_1), (2, O (U ⟨a, 0, N⟩)), (4, B n)] 5 ?_ (fun key => OW.sub (R := [(1, S a_1 p1.length c_1), (2, O (U ⟨a, 0, N⟩)), (4, B n), (16, B h)]) ?_ (sb z))
   ·refine oP z <| bE H fun x m H => aL [(33, B x), (4, B n)] 11 ?_ (fun key => OW.sub (R := [(1, S a_1 p1.length c_1), (2, O (U ⟨a, 0, N⟩)), (4, B n), (22, B k)]) ?_ (sb z))
    ·exact oP z <| dg <| ao <| rG <| xr 4 z (by cases H; exact q1)
    ·clear H
     have H := m
     clear m
     generalize k = A at H key ⊢
     cases A
     ·have H := aQ z H
      refine aa [.p, .p, .p, .p, .p, .p, .p, .p, .p, .p, .p] z ?_
      obtain rfl := ak H
      exact OW.sub key (sb z)
     ·have H := aR z H
      refine aa [.p, .p, .lenS 69 3 ce, .p] z <| bE H fun X t H => bO (e := eI) (xs := p1) (j := J.wrap ((p1.length : Int) - 1)) z z z z z ce ty3 z (ab f) t (by rw [Nat.mul_one]) <| o1 z (aF z z ty3 (cq (ab f) t)) <| aa [.fa 44 0 0 fS] z <| o1 z (r1 0 0 z nP z) <| aa [.lenS 42 111 kr, .p] z <| oP z <| ?_
      obtain rfl := ak H
      exact OW.sub key (sb z)
   ·clear H
    have H := l
    clear l
    generalize h = C at H key ⊢
    cases C
    ·have H := aQ z H
     refine aa [.p, .p, .p, .p, .p] z ?_
     obtain rfl := ak H
     exact OW.sub key (sb z)
    ·have H := aR z H
     refine oP z <| bE H fun Z u H => bO (e := eI) (xs := p1) (j := 0) z z z z z ce ty3 z (ab f) u (by rw [Nat.mul_one]) <| o1 z (aF z z ty3 (cq (ab f) u)) <| oP z <| oP z <| ?_
     obtain rfl := ak H
     exact OW.sub key (sb z)
  ·clear H
   have H := i
   clear i
   generalize (c && (decide ((p1.length : Int) > 0))) = D at H key ⊢
   cases D
   ·have H := aQ z H
    refine aa [.p, .p, .p] z ?_
    obtain rfl := ak H
    exact OW.sub key (sb z)
   ·have H := aR z H
    refine oP z <| bE H fun a0 E H => oq z (qc z Js (fun g d => og g E (ab f g d))) tt2 <| oP z <| ?_
    obtain rfl := ak H
    exact OW.sub key (sb z)
 ·generalize c = F at key ⊢
  cases F
  ·exact aa [.p, .p, .p, .p] z <| OW.sub key (sb z)
  ·exact aa [.p, .lenS 69 3 ce, .p] z <| oP z <| OW.sub key (sb z)
theorem Aj (w : World) {p0 : am} {p1 : bC} {g : List Value} {r : Bool} (H : pJ p0 p1 = U r) (P : (bK).rd w [] p0 g) :
    Calls Tryz.prog 208 #[.agg g.toArray, .agg #[I J p1.q_, I J p1.u_]] w (fun en w' => en = .returned (B r) ∧ Ext [] w w') := by
 obtain ⟨Q, T, rfl, e, h⟩ := aO P
 obtain ⟨V, X, rfl⟩ := ah e
 obtain ⟨Z, a0, rfl⟩ := ah h
 unfold pJ at H
 refine aq Tryz.func208 z Tryz.ntmps208 z (St.init w []) <| sR <| ob _ z fun i => ob _ z fun j => oP z <| nQ <| ai <| sR <| o1 z (rx 0 0 _ z ja z) <| bE H fun k x H => oq z (qc z HZ (fun a c => iG a x (av (ab e a c) (ab h a c)))) tt2 <| oPP z <| bE H fun A f H => aL [(19, B A), (2, O (U ⟨i, 0, N⟩)), (3, O (U ⟨j, 0, N⟩))] 9 ?_ (fun key => OW.sub (R := [(2, O (U ⟨i, 0, N⟩)), (3, O (U ⟨j, 0, N⟩)), (10, B (!k))]) ?_ (sb z))
 ·refine nQ <| cI H z (fun H => ?_) (fun H => ?_)
  ·exact sR <| oP z <| nT <| af <| xr 4 z (by cases H; exact q1)
  ·refine aj <| ao <| sR <| aa [.fa 44 0 0 fS] z <| o1 z (r1 0 0 z nP z) <| aa [.fa 117 0 0 ky] z <| o1 z (r1 0 1 z ty3 z) <| bE H fun d C H => bQ z z z z z kr ed z e C fun a1 a2 u v => ?_
   obtain ⟨a3, a4, a5, rfl, D, l, m⟩ := bV u
   obtain rfl := D
   obtain ⟨o, q, rfl⟩ := ah l
   obtain ⟨s, t, rfl⟩ := ah m
   refine o1 z (cu (cs := [vS d.E_, S o d.z_.length q, S s d.I_.length t]) z z ed (bB bor v) z) <| bL z z z z ed (fun _ => kp) fun a6 => sC 0 [vS d.E_, S o d.z_.length q, S s d.I_.length t] [_, _, _] 2 z ed z <| nR <| o1 z (rx 0 2 _ z ed z) <| bE H fun a7 E H => oq z (qc z Jx (fun a c => tw a E (cZ z (ab l a c) (ab m a c)))) tt2 <| oPP z <| nQ <| ai <| sR <| aa [.fa 111 1 1 gn] z <| o1 z (r1 1 2 z bW z) <| aa [.lenS 69 3 ce, .p] z <| nQ <| cI H z (fun H => ?_) (fun H => ?_)
   ·exact aJ <| aa [.p, .p, .p] z <| nR <| aa [.fa 117 1 1 mb] z <| o1 z (r1 1 1 z ty3 z) <| oP z <| bE H fun a8 F H => oq z (qc z gy (fun a c => be a F)) tt2 <| oP z <| nT <| xr 4 z (by cases H; exact q1)
   ·exact aj <| ao <| sR <| aa [.fa 117 1 1 mb] z <| o1 z (r1 1 1 z ty3 z) <| oP z <| bE H fun a9 G H => oq z (qc z gy (fun a c => be a G)) tt2 <| oP z <| nT <| xr 4 z (by cases H; exact q1)
 ·clear H
  have H := f
  clear f
  generalize (!k) = L at H key ⊢
  cases L
  ·have H := aQ z H
   refine aa [.fa 117 0 0 ky] z <| o1 z (r1 0 1 z ty3 z) <| aa [.fa 44 0 0 fS] z <| o1 z (r1 0 0 z nP z) <| aa [.lenS 42 111 kr, .p] z <| bE H fun b0 M H => oq z (qc z gy (fun a c => be a M)) tt2 <| oP z <| oP z <| ?_
   obtain rfl := ak H
   exact OW.sub key (sb z)
  ·have H := aR z H
   refine aa [.p, .p, .p, .p, .p, .p, .p, .p, .p] z ?_
   obtain rfl := ak H
   exact OW.sub key (sb z)
theorem xW (w : World) {p0 : am} {p1 : bC} {f : List Value} {r : Int} (H : jK p0 p1 = U r) (v : (bK).rd w [] p0 f) :
    Calls Tryz.prog 197 #[.agg f.toArray, .agg #[I J p1.q_, I J p1.u_]] w (fun en w' => en = .returned (I J r) ∧ Ext [] w w') := by
 obtain ⟨x, A, rfl, d, g⟩ := aO v
 obtain ⟨C, D, rfl⟩ := ah d
 obtain ⟨E, F, rfl⟩ := ah g
 unfold jK at H
 refine aq Tryz.func197 z Tryz.ntmps197 z (St.init w []) <| sR <| ob _ z fun G => ob _ z fun L => oP z <| nQ <| ai <| an <| sR <| o1 z (rx 0 0 _ z ja z) <| o1 z (rx 0 1 _ z oI z) <| bE H fun M l H => oq z (qc z Ou (fun c a => Aj c (p1 := p1) l (av (ab d c a) (ab g c a)))) tt2 <| oPP z <| nQ <| cI H z (fun H => ?_) (fun H => ?_)
 ·exact sR <| oP z <| nT <| ar <| af <| xr 4 z (by cases H; exact q1)
 ·refine sR <| aa [.fa 117 1 1 mb] z <| o1 z (r1 1 1 z ty3 z) <| oPP z <| nQ <| cI H z (fun H => ?_) (fun H => ?_)
  ·refine sR <| aa [.fa 44 0 0 fS] z <| o1 z (r1 0 0 z nP z) <| aa [.fa 117 0 0 ky] z <| o1 z (r1 0 1 z ty3 z) <| bE H fun e m H => bQ z z z z z kr ed z d m fun P Q j k => ?_
   obtain ⟨R, T, V, rfl, o, h, i⟩ := bV j
   obtain rfl := o
   obtain ⟨p, q, rfl⟩ := ah h
   obtain ⟨s, t, rfl⟩ := ah i
   exact o1 z (cu (cs := [vS e.E_, S p e.z_.length q, S s e.I_.length t]) z z ed (bB bor k) z) <| bE H fun X u H => oq z (qc z Jx (fun c a => tw c u (cZ z (ab h c a) (ab i c a)))) tt2 <| oP z <| nT <| ar <| af <| xr 4 z (by cases H; exact q1)
  ·exact aj <| cx <| ao <| sR <| oP z <| nT <| xr 4 z (by cases H; exact q1)
theorem xn (w : World) {p0 : Int} {p1 : Int} {g : ap} {q_1 : Addr} {cs_1 : List Value} {q_2 : Addr} {cs_2 : List Value} {r : Bool} (H : my p0 p1 g = U r) (g_1 : eI.rd w [] p1 cs_1) (hA_1 : At w [] q_1 cs_1) (g_2 : (bp).rd w [] g cs_2) (hA_2 : At w [] q_2 cs_2) :
    Calls Tryz.prog 198 #[I J p0, O (U q_1), O (U q_2)] w (fun en w' => en = .returned (B r) ∧ Ext [] w w') := by
 obtain rfl := g_1
 obtain ⟨G, L, rfl, c, h⟩ := aW g_2
 obtain ⟨M, P, rfl⟩ := ah c
 obtain rfl := h
 unfold my at H
 refine aq Tryz.func198 z Tryz.ntmps198 z (St.init w []) <| sR <| oP z <| nQ <| ai <| eF eR (by kernel_rfl) <| oP z <| o1 z (aF z z ty3 (bB bor hA_1)) <| aa [.p, .fa 73 0 0 eg] z <| o1 z (aF z z kN (bB bor (Aq hA_2 0 1))) <| aa [.lenS 71 121 fT, .p] z <| bE H fun d i H => oq z (qc z gy (fun F Q => be F i)) tt2 <| oPP z <| bE H fun j a H => aL [(23, B j), (4, B n)] 9 ?_ (fun key => OW.sub (R := [(0, I J p0), (1, O (U q_1)), (2, O (U q_2)), (4, B n), (14, B (!d))]) ?_ (sb z))
 ·exact oP z <| dg <| ao <| rG <| xr 4 z (by cases H; exact q1)
 ·clear H
  have H := a
  clear a
  generalize (!d) = k at H key ⊢
  cases k
  ·have H := aQ z H
   refine aa [.fa 73 0 0 eg] z <| o1 z (aF z z kN (bB bor (Aq hA_2 0 1))) <| oP z <| bE H fun T l H => bQ z z z z z fT co z c l fun V X e f => ?_
   obtain ⟨Z, a0, a1, a2, a3, a4, a5, a6, a7, a8, rfl, m, o, q, s, t, u, v, x, A, C⟩ := bA e
   obtain rfl := m
   obtain rfl := o
   obtain ⟨a9, b0, rfl⟩ := ah q
   obtain rfl := s
   obtain ⟨b1, b2, rfl, D, E⟩ := aX t
   obtain ⟨b3, b4, rfl⟩ := ah D
   obtain ⟨b5, b6, rfl⟩ := ah E
   obtain rfl := u
   obtain ⟨b7, b8, rfl⟩ := ah v
   obtain rfl := x
   obtain rfl := A
   obtain rfl := C
   refine aa [.fa 121 8 10 jF] z <| o1 z (aF z z ty3 (bB bor (Aq f 10 1))) <| o1 z (aF z z ty3 (bB bor hA_1)) <| oP z <| oP z <| ?_
   obtain rfl := ak H
   exact OW.sub key (sb z)
  ·have H := aR z H
   refine aa [.p, .p, .p, .p, .p, .p, .p, .p, .p] z ?_
   obtain rfl := ak H
   exact OW.sub key (sb z)
theorem iY (w : World) {p0 : List Int} {p1_0 : Int} {p1_1 : ap} {a_0 : Option Addr} {n_0 c_0 : Nat} {q_1_0 : Addr} {cs_1_0 : List Value} {q_1_1 : Addr} {cs_1_1 : List Value} {r : Int} (H : cM p0 p1_0 p1_1 = U r) (h : (ae eI 3).rd w [] p0 [S a_0 n_0 c_0]) (g_1_0 : eI.rd w [] p1_0 cs_1_0) (hA_1_0 : At w [] q_1_0 cs_1_0) (g_1_1 : (bp).rd w [] p1_1 cs_1_1) (hA_1_1 : At w [] q_1_1 cs_1_1) :
    Calls Tryz.prog 137 #[S a_0 n_0 c_0, .func (.func 198) #[] #[O (U q_1_0), O (U q_1_1)]] w (fun en w' => en = .returned (I J r) ∧ Ext [] w w') := by
 obtain rfl := eb h
 obtain rfl := g_1_0
 obtain ⟨q, s, rfl, f, k⟩ := aW g_1_1
 obtain ⟨l, m, rfl⟩ := ah f
 obtain rfl := k
 unfold cM at H
 refine aq Tryz.func137 z Tryz.ntmps137 z (St.init w []) <| sR <| oP z <| nQ <| ai <| sR <| aa [.p, .lenS 69 3 ce, .p] z <| nQ <| an <| CW.at (dn (fun (a : Int) => St w [] []) (fun a => [(0, S a_0 p0.length c_0), (1, .func (.func 198) #[] #[O (U q_1_0), O (U q_1_1)]), (7, I J (p0.length : Int)), (8, I J a)]) (fun kk => fun a => bx p0 p1_0 p1_1 kk a = U r) (fun _ H => ?_) (fun v i a H => ?_) aK (0) (H)) (ss [] z z) (sb z)
 ·unfold bx at H
  exact absurd H (by simp)
 ·unfold bx at H
  refine sR <| oP z <| nQ <| ai <| cI H z (fun H => ?_) (fun H => ?_)
  ·refine aj <| ao <| ai <| an <| sR <| oPP z <| nR <| aa [.p, .p, .p] z <| bE H fun t g H => bO (e := eI) (xs := p0) (j := a) z z z z z ce ty3 z (ab h) g (by rw [Nat.mul_one]) <| o1 z (aF z z ty3 (cq (ab h) g)) <| bE H fun u o H => CF z z (bU z) (pB (cap := [O (U q_1_0), O (U q_1_1)]) z OJ z z (fun d c => xn d (cs_1 := [I J p1_0]) (cs_2 := [S l p1_1.b_.length m, I J p1_1.A_]) o z (bB bor hA_1_0 d c) (bh (ab f d c) z) (bB bor hA_1_1 d c))) (fun _ _ => Y) <| nQ <| cI H z (fun H => ?_) (fun H => ?_)
   ·exact sR <| oPP z <| nT <| ar <| af <| bd <| ar <| af <| xr 4 z (by cases H; exact q1)
   ·exact aj <| cx <| ao <| aJ <| oPP z <| aE <| cz (RW.at (i (J.wrap (a + 1)) (H)) (ss [] z z) (sb z))
  ·exact bb <| aw <| ay <| ax <| ao <| sR <| oP z <| nT <| xr 4 z (by cases H; exact q1)
theorem iv (w : World) {p0 : List Int} {p1_0 : Int} {p1_1 : ap} {a_0 : Option Addr} {n_0 c_0 : Nat} {q_1_0 : Addr} {cs_1_0 : List Value} {q_1_1 : Addr} {cs_1_1 : List Value} {r : Bool} (H : cb p0 p1_0 p1_1 = U r) (e : (ae eI 3).rd w [] p0 [S a_0 n_0 c_0]) (g_1_0 : eI.rd w [] p1_0 cs_1_0) (hA_1_0 : At w [] q_1_0 cs_1_0) (g_1_1 : (bp).rd w [] p1_1 cs_1_1) (hA_1_1 : At w [] q_1_1 cs_1_1) :
    Calls Tryz.prog 102 #[S a_0 n_0 c_0, .func (.func 198) #[] #[O (U q_1_0), O (U q_1_1)]] w (fun en w' => en = .returned (B r) ∧ Ext [] w w') := by
 obtain rfl := eb e
 obtain rfl := g_1_0
 obtain ⟨j, k, rfl, d, f⟩ := aW g_1_1
 obtain ⟨g, h, rfl⟩ := ah d
 obtain rfl := f
 unfold cb at H
 exact aq Tryz.func102 z Tryz.ntmps102 z (St.init w []) <| sR <| oP z <| nR <| oPP z <| bE H fun l i H => oq z (qc z Er (fun c a => iY c (cs_1_0 := [I J p1_0]) (cs_1_1 := [S g p1_1.b_.length h, I J p1_1.A_]) i (ab e c a) z (bB bor hA_1_0 c a) (bh (ab d c a) z) (bB bor hA_1_1 c a))) tt2 <| oPP z <| nT <| xr 4 z (by cases H; exact q1)
theorem zD (w : World) {p0 : am} {p1 : ap} {p2 : Int} {a1 : List Value} {a2 : List Value} {r : Bool} (H : pz p0 p1 p2 = U r) (g0 : (bK).rd w [] p0 a1) (g1 : (bp).rd w [] p1 a2) :
    Calls Tryz.prog 179 #[.agg a1.toArray, .agg a2.toArray, I J p2] w (fun en w' => en = .returned (B r) ∧ Ext [] w w') := by
 obtain ⟨f2, f3, rfl, m, o⟩ := aO g0
 obtain ⟨f4, f5, rfl⟩ := ah m
 obtain ⟨f6, f7, rfl⟩ := ah o
 obtain ⟨f8, f9, rfl, t, b6⟩ := aW g1
 obtain ⟨b7, b8, rfl⟩ := ah t
 obtain rfl := b6
 unfold pz at H
 refine aq Tryz.func179 z Tryz.ntmps179 z (St.init w []) <| sR <| ob _ z fun l => ob _ z fun f => ob _ z fun g => oP z <| nR <| aa [.fa 73 0 0 eg] z <| o1 z (r1 0 1 z kN z) <| o1 z (r1 0 2 z ty3 z) <| bE H fun a b9 H => bQ z z z z z fT co z t b9 fun g2 g3 a7 a8 => ?_
 obtain ⟨g4, g5, g6, g7, g8, g9, h0, h1, h2, h3, rfl, c0, c1, u, c2, c3, c4, a3, c5, c6, c7⟩ := bA a7
 obtain rfl := c0
 obtain rfl := c1
 obtain ⟨v, x, rfl⟩ := ah u
 obtain rfl := c2
 obtain ⟨h4, h5, rfl, A, a4⟩ := aX c3
 obtain ⟨C, D, rfl⟩ := ah A
 obtain ⟨E, F, rfl⟩ := ah a4
 obtain rfl := c4
 obtain ⟨G, L, rfl⟩ := ah a3
 obtain rfl := c5
 obtain rfl := c6
 obtain rfl := c7
 refine o1 z (cu (cs := [B a.y_, I J a.g_.q_, I J a.g_.u_, S v a.r_.length x, I J a.C_, S C a.i_.k_.length D, S E a.i_.h_.length F, I J a.D_, S G a.d_.length L, I J a.f_, I J a.x_, I J a.B_]) z z co (bB bor a8) z) <| bL z z z z co (fun _ => kp) fun d => sC 0 [B a.y_, I J a.g_.q_, I J a.g_.u_, S v a.r_.length x, I J a.C_, S C a.i_.k_.length D, S E a.i_.h_.length F, I J a.D_, S G a.d_.length L, I J a.f_, I J a.x_, I J a.B_] [_, _, _, _, _, _, _, _, _, _, _, _] 3 z co z <| nQ <| ai <| sR <| aa [.fa 121 7 9 gB] z <| o1 z (r1 9 3 z ty3 z) <| bE H fun a5 c8 H => oq z (qc z gy (fun e c => be e c8)) tt2 <| oPP z <| bE H fun M P H => aL [(26, B M), (3, O (U ⟨l, 0, N⟩)), (4, O (U ⟨f, 0, N⟩)), (5, O (U ⟨g, 0, N⟩)), (7, O (U ⟨d, 0, N⟩))] 7 ?_ (fun key => OW.sub (R := [(3, O (U ⟨l, 0, N⟩)), (4, O (U ⟨f, 0, N⟩)), (5, O (U ⟨g, 0, N⟩)), (7, O (U ⟨d, 0, N⟩)), (19, B (!a5))]) ?_ (sb z))
 ·refine oP z <| bE H fun Q V H => aL [(33, B Q), (3, O (U ⟨l, 0, N⟩)), (4, O (U ⟨f, 0, N⟩)), (5, O (U ⟨g, 0, N⟩)), (7, O (U ⟨d, 0, N⟩))] 6 ?_ (fun key => OW.sub (R := [(3, O (U ⟨l, 0, N⟩)), (4, O (U ⟨f, 0, N⟩)), (5, O (U ⟨g, 0, N⟩)), (7, O (U ⟨d, 0, N⟩)), (27, B M)]) ?_ (sb z))
  ·refine oP z <| bE H fun c9 X H => aL [(40, B c9), (3, O (U ⟨l, 0, N⟩)), (4, O (U ⟨f, 0, N⟩)), (5, O (U ⟨g, 0, N⟩)), (7, O (U ⟨d, 0, N⟩))] 6 ?_ (fun key => OW.sub (R := [(3, O (U ⟨l, 0, N⟩)), (4, O (U ⟨f, 0, N⟩)), (5, O (U ⟨g, 0, N⟩)), (7, O (U ⟨d, 0, N⟩)), (34, B Q)]) ?_ (sb z))
   ·refine nQ <| cI H z (fun H => ?_) (fun H => ?_)
    ·exact sR <| oP z <| nT <| af <| xr 6 z (by cases H; exact q1)
    ·refine aj <| ao <| ai <| sR <| aa [.fa 121 0 0 kz] z <| o1 z (r1 0 3 z ty4 z) <| nQ <| cI H z (fun H => ?_) (fun H => ?_)
     ·refine sR <| aa [.fa 121 4 5 eY, .fa 119 0 0 gS] z <| o1 z (r1 5 3 z bW z) <| bE H fun d0 d1 H => oq z (qc z JE (fun e c => rZ e d1 (ab A e c))) tt2 <| oP z <| nQ <| CU (fun (j : Int) => St w [] [b d 121 [B a.y_, I J a.g_.q_, I J a.g_.u_, S v a.r_.length x, I J a.C_, S C a.i_.k_.length D, S E a.i_.h_.length F, I J a.D_, S G a.d_.length L, I J a.f_, I J a.x_, I J a.B_]]) (fun j => [(7, O (U ⟨d, 0, N⟩)), (8, I J j)]) (fun j => ke a j = U r) (fun j H => ?_) (fun J1 => ?_)
      ·unfold ke at H
       refine sR <| aa [.fa 121 1 1 iW] z <| o1 z (rx 1 0 _ z oI z) <| o1 z (uU [] [I J 0, I J 0] z z oI Lv z Y z) <| o1 z (GM (xs := [I J a.g_.q_, I J a.g_.u_]) (ys := [I J 0, I J 0]) z z z (IR a.g_.q_ 0 a.g_.u_ 0)) <| oP z <| aL [(61, B ((a.g_.q_ == 0 && (a.g_.u_ == 0 && y)) && ((a.r_.length : Int) == 0))), (7, O (U ⟨d, 0, N⟩)), (8, I J j)] 5 ?_ (fun key => OW.sub (R := [(7, O (U ⟨d, 0, N⟩)), (8, I J j), (56, B (a.g_.q_ == 0 && (a.g_.u_ == 0 && y)))]) ?_ (sb z))
       ·refine oP z <| aL [(66, B (((a.g_.q_ == 0 && (a.g_.u_ == 0 && y)) && ((a.r_.length : Int) == 0)) && (a.C_ == 0))), (7, O (U ⟨d, 0, N⟩)), (8, I J j)] 4 ?_ (fun key => OW.sub (R := [(7, O (U ⟨d, 0, N⟩)), (8, I J j), (62, B ((a.g_.q_ == 0 && (a.g_.u_ == 0 && y)) && ((a.r_.length : Int) == 0)))]) ?_ (sb z))
        ·refine oP z <| bE H fun d3 Z H => aL [(72, B d3)] 5 ?_ (fun key => OW.sub (R := [(7, O (U ⟨d, 0, N⟩)), (8, I J j), (67, B (((a.g_.q_ == 0 && (a.g_.u_ == 0 && y)) && ((a.r_.length : Int) == 0)) && (a.C_ == 0)))]) ?_ (sb z))
         ·exact oP z <| nT <| af <| xr 6 z (by cases H; exact q1)
         ·clear H
          have H := Z
          clear Z
          generalize (((a.g_.q_ == 0 && (a.g_.u_ == 0 && y)) && ((a.r_.length : Int) == 0)) && (a.C_ == 0)) = d4 at H key ⊢
          cases d4
          ·have H := aQ z H
           refine aa [.p, .p, .p, .p, .p] z ?_
           obtain rfl := ak H
           exact OW.sub key ⟨z, Y⟩
          ·have H := aR z H
           refine aa [.fa 121 5 7 ln] z <| o1 z (r1 7 0 z ty3 z) <| oP z <| bE H fun h6 d5 H => oq z (qc z gy (fun e c => be e d5)) tt2 <| oP z <| ?_
           obtain rfl := ak H
           exact OW.sub key ⟨z, Y⟩
        ·generalize ((a.g_.q_ == 0 && (a.g_.u_ == 0 && y)) && ((a.r_.length : Int) == 0)) = d6 at key ⊢
         cases d6
         ·exact aa [.p, .p, .p, .p] z <| OW.sub key (sb z)
         ·exact aa [.fa 121 3 4 mc] z <| o1 z (r1 4 0 z ty3 z) <| oP z <| oP z <| OW.sub key (sb z)
       ·generalize (a.g_.q_ == 0 && (a.g_.u_ == 0 && y)) = d7 at key ⊢
        cases d7
        ·exact aa [.p, .p, .p, .p, .p] z <| OW.sub key (sb z)
        ·exact aa [.fa 121 2 3 gf] z <| o1 z (r1 3 0 z bW z) <| aa [.lenS 69 3 ce, .p] z <| oP z <| OW.sub key (sb z)
      ·refine sR <| aa [.fa 121 4 5 eY, .fa 119 1 1 fm] z <| o1 z (r1 6 3 z fw z) <| aa [.lenS 33 69 eK, .p] z <| nQ <| cI H z (fun H => ?_) (fun H => ?_)
       ·exact aJ <| oP z <| aE <| XW.at (J1 (0) (H)) (ss [3] z z) (sb z)
       ·exact aj <| XW.at (J1 (d0) (H)) (ss [3] z z) (sb z)
     ·refine aj <| ao <| sR <| o1 z (rx 0 0 _ z ja z) <| aa [.fa 121 1 1 iW] z <| o1 z (rx 1 3 _ z oI z) <| bE H fun h d8 H => oq z (qc z Np (fun e c => xW e (p1 := a.g_) d8 (av (ab m e c) (ab o e c)))) tt2 <| oP z <| nQ <| ai <| sR <| aa [.p, .p, .p] z <| aL [(85, B ((h == 0) || ((a.r_.length : Int) != h))), (4, O (U ⟨f, 0, N⟩)), (5, O (U ⟨g, 0, N⟩)), (7, O (U ⟨d, 0, N⟩)), (9, I J h)] 6 ?_ (fun key => OW.sub (R := [(4, O (U ⟨f, 0, N⟩)), (5, O (U ⟨g, 0, N⟩)), (7, O (U ⟨d, 0, N⟩)), (9, I J h), (79, B (h == 0))]) ?_ (sb z))
      ·refine oP z <| bE H fun a0 q H => aL [(91, B a0), (4, O (U ⟨f, 0, N⟩)), (5, O (U ⟨g, 0, N⟩)), (7, O (U ⟨d, 0, N⟩)), (9, I J h)] 5 ?_ (fun key => OW.sub (R := [(4, O (U ⟨f, 0, N⟩)), (5, O (U ⟨g, 0, N⟩)), (7, O (U ⟨d, 0, N⟩)), (9, I J h), (86, B ((h == 0) || ((a.r_.length : Int) != h)))]) ?_ (sb z))
       ·refine oP z <| bE H fun k s H => aL [(99, B k), (4, O (U ⟨f, 0, N⟩)), (5, O (U ⟨g, 0, N⟩)), (7, O (U ⟨d, 0, N⟩))] 7 ?_ (fun key => OW.sub (R := [(4, O (U ⟨f, 0, N⟩)), (5, O (U ⟨g, 0, N⟩)), (7, O (U ⟨d, 0, N⟩)), (9, I J h), (92, B a0)]) ?_ (sb z))
        ·refine oP z <| aL [(106, B (k || ((a.i_.h_.length : Int) != 0))), (4, O (U ⟨f, 0, N⟩)), (5, O (U ⟨g, 0, N⟩)), (7, O (U ⟨d, 0, N⟩))] 6 ?_ (fun key => OW.sub (R := [(4, O (U ⟨f, 0, N⟩)), (5, O (U ⟨g, 0, N⟩)), (7, O (U ⟨d, 0, N⟩)), (100, B k)]) ?_ (sb z))
         ·refine oP z <| aL [(111, B ((k || ((a.i_.h_.length : Int) != 0)) || (a.D_ != 0))), (4, O (U ⟨f, 0, N⟩)), (5, O (U ⟨g, 0, N⟩)), (7, O (U ⟨d, 0, N⟩))] 4 ?_ (fun key => OW.sub (R := [(4, O (U ⟨f, 0, N⟩)), (5, O (U ⟨g, 0, N⟩)), (7, O (U ⟨d, 0, N⟩)), (107, B (k || ((a.i_.h_.length : Int) != 0)))]) ?_ (sb z))
          ·refine nQ <| cI H z (fun H => ?_) (fun H => ?_)
           ·exact sR <| oP z <| nT <| af <| xr 6 z (by cases H; exact q1)
           ·exact aj <| ao <| sR <| aa [.fa 121 2 3 gf] z <| o1 z (r1 3 3 z bW z) <| o1 z (uv z z) <| bE H fun e9 a9 H => oq z (qc z EB (fun e c => iv e (cs_1_0 := [I J p2]) (cs_1_1 := [S b7 p1.b_.length b8, I J p1.A_]) a9 (ab u e c) z (jI (T := 3) 0 (mt (i := 2) z) z e c) (bh (ab t e c) z) (jI (T := 73) 0 (mt (i := 1) z) z e c))) tt2 <| oPP z <| nT <| xr 6 z (by cases H; exact q1)
          ·generalize (k || ((a.i_.h_.length : Int) != 0)) = b0 at key ⊢
           cases b0
           ·exact aa [.fa 121 5 7 ln] z <| o1 z (r1 7 3 z ty3 z) <| oP z <| oP z <| OW.sub key (sb z)
           ·exact aa [.p, .p, .p, .p] z <| OW.sub key (sb z)
         ·generalize k = b1 at key ⊢
          cases b1
          ·exact aa [.fa 121 4 5 eY, .fa 119 1 1 fm] z <| o1 z (r1 6 3 z fw z) <| aa [.lenS 33 69 eK, .p] z <| oP z <| OW.sub key (sb z)
          ·exact aa [.p, .p, .p, .p, .p, .p] z <| OW.sub key (sb z)
        ·clear H
         have H := s
         clear s
         generalize a0 = b2 at H key ⊢
         cases b2
         ·have H := aQ z H
          refine aa [.fa 121 3 4 mc] z <| o1 z (r1 4 3 z ty3 z) <| oPP z <| bE H fun f0 b3 H => oq z (qc z gy (fun e c => be e b3)) tt2 <| oP z <| oP z <| ?_
          obtain rfl := ak H
          exact OW.sub key (sb z)
         ·have H := aR z H
          refine aa [.p, .p, .p, .p, .p, .p, .p] z ?_
          obtain rfl := ak H
          exact OW.sub key (sb z)
       ·clear H
        have H := q
        clear q
        generalize ((h == 0) || ((a.r_.length : Int) != h)) = b4 at H key ⊢
        cases b4
        ·have H := aQ z H
         refine aa [.fa 121 2 3 gf] z <| o1 z (r1 3 3 z bW z) <| bE H fun f1 b5 H => oq z (qc z Js (fun e c => og e b5 (ab u e c))) tt2 <| oP z <| oP z <| ?_
         obtain rfl := ak H
         exact OW.sub key (sb z)
        ·have H := aR z H
         refine aa [.p, .p, .p, .p, .p] z ?_
         obtain rfl := ak H
         exact OW.sub key (sb z)
      ·generalize (h == 0) = d9 at key ⊢
       cases d9
       ·exact aa [.fa 121 2 3 gf] z <| o1 z (r1 3 3 z bW z) <| aa [.lenS 69 3 ce, .p, .p] z <| oP z <| OW.sub key (sb z)
       ·exact aa [.p, .p, .p, .p, .p, .p] z <| OW.sub key (sb z)
   ·clear H
    have H := X
    clear X
    generalize Q = e0 at H key ⊢
    cases e0
    ·have H := aQ z H
     refine o1 z (rx 0 0 _ z ja z) <| aa [.fa 121 6 8 mX] z <| o1 z (r1 8 3 z bW z) <| bE H fun h7 e1 H => oq z (qc z NK (fun e c => yF e e1 (av (ab m e c) (ab o e c)) (ab a3 e c))) tt2 <| oP z <| oP z <| ?_
     obtain rfl := ak H
     exact OW.sub key (sb z)
    ·have H := aR z H
     refine aa [.p, .p, .p, .p, .p, .p] z ?_
     obtain rfl := ak H
     exact OW.sub key (sb z)
  ·clear H
   have H := V
   clear V
   generalize M = e2 at H key ⊢
   cases e2
   ·have H := aQ z H
    refine o1 z (rx 0 0 _ z ja z) <| aa [.fa 121 4 5 eY] z <| o1 z (rx 5 3 _ z rr z) <| bE H fun h8 e3 H => oq z (qc z OV (fun e c => yK e e3 (av (ab m e c) (ab o e c)) (ct (ab A e c) (ab a4 e c)))) tt2 <| oP z <| oP z <| ?_
    obtain rfl := ak H
    exact OW.sub key (sb z)
   ·have H := aR z H
    refine aa [.p, .p, .p, .p, .p, .p] z ?_
    obtain rfl := ak H
    exact OW.sub key (sb z)
 ·clear H
  have H := P
  clear P
  generalize (!a5) = e4 at H key ⊢
  cases e4
  ·have H := aQ z H
   refine aa [.fa 121 9 11 jy] z <| o1 z (r1 11 3 z ty3 z) <| aa [.fa 73 1 1 nf] z <| o1 z (r1 1 1 z ty3 z) <| bE H fun h9 e5 H => oq z (qc z gy (fun e c => be e e5)) tt2 <| oP z <| oP z <| ?_
   obtain rfl := ak H
   exact OW.sub key (sb z)
  ·have H := aR z H
   refine aa [.p, .p, .p, .p, .p, .p, .p] z ?_
   obtain rfl := ak H
   exact OW.sub key (sb z)
theorem pf (w : World) {p0 : List Int} {p1 : Int} {a_0 : Option Addr} {n_0 c_0 : Nat} {r : Int} (H : fQ p0 p1 = U r) (d : (ae eI 3).rd w [] p0 [S a_0 n_0 c_0]) :
    Calls Tryz.prog 199 #[S a_0 n_0 c_0, I J p1] w (fun en w' => en = .returned (I J r) ∧ Ext [] w w') := by
 obtain rfl := eb d
 unfold fQ at H
 refine aq Tryz.func199 z Tryz.ntmps199 z (St.init w []) <| sR <| oP z <| nQ <| ai <| sR <| aa [.p, .lenS 69 3 ce, .p] z <| nQ <| an <| CW.at (dn (fun (a : Int) => St w [] []) (fun a => [(0, S a_0 p0.length c_0), (1, I J p1), (7, I J (p0.length : Int)), (8, I J a)]) (fun kk => fun a => cH p0 p1 kk a = U r) (fun _ H => ?_) (fun h f a H => ?_) aK (0) (H)) (ss [] z z) (sb z)
 ·unfold cH at H
  exact absurd H (by simp)
 ·unfold cH at H
  refine sR <| oP z <| nQ <| ai <| cI H z (fun H => ?_) (fun H => ?_)
  ·refine aj <| ao <| ai <| an <| sR <| oPP z <| nR <| aa [.p, .p, .p] z <| bE H fun g c H => bO (e := eI) (xs := p0) (j := a) z z z z z ce ty3 z (ab d) c (by rw [Nat.mul_one]) <| o1 z (aF z z ty3 (cq (ab d) c)) <| oP z <| nQ <| cI H z (fun H => ?_) (fun H => ?_)
   ·exact sR <| oPP z <| nT <| ar <| af <| bd <| ar <| af <| xr 4 z (by cases H; exact q1)
   ·exact aj <| cx <| ao <| aJ <| oPP z <| aE <| cz (RW.at (f (J.wrap (a + 1)) (H)) (ss [] z z) (sb z))
  ·exact bb <| aw <| ay <| ax <| ao <| sR <| oP z <| nT <| xr 4 z (by cases H; exact q1)
theorem nM (w : World) {p0 : List Int} {p1 : Int} {a_0 : Option Addr} {n_0 c_0 : Nat} {r : Bool} (H : dW p0 p1 = U r) (a : (ae eI 3).rd w [] p0 [S a_0 n_0 c_0]) :
    Calls Tryz.prog 180 #[S a_0 n_0 c_0, I J p1] w (fun en w' => en = .returned (B r) ∧ Ext [] w w') := by
 obtain rfl := eb a
 unfold dW at H
 exact aq Tryz.func180 z Tryz.ntmps180 z (St.init w []) <| sR <| oP z <| nR <| oPP z <| bE H fun f c H => oq z (qc z NC (fun d e => pf d c (ab a d e))) tt2 <| oPP z <| nT <| xr 4 z (by cases H; exact q1)
theorem zP (w : World) {p0 : am} {p1 : ap} {a8 : List Value} {a9 : List Value} {r : Bool} (H : pM p0 p1 = U r) (g0 : (bK).rd w [] p0 a8) (g1 : (bp).rd w [] p1 a9) :
    Calls Tryz.prog 157 #[.agg a8.toArray, .agg a9.toArray] w (fun en w' => en = .returned (B r) ∧ Ext [] w w') := by
 obtain ⟨j1, j2, rfl, s, t⟩ := aO g0
 obtain ⟨e4, e5, rfl⟩ := ah s
 obtain ⟨e6, e7, rfl⟩ := ah t
 obtain ⟨j3, j4, rfl, o, e9⟩ := aW g1
 obtain ⟨g, h, rfl⟩ := ah o
 obtain rfl := e9
 unfold pM at H
 refine aq Tryz.func157 z Tryz.ntmps157 z (St.init w []) <| sR <| ob _ z fun e => ob _ z fun f => oP z <| nQ <| ai <| sR <| o1 z (rx 0 0 _ z ja z) <| bE H fun b0 f0 H => oq z (qc z HZ (fun i j => iG i f0 (av (ab s i j) (ab t i j)))) tt2 <| oPP z <| bE H fun u v H => aL [(17, B u), (2, O (U ⟨e, 0, N⟩)), (3, O (U ⟨f, 0, N⟩))] 6 ?_ (fun key => OW.sub (R := [(2, O (U ⟨e, 0, N⟩)), (3, O (U ⟨f, 0, N⟩)), (11, B (!b0))]) ?_ (sb z))
 ·refine oP z <| bE H fun f1 x H => aL [(23, B f1), (2, O (U ⟨e, 0, N⟩)), (3, O (U ⟨f, 0, N⟩))] 5 ?_ (fun key => OW.sub (R := [(2, O (U ⟨e, 0, N⟩)), (3, O (U ⟨f, 0, N⟩)), (18, B u)]) ?_ (sb z))
  ·refine nQ <| cI H z (fun H => ?_) (fun H => ?_)
   ·exact sR <| oP z <| nT <| af <| xr 4 z (by cases H; exact q1)
   ·refine aj <| ao <| ai <| sR <| aa [.fa 73 0 0 eg] z <| o1 z (r1 0 1 z kN z) <| aa [.lenS 71 121 fT, .p] z <| nQ <| an <| CW.at (dn (fun (d : Int) => St w [] [b e 44 [S e4 p0.d_.length e5, S e6 p0.m_.length e7], b f 73 [S g p1.b_.length h, I J p1.A_]]) (fun d => [(2, O (U ⟨e, 0, N⟩)), (3, O (U ⟨f, 0, N⟩)), (25, S g p1.b_.length h), (26, I J (p1.b_.length : Int)), (27, I J d)]) (fun kk => fun d => dT p1 p0 kk d = U r) (fun _ H => ?_) (fun k1 A d H => ?_) aK (0) (H)) (ss [0, 1] z z) (sb z)
    ·unfold dT at H
     exact absurd H (by simp)
    ·unfold dT at H
     refine sR <| oP z <| nQ <| ai <| cI H z (fun H => ?_) (fun H => ?_)
     ·refine aj <| ao <| ai <| an <| sR <| oP z <| bE H fun a b1 H => bQ z z z z z fT co z o b1 fun f8 f9 a4 a5 => ?_
      obtain ⟨g2, g3, g4, g5, g6, g7, g8, g9, h0, h1, rfl, b2, b3, b4, b5, b6, b7, b8, b9, c0, c1⟩ := bA a4
      obtain rfl := b2
      obtain rfl := b3
      obtain ⟨C, D, rfl⟩ := ah b4
      obtain rfl := b5
      obtain ⟨h2, h3, rfl, c2, c3⟩ := aX b6
      obtain ⟨E, F, rfl⟩ := ah c2
      obtain ⟨G, L, rfl⟩ := ah c3
      obtain rfl := b7
      obtain ⟨M, P, rfl⟩ := ah b8
      obtain rfl := b9
      obtain rfl := c0
      obtain rfl := c1
      refine o1 z (cu (cs := [B a.y_, I J a.g_.q_, I J a.g_.u_, S C a.r_.length D, I J a.C_, S E a.i_.k_.length F, S G a.i_.h_.length L, I J a.D_, S M a.d_.length P, I J a.f_, I J a.x_, I J a.B_]) z z co (bB bor a5) z) <| bL z z z z co (fun _ => kp) fun k => oP z <| sC 0 [B a.y_, I J a.g_.q_, I J a.g_.u_, S C a.r_.length D, I J a.C_, S E a.i_.k_.length F, S G a.i_.h_.length L, I J a.D_, S M a.d_.length P, I J a.f_, I J a.x_, I J a.B_] [_, _, _, _, _, _, _, _, _, _, _, _] 2 z co z <| nQ <| ai <| sR <| o1 z (rx 0 0 _ z ja z) <| o1 z (rx 0 1 _ z ol z) <| oP z <| bE H fun h4 c4 H => oq z (qc z Ow (fun i j => zD i c4 (av (ab s i j) (ab t i j)) (bh (ab o i j) z))) tt2 <| oP z <| nQ <| cI H z (fun H => ?_) (fun H => ?_)
      ·exact sR <| oP z <| nT <| af <| ar <| af <| bd <| ar <| af <| xr 4 z (by cases H; exact q1)
      ·refine aj <| ao <| ai <| sR <| oPP z <| nQ <| cI H z (fun H => ?_) (fun H => ?_)
       ·refine ai <| sR <| aa [.fa 121 8 10 jF] z <| o1 z (r1 10 2 z ty3 z) <| oPP z <| aL [(46, B ((a.x_ != (-1)) || (a.f_ != 0))), (2, O (U ⟨e, 0, N⟩)), (3, O (U ⟨f, 0, N⟩)), (6, O (U ⟨k, 0, N⟩)), (25, S g p1.b_.length h), (26, I J (p1.b_.length : Int)), (27, I J d)] 4 ?_ (fun key => OW.sub (R := [(2, O (U ⟨e, 0, N⟩)), (3, O (U ⟨f, 0, N⟩)), (6, O (U ⟨k, 0, N⟩)), (25, S g p1.b_.length h), (26, I J (p1.b_.length : Int)), (27, I J d), (42, B (a.x_ != (-1)))]) ?_ (sb z))
        ·refine oP z <| aL [(51, B (((a.x_ != (-1)) || (a.f_ != 0)) || (a.B_ != 0))), (2, O (U ⟨e, 0, N⟩)), (3, O (U ⟨f, 0, N⟩)), (25, S g p1.b_.length h), (26, I J (p1.b_.length : Int)), (27, I J d)] 4 ?_ (fun key => OW.sub (R := [(2, O (U ⟨e, 0, N⟩)), (3, O (U ⟨f, 0, N⟩)), (6, O (U ⟨k, 0, N⟩)), (25, S g p1.b_.length h), (26, I J (p1.b_.length : Int)), (27, I J d), (47, B ((a.x_ != (-1)) || (a.f_ != 0)))]) ?_ (sb z))
         ·refine nQ <| cI H z (fun H => ?_) (fun H => ?_)
          ·exact sR <| oP z <| nT <| af <| af <| ar <| af <| bd <| ar <| af <| xr 4 z (by cases H; exact q1)
          ·exact aj <| ao <| bb <| aw <| ax <| ao <| aJ <| oPP z <| aE <| cz (RW.at (A (J.wrap (d + 1)) (H)) (ss [0, 1] z z) (sb z))
         ·generalize ((a.x_ != (-1)) || (a.f_ != 0)) = c5 at key ⊢
          cases c5
          ·exact aa [.fa 121 9 11 jy] z <| o1 z (r1 11 2 z ty3 z) <| oP z <| oP z <| OW.sub key (sb z)
          ·exact aa [.p, .p, .p, .p] z <| OW.sub key (sb z)
        ·generalize (a.x_ != (-1)) = c6 at key ⊢
         cases c6
         ·exact aa [.fa 121 7 9 gB] z <| o1 z (r1 9 2 z ty3 z) <| oP z <| oP z <| OW.sub key (sb z)
         ·exact aa [.p, .p, .p, .p] z <| OW.sub key (sb z)
       ·refine aj <| ao <| ai <| sR <| aa [.fa 121 8 10 jF] z <| o1 z (r1 10 2 z ty3 z) <| oPP z <| bE H fun h5 c7 H => oq z (qc z gy (fun i j => be i c7)) tt2 <| oP z <| nQ <| cI H z (fun H => ?_) (fun H => ?_)
        ·exact sR <| oP z <| nT <| af <| ar <| af <| bd <| ar <| af <| xr 4 z (by cases H; exact q1)
        ·refine aj <| ao <| sR <| aa [.fa 73 0 0 eg] z <| o1 z (r1 0 1 z kN z) <| aa [.fa 121 8 10 jF] z <| o1 z (r1 10 2 z ty3 z) <| bE H fun c c8 H => bQ z z z z z fT co z o c8 fun h6 h7 a6 a7 => ?_
         obtain ⟨h8, h9, i0, i1, i2, i3, i4, i5, i6, i7, rfl, c9, d0, Q, d1, d2, d3, d4, d5, d6, d7⟩ := bA a6
         obtain rfl := c9
         obtain rfl := d0
         obtain ⟨T, V, rfl⟩ := ah Q
         obtain rfl := d1
         obtain ⟨i8, i9, rfl, d8, d9⟩ := aX d2
         obtain ⟨X, Z, rfl⟩ := ah d8
         obtain ⟨a0, a1, rfl⟩ := ah d9
         obtain rfl := d3
         obtain ⟨a2, a3, rfl⟩ := ah d4
         obtain rfl := d5
         obtain rfl := d6
         obtain rfl := d7
         refine o1 z (cu (cs := [B c.y_, I J c.g_.q_, I J c.g_.u_, S T c.r_.length V, I J c.C_, S X c.i_.k_.length Z, S a0 c.i_.h_.length a1, I J c.D_, S a2 c.d_.length a3, I J c.f_, I J c.x_, I J c.B_]) z z co (bB bor a7) z) <| bL z z z z co (fun _ => kp) fun m => sC 0 [B c.y_, I J c.g_.q_, I J c.g_.u_, S T c.r_.length V, I J c.C_, S X c.i_.k_.length Z, S a0 c.i_.h_.length a1, I J c.D_, S a2 c.d_.length a3, I J c.f_, I J c.x_, I J c.B_] [_, _, _, _, _, _, _, _, _, _, _, _] 3 z co z <| nR <| aa [.fa 121 0 0 kz] z <| o1 z (r1 0 3 z ty4 z) <| oP z <| bE H fun l q H => aL [(72, B l), (2, O (U ⟨e, 0, N⟩)), (3, O (U ⟨f, 0, N⟩)), (6, O (U ⟨k, 0, N⟩)), (7, O (U ⟨m, 0, N⟩)), (25, S g p1.b_.length h), (26, I J (p1.b_.length : Int)), (27, I J d)] 6 ?_ (fun key => OW.sub (R := [(2, O (U ⟨e, 0, N⟩)), (3, O (U ⟨f, 0, N⟩)), (5, I J d), (6, O (U ⟨k, 0, N⟩)), (7, O (U ⟨m, 0, N⟩)), (25, S g p1.b_.length h), (26, I J (p1.b_.length : Int)), (27, I J d), (66, B c.y_)]) ?_ (sb z))
         ·refine oP z <| aL [(80, B (l || (c.f_ != (J.wrap (a.f_ - 1))))), (2, O (U ⟨e, 0, N⟩)), (3, O (U ⟨f, 0, N⟩)), (6, O (U ⟨k, 0, N⟩)), (7, O (U ⟨m, 0, N⟩)), (25, S g p1.b_.length h), (26, I J (p1.b_.length : Int)), (27, I J d)] 7 ?_ (fun key => OW.sub (R := [(2, O (U ⟨e, 0, N⟩)), (3, O (U ⟨f, 0, N⟩)), (6, O (U ⟨k, 0, N⟩)), (7, O (U ⟨m, 0, N⟩)), (25, S g p1.b_.length h), (26, I J (p1.b_.length : Int)), (27, I J d), (73, B l)]) ?_ (sb z))
          ·refine oP z <| aL [(87, B ((l || (c.f_ != (J.wrap (a.f_ - 1)))) || (decide (c.B_ > a.B_)))), (2, O (U ⟨e, 0, N⟩)), (3, O (U ⟨f, 0, N⟩)), (25, S g p1.b_.length h), (26, I J (p1.b_.length : Int)), (27, I J d)] 6 ?_ (fun key => OW.sub (R := [(2, O (U ⟨e, 0, N⟩)), (3, O (U ⟨f, 0, N⟩)), (6, O (U ⟨k, 0, N⟩)), (7, O (U ⟨m, 0, N⟩)), (25, S g p1.b_.length h), (26, I J (p1.b_.length : Int)), (27, I J d), (81, B (l || (c.f_ != (J.wrap (a.f_ - 1)))))]) ?_ (sb z))
           ·refine nQ <| cI H z (fun H => ?_) (fun H => ?_)
            ·exact sR <| oP z <| nT <| ar <| af <| bd <| ar <| af <| xr 4 z (by cases H; exact q1)
            ·exact aj <| cx <| ao <| aJ <| oPP z <| aE <| cz (RW.at (A (J.wrap (d + 1)) (H)) (ss [0, 1] z z) (sb z))
           ·generalize (l || (c.f_ != (J.wrap (a.f_ - 1)))) = e0 at key ⊢
            cases e0
            ·exact aa [.fa 121 9 11 jy] z <| o1 z (r1 11 3 z ty3 z) <| aa [.fa 121 9 11 jy] z <| o1 z (r1 11 2 z ty3 z) <| oP z <| oP z <| OW.sub key (sb z)
            ·exact aa [.p, .p, .p, .p, .p, .p] z <| OW.sub key (sb z)
          ·generalize l = e1 at key ⊢
           cases e1
           ·exact aa [.fa 121 7 9 gB] z <| o1 z (r1 9 3 z ty3 z) <| aa [.fa 121 7 9 gB] z <| o1 z (r1 9 2 z ty3 z) <| oPP z <| oP z <| OW.sub key (sb z)
           ·exact aa [.p, .p, .p, .p, .p, .p, .p] z <| OW.sub key (sb z)
         ·clear H
          have H := q
          clear q
          generalize c.y_ = e2 at H key ⊢
          cases e2
          ·have H := aQ z H
           refine aa [.fa 121 2 3 gf] z <| o1 z (r1 3 3 z bW z) <| oP z <| bE H fun j0 e3 H => oq z (qc z Oj (fun i j => nM i e3 (ab Q i j))) tt2 <| oP z <| oP z <| ?_
           obtain rfl := ak H
           exact OW.sub key (sb z)
          ·have H := aR z H
           refine aa [.p, .p, .p, .p, .p, .p] z ?_
           obtain rfl := ak H
           exact OW.sub key (sb z)
     ·exact bb <| aw <| ay <| ax <| ao <| sR <| oP z <| nT <| xr 4 z (by cases H; exact q1)
  ·clear H
   have H := x
   clear x
   generalize u = f2 at H key ⊢
   cases f2
   ·have H := aQ z H
    refine aa [.fa 73 1 1 nf] z <| o1 z (r1 1 1 z ty3 z) <| bE H fun j5 f3 H => oq z (qc z gy (fun i j => be i f3)) tt2 <| oP z <| oP z <| ?_
    obtain rfl := ak H
    exact OW.sub key (sb z)
   ·have H := aR z H
    refine aa [.p, .p, .p, .p, .p] z ?_
    obtain rfl := ak H
    exact OW.sub key (sb z)
 ·clear H
  have H := v
  clear v
  generalize (!b0) = f4 at H key ⊢
  cases f4
  ·have H := aQ z H
   refine aa [.fa 73 0 0 eg] z <| o1 z (r1 0 1 z kN z) <| aa [.lenS 71 121 fT] z <| bE H fun j6 f5 H => oq z (qc z gy (fun i j => be i f5)) tt2 <| oP z <| oP z <| ?_
   obtain rfl := ak H
   exact OW.sub key (sb z)
  ·have H := aR z H
   refine aa [.p, .p, .p, .p, .p, .p] z ?_
   obtain rfl := ak H
   exact OW.sub key (sb z)
theorem zi (w : World) {p0 : ap} {s : List Value} {r : Int} (H : oR p0 = U r) (g0 : (bp).rd w [] p0 s) :
    Calls Tryz.prog 158 #[.agg s.toArray] w (fun en w' => en = .returned (I J r) ∧ Ext [] w w') := by
 obtain ⟨d0, d1, rfl, e, V⟩ := aW g0
 obtain ⟨X, Z, rfl⟩ := ah e
 obtain rfl := V
 unfold oR at H
 refine aq Tryz.func158 z Tryz.ntmps158 z (St.init w []) <| sR <| ob _ z fun d2 => oP z <| nQ <| ai <| sR <| aa [.fa 73 0 0 eg] z <| o1 z (r1 0 0 z kN z) <| aa [.lenS 71 121 fT, .p] z <| nQ <| cI H z (fun H => ?_) (fun H => ?_)
 ·exact sR <| oP z <| nT <| af <| xr 2 z (by cases H; exact q1)
 ·refine aj <| ao <| sR <| aa [.fa 73 0 0 eg] z <| o1 z (r1 0 0 z kN z) <| bE H fun a0 a1 H => bQ z z z z z fT co z e a1 fun d3 d4 t u => ?_
  obtain ⟨d5, d6, d7, d8, d9, e0, e1, e2, e3, e4, rfl, a2, a3, a4, a5, a6, a7, a8, a9, b0, b1⟩ := bA t
  obtain rfl := a2
  obtain rfl := a3
  obtain ⟨e5, e6, rfl⟩ := ah a4
  obtain rfl := a5
  obtain ⟨e7, e9, rfl, b2, b3⟩ := aX a6
  obtain ⟨f0, f1, rfl⟩ := ah b2
  obtain ⟨f2, f3, rfl⟩ := ah b3
  obtain rfl := a7
  obtain ⟨f4, f5, rfl⟩ := ah a8
  obtain rfl := a9
  obtain rfl := b0
  obtain rfl := b1
  refine aa [.fa 121 7 9 gB] z <| o1 z (aF z z ty3 (bB bor (Aq u 9 1))) <| oP z <| nQ <| ai <| sR <| aa [.fa 73 0 0 eg] z <| o1 z (r1 0 0 z kN z) <| aa [.lenS 71 121 fT, .p] z <| nQ <| an <| CW.at (fx (fun (d : Int) (c : Int) => St w [] []) (fun d c => [(3, I J c), (16, S X p0.b_.length Z), (17, I J (p0.b_.length : Int)), (18, I J d)]) (fun kk => fun d c => ej p0 kk d c = U r) (fun _ _ H => ?_) (fun k1 v d c H => ?_) aK (0) (a0.f_) (H)) (ss [] z z) (sb z)
  ·unfold ej at H
   exact absurd H (by simp)
  ·unfold ej at H
   refine sR <| oP z <| nQ <| ai <| cI H z (fun H => ?_) (fun H => ?_)
   ·refine aj <| ao <| ai <| an <| sR <| bE H fun a x H => bQ z z z z z fT co z e x fun b5 b6 o q => ?_
    obtain ⟨b7, b8, b9, c0, c1, c2, c3, c4, c5, c6, rfl, A, C, D, E, F, G, L, M, P, Q⟩ := bA o
    obtain rfl := A
    obtain rfl := C
    obtain ⟨f, g, rfl⟩ := ah D
    obtain rfl := E
    obtain ⟨c7, c8, rfl, R, T⟩ := aX F
    obtain ⟨h, i, rfl⟩ := ah R
    obtain ⟨j, k, rfl⟩ := ah T
    obtain rfl := G
    obtain ⟨l, m, rfl⟩ := ah L
    obtain rfl := M
    obtain rfl := P
    obtain rfl := Q
    exact o1 z (cu (cs := [B a.y_, I J a.g_.q_, I J a.g_.u_, S f a.r_.length g, I J a.C_, S h a.i_.k_.length i, S j a.i_.h_.length k, I J a.D_, S l a.d_.length m, I J a.f_, I J a.x_, I J a.B_]) z z co (bB bor q) z) <| bL z z z z co (fun _ => kp) fun c9 => sC 0 [B a.y_, I J a.g_.q_, I J a.g_.u_, S f a.r_.length g, I J a.C_, S h a.i_.k_.length i, S j a.i_.h_.length k, I J a.D_, S l a.d_.length m, I J a.f_, I J a.x_, I J a.B_] [_, _, _, _, _, _, _, _, _, _, _, _] 0 z co z <| nQ <| aJ <| aa [.p, .fa 121 7 9 gB] z <| o1 z (r1 9 0 z ty3 z) <| o1 z (MF z z z) <| oP z <| aE <| cx <| ao <| aJ <| oPP z <| aE <| cz (RW.at (v (J.wrap (d + 1)) ((if c < a.f_ then a.f_ else c)) (H)) (ss [] z z) (sb z))
   ·exact bb <| aw <| ay <| ax <| ao <| sR <| oPP z <| nT <| xr 2 z (by cases H; exact q1)
theorem yB (w : World) {p0 : au} {d : List Value} {r : Int} (H : oE p0 = U r) (E : (bc).rd w [] p0 d) :
    Calls Tryz.prog 181 #[.agg d.toArray] w (fun en w' => en = .returned (I J r) ∧ Ext [] w w') := by
 obtain ⟨F, G, L, M, P, Q, R, T, V, X, rfl, i, j, k, l, m, o, q, s, t, u⟩ := bA E
 obtain rfl := i
 obtain rfl := j
 obtain ⟨Z, a0, rfl⟩ := ah k
 obtain rfl := l
 obtain ⟨a1, a2, rfl, v, e⟩ := aX m
 obtain ⟨a3, a4, rfl⟩ := ah v
 obtain ⟨x, A, rfl⟩ := ah e
 obtain rfl := o
 obtain ⟨a5, a6, rfl⟩ := ah q
 obtain rfl := s
 obtain rfl := t
 obtain rfl := u
 unfold oE at H
 refine aq Tryz.func181 z Tryz.ntmps181 z (St.init w []) <| sR <| ob _ z fun a7 => oP z <| nQ <| ai <| sR <| aa [.fa 121 0 0 kz] z <| o1 z (r1 0 0 z ty4 z) <| oP z <| nQ <| cI H z (fun H => ?_) (fun H => ?_)
 ·exact sR <| oP z <| nT <| af <| xr 2 z (by cases H; exact q1)
 ·refine aj <| ao <| sR <| oP z <| nQ <| ai <| sR <| aa [.fa 121 4 5 eY, .fa 119 1 1 fm] z <| o1 z (r1 6 0 z fw z) <| aa [.lenS 33 69 eK, .p] z <| nQ <| an <| CW.at (fx (fun (a : Int) (c : Int) => St w [] []) (fun a c => [(3, I J c), (11, S x p0.i_.h_.length A), (12, I J (p0.i_.h_.length : Int)), (13, I J a)]) (fun kk => fun a c => fC p0 kk a c = U r) (fun _ _ H => ?_) (fun k1 f a c H => ?_) aK (0) (2) (H)) (ss [] z z) (sb z)
  ·unfold fC at H
   exact absurd H (by simp)
  ·unfold fC at H
   refine sR <| oP z <| nQ <| ai <| cI H z (fun H => ?_) (fun H => ?_)
   ·refine aj <| ao <| ai <| an <| sR <| bE H fun C D H => bQ z z z z z eK bW z e D fun a8 a9 g h => ?_
    obtain ⟨b0, b1, rfl⟩ := ah g
    exact o1 z (aF z z bW (bB bor h)) <| oP z <| nQ <| aJ <| aa [.p, .p, .lenS 69 3 ce, .p, .p] z <| aE <| cx <| ao <| aJ <| oPP z <| aE <| cz (RW.at (f (J.wrap (a + 1)) (J.wrap (c + (C.length : Int))) (H)) (ss [] z z) (sb z))
   ·exact bb <| aw <| ay <| ax <| ao <| sR <| oPP z <| nT <| xr 2 z (by cases H; exact q1)
end Go.Vk
