/- The code does what the functions of data say. Printed by program. -/
import Derived.Test.YthdoeealefnabaaGreatDoorWSbA
namespace Go.Vk
open Value renaming int → I, slice → S, pointer → O, bool → B
open IntKind renaming i64 → J, u8 → K
open Bool renaming true → y, false → n
open Option renaming some → U, none → N
open Res renaming box → b, own → W
open Go.Proofs Go.RowKit
set_option maxHeartbeats 4000000
set_option maxRecDepth 100000
theorem yP (w : World) {k : List Nat} {p0 : dM} {o : List Value} {r : bo} (H : oA p0 = U r) (HS : St w k [] w) (L : (gD).rd w k p0 o) :
    Calls Tryz.prog 27 #[.agg o.toArray] w (fun en w' => ∃ v, en = .returned v ∧ ∃ (u : Option Addr), ∃ (x : Nat), ∃ (c0 : Nat), ∃ (M : List Nat), ∃ (A : Option Addr), ∃ (C : Nat), ∃ (c1 : Nat), ∃ (P : List Nat), v = .agg #[S u x c0, S A C c1] ∧ St w k [W (ae (ae eI 3) 69) M r.n_ [S u x c0], W (ae (bD) 84) P r.l_ [S A C c1]] w') := by
 obtain ⟨R, V, rfl, p, q⟩ := kO L
 obtain ⟨X, Z, rfl⟩ := ah p
 obtain ⟨a2, a3, rfl⟩ := ah q
 unfold oA at H
 refine aq Tryz.func27 z Tryz.ntmps27 z (HS) <| sR <| ob _ z fun a4 => bL z z z z zW (fun _ => kp) fun a5 => nR <| bL z z z z zW (fun _ => kp) fun a6 => nR <| aa [.fa 36 0 0 Iy] z <| o1 z (r1 0 0 z fw z) <| bE H fun c D H => aC z MV z z z z (fun j a => qe j D (a.carve [] z z) (ab p j a)) fun a7 j Q a s => ?_
 obtain ⟨d, a8, e, E, rfl, l⟩ := s
 obtain rfl := aI (i := 0) l z
 refine ⟨St w k [_, _, _, _], a.comp [] z z l, fun _ _ => Y, ?_⟩
 refine aa [.fa 53 0 0 mp] z <| sC 0 [S d c.length e] [_, _] 2 z fw z <| nR <| aa [.fa 36 1 1 IJ] z <| o1 z (r1 1 0 z Nm z) <| bE H fun f F H => aC z PR z z z z (fun j a => yQ j F (a.carve [] z z) (ab q j a)) fun a9 j Q a t => ?_
 obtain ⟨g, b0, h, G, rfl, m⟩ := t
 obtain rfl := aI (i := 0) m z
 refine ⟨St w k [_, _, _, _, _], a.comp [] z z m, fun _ _ => Y, ?_⟩
 exact aa [.fa 53 1 1 lO] z <| sC 1 [S g f.length h] [_, _] 2 z ug z <| nR <| o1 z (rx 0 2 _ z zW z) <| sC 0 [S d c.length e, S g f.length h] [_, _] 1 z zW z <| nT <| ca (rs := [.cell 2 53]) (vs := [.agg #[S d c.length e, S g f.length h]]) z ⟨⟨_, [S d c.length e, S g f.length h], _, _, _, z, zW, (jI (T := 53) 0 (mt (i := 1) z) z), z, z⟩, Y⟩ (fun w' hw' => by
  obtain rfl := ak H
  exact ⟨_, z, d, c.length, e, E, g, f.length, h, G, z, hw'.sel [3, 4] z z⟩)
theorem mW (w : World) {x : List Nat} {p0 : dz} {C : List Value} {r : aP} (H : jA p0 = U r) (HS : St w x [] w) (g0 : (lZ).rd w x p0 C) :
    Calls Tryz.prog 6 #[.agg C.toArray] w (fun en w' => ∃ v, en = .returned v ∧ ∃ (R : Option Addr), ∃ (V : Nat), ∃ (c0 : Nat), ∃ (F0 : List Nat), ∃ (X : Option Addr), ∃ (Z : Nat), ∃ (c1 : Nat), ∃ (F1 : List Nat), ∃ (a2 : Option Addr), ∃ (n2 : Nat), ∃ (c2 : Nat), ∃ (F2 : List Nat), ∃ (a3 : Option Addr), ∃ (n3 : Nat), ∃ (c3 : Nat), ∃ (F3 : List Nat), ∃ (a4 : Option Addr), ∃ (n4 : Nat), ∃ (c4 : Nat), ∃ (F4 : List Nat), v = .agg #[S R V c0, S X Z c1, I J r.a_.c_.L_, I J r.a_.c_.K_, I J r.a_.c_.M_, I J r.a_.c_.f_, I J r.a_.c_.b_, I J r.a_.c_.G_, B r.a_.c_.P_, I J r.a_.j_, I J r.a_.N_, I J r.a_.O_, I J r.a_.s_, I J r.a_.t_, S a2 n2 c2, S a3 n3 c3, S a4 n4 c4] ∧ St w x [W (ae (bj) 111) F0 r.a_.p_.d_ [S R V c0], W (ae (cy) 9) F1 r.a_.p_.m_ [S X Z c1], W (ae (ba) 79) F2 r.J_.j_ [S a2 n2 c2], W (ae (ae eI 3) 69) F3 r.v_.n_ [S a3 n3 c3], W (ae (bD) 84) F4 r.v_.l_ [S a4 n4 c4]] w') := by
 obtain ⟨e1, e2, e3, rfl, b1, b2, b3⟩ := qk g0
 obtain ⟨e4, e5, e6, e7, e9, f0, f1, rfl, b4, b5, b6, b7, b8, b9, c5⟩ := lA b1
 obtain ⟨f2, f3, rfl, D, E⟩ := gp b4
 obtain ⟨f4, f5, rfl⟩ := ah D
 obtain ⟨f6, f7, rfl⟩ := ah E
 obtain rfl := b5
 obtain rfl := b6
 obtain rfl := b7
 obtain rfl := b8
 obtain rfl := b9
 obtain rfl := c5
 obtain ⟨f8, rfl, F⟩ := kh b2
 obtain ⟨f9, g1, rfl⟩ := ah F
 obtain ⟨g2, g3, rfl, G, L⟩ := kO b3
 obtain ⟨g4, g5, rfl⟩ := ah G
 obtain ⟨g6, g7, rfl⟩ := ah L
 unfold jA at H
 refine aq Tryz.func6 z Tryz.ntmps6 z (HS) <| sR <| ob _ z fun g8 => bL z z z z yH (fun _ => kp) fun g9 => nR <| bL z z z z yH (fun _ => kp) fun h0 => nR <| aa [.fa 38 0 0 JS] z <| o1 z (rx 0 0 _ z NF z) <| bE H fun a c6 H => aC z PW z z z z (fun e c => Ap e c6 (c.carve [] z z) (iM (fc (ab D e c) (ab E e c)) z z z z z z)) fun h1 e w2 c M => ?_
 obtain ⟨f, h2, g, c8, h, h3, j, c9, rfl, t⟩ := M
 obtain rfl := aI (i := 0) t z
 obtain rfl := aI (i := 1) t z
 refine ⟨St w x [_, _, _, _, _], c.comp [] z z t, fun _ _ => Y, ?_⟩
 refine aa [.fa 55 0 0 mq] z <| sC 0 [S f a.p_.d_.length g, S h a.p_.m_.length j, I J a.c_.L_, I J a.c_.K_, I J a.c_.M_, I J a.c_.f_, I J a.c_.b_, I J a.c_.G_, B a.c_.P_, I J a.j_, I J a.N_, I J a.O_, I J a.s_, I J a.t_] [_, _, _, _, _, _, _, _, _, _, _, _, _, _, _, _, _] 2 z sx z <| nR <| aa [.fa 38 1 14 Jy] z <| o1 z (rx 14 0 _ z NN z) <| bE H fun k d0 H => aC z PY z z z z (fun e c => xU e d0 (c.carve [] z z) (gx (ab F e c))) fun h4 e w2 c P => ?_
 obtain ⟨l, h5, m, d1, rfl, A⟩ := P
 obtain rfl := aI (i := 0) A z
 refine ⟨St w x [_, _, _, _, _, _], c.comp [] z z A, fun _ _ => Y, ?_⟩
 refine aa [.fa 55 1 14 sU] z <| sC 14 [S l k.j_.length m] [_, _, _, _, _, _, _, _, _, _, _, _, _, _, _, _, _] 2 z zO z <| nR <| aa [.fa 38 2 15 JF] z <| o1 z (rx 15 0 _ z Nq z) <| bE H fun d d2 H => aC z Pq z z z z (fun e c => yP e d2 (c.carve [] z z) (ib (ab G e c) (ab L e c))) fun h6 e w2 c Q => ?_
 obtain ⟨o, h7, p, d3, q, h8, s, d4, rfl, u⟩ := Q
 obtain rfl := aI (i := 0) u z
 obtain rfl := aI (i := 1) u z
 refine ⟨St w x [_, _, _, _, _, _, _, _], c.comp [] z z u, fun _ _ => Y, ?_⟩
 exact aa [.fa 55 2 15 ni] z <| sC 15 [S o d.n_.length p, S q d.l_.length s] [_, _, _, _, _, _, _, _, _, _, _, _, _, _, _, _, _] 2 z zW z <| nR <| o1 z (rx 0 2 _ z yH z) <| sC 0 [S f a.p_.d_.length g, S h a.p_.m_.length j, I J a.c_.L_, I J a.c_.K_, I J a.c_.M_, I J a.c_.f_, I J a.c_.b_, I J a.c_.G_, B a.c_.P_, I J a.j_, I J a.N_, I J a.O_, I J a.s_, I J a.t_, S l k.j_.length m, S o d.n_.length p, S q d.l_.length s] [_, _, _, _, _, _, _, _, _, _, _, _, _, _, _, _, _] 1 z yH z <| nT <| ca (rs := [.cell 2 55]) (vs := [.agg #[S f a.p_.d_.length g, S h a.p_.m_.length j, I J a.c_.L_, I J a.c_.K_, I J a.c_.M_, I J a.c_.f_, I J a.c_.b_, I J a.c_.G_, B a.c_.P_, I J a.j_, I J a.N_, I J a.O_, I J a.s_, I J a.t_, S l k.j_.length m, S o d.n_.length p, S q d.l_.length s]]) z ⟨⟨_, [S f a.p_.d_.length g, S h a.p_.m_.length j, I J a.c_.L_, I J a.c_.K_, I J a.c_.M_, I J a.c_.f_, I J a.c_.b_, I J a.c_.G_, B a.c_.P_, I J a.j_, I J a.N_, I J a.O_, I J a.s_, I J a.t_, S l k.j_.length m, S o d.n_.length p, S q d.l_.length s], _, _, _, z, yH, (jI (T := 55) 0 (mt (i := 1) z) z), z, z⟩, Y⟩ (fun w' hw' => by
  obtain rfl := ak H
  exact ⟨_, z, f, a.p_.d_.length, g, c8, h, a.p_.m_.length, j, c9, l, k.j_.length, m, d1, o, d.n_.length, p, d3, q, d.l_.length, s, d4, z, hw'.sel [3, 4, 5, 6, 7] z z⟩)
theorem bu (w : World) {p0 : Int} {p1 : Int} {a : Int} {r : Bool} (H : bn p0 p1 a = U r)   :
    Calls Tryz.prog 53 #[I J p0, I J p1, I J a] w (fun en w' => en = .returned (B r) ∧ Ext [] w w') := by
 unfold bn at H
 refine aq Tryz.func53 z Tryz.ntmps53 z (St.init w []) <| sR <| oP z <| nR <| aa [.p, .p, .p, .p] z <| aL [(14, B ((decide (p0 ≥ p1)) && (decide (p0 ≤ a)))), (6, B n)] 4 ?_ (fun key => OW.sub (R := [(0, I J p0), (2, I J a), (6, B n), (10, B (decide (p0 ≥ p1)))]) ?_ (sb z))
 ·exact oP z <| nT <| xr 6 z (by cases H; exact q1)
 ·generalize (decide (p0 ≥ p1)) = c at key ⊢
  cases c
  ·exact aa [.p, .p, .p, .p] z <| OW.sub key (sb z)
  ·exact aa [.p, .p, .p] z <| oP z <| OW.sub key (sb z)
theorem tK (w : World) {p0 : List UInt8} {r : Bool} (H : nJ p0 = U r)   :
    Calls Tryz.prog 127 #[vS p0] w (fun en w' => en = .returned (B r) ∧ Ext [] w w') := by
 unfold nJ at H
 refine aq Tryz.func127 z Tryz.ntmps127 z (St.init w []) <| sR <| oP z <| nQ <| ai <| sR <| aa [.p, .lenT 9 st9] z <| bE H fun l f H => oq z (qc z kH (fun k m => bu k f)) tt2 <| oP z <| nQ <| cI H z (fun H => ?_) (fun H => ?_)
 ·exact sR <| oP z <| nT <| af <| xr 2 z (by cases H; exact q1)
 ·refine aj <| ao <| ai <| sR <| oP z <| nQ <| an <| CW.at (dn (fun (a : Int) => St w [] []) (fun a => [(0, vS p0), (3, I J a)]) (fun kk => fun a => iV p0 kk a = U r) (fun _ H => ?_) (fun q e a H => ?_) aK (0) (H)) (ss [] z z) (sb z)
  ·unfold iV at H
   exact absurd H (by simp)
  ·unfold iV at H
   refine ai <| sR <| aa [.p, .p, .lenT 9 st9, .p] z <| nQ <| cI H z (fun H => ?_) (fun H => ?_)
   ·refine aj <| ao <| ai <| an <| sR <| oPP z <| bE H fun d g H => o1 z (zy (s := p0) z z z st9 g) <| oPP z <| bE H fun h c H => aL [(23, B h), (0, vS p0), (3, I J a)] 5 ?_ (fun key => OW.sub (R := [(0, vS p0), (3, I J a), (18, B (decide ((d.toNat : Int) < 97)))]) ?_ (sb z))
    ·refine nQ <| cI H z (fun H => ?_) (fun H => ?_)
     ·exact sR <| oP z <| nT <| ar <| af <| bd <| ar <| af <| xr 2 z (by cases H; exact q1)
     ·exact aj <| cx <| ao <| aJ <| aa [.p, .p, .p] z <| aE <| cz (RW.at (e (J.wrap (a + 1)) (H)) (ss [] z z) (sb z))
    ·clear H
     have H := c
     clear c
     generalize (decide ((d.toNat : Int) < 97)) = i at H key ⊢
     cases i
     ·have H := aQ z H
      refine oPP z <| bE H fun o j H => o1 z (zy (s := p0) z z z st9 j) <| oP z <| oP z <| ?_
      obtain rfl := ak H
      exact OW.sub key (sb z)
     ·have H := aR z H
      refine aa [.p, .p, .p, .p, .p] z ?_
      obtain rfl := ak H
      exact OW.sub key (sb z)
   ·exact bb <| aw <| ay <| ax <| ao <| sR <| oP z <| nT <| xr 2 z (by cases H; exact q1)
theorem tG (w : World) {p0 : List (List UInt8)} {a_0 : Option Addr} {n_0 c_0 : Nat} {r : Bool} (H : mf p0 = U r) (d : (ae (cy) 9).rd w [] p0 [S a_0 n_0 c_0]) :
    Calls Tryz.prog 89 #[S a_0 n_0 c_0] w (fun en w' => en = .returned (B r) ∧ Ext [] w w') := by
 obtain rfl := eb d
 unfold mf at H
 refine aq Tryz.func89 z Tryz.ntmps89 z (St.init w []) <| sR <| oP z <| nQ <| ai <| sR <| oP z <| nQ <| an <| CW.at (dn (fun (a : Int) => St w [] []) (fun a => [(0, S a_0 p0.length c_0), (3, I J a)]) (fun kk => fun a => ef p0 kk a = U r) (fun _ H => ?_) (fun m i a H => ?_) aK (0) (H)) (ss [] z z) (sb z)
 ·unfold ef at H
  exact absurd H (by simp)
 ·unfold ef at H
  refine ai <| sR <| aa [.p, .p, .lenS 23 9 gm, .p] z <| nQ <| cI H z (fun H => ?_) (fun H => ?_)
  ·refine aj <| ao <| ai <| an <| ai <| sR <| oPP z <| bE H fun q f H => bO (e := cy) (xs := p0) (j := a) z z z z z gm ty9 z (ab d) f (by rw [Nat.mul_one]) <| o1 z (aF z z ty9 (cq (ab d) f)) <| bE H fun s l H => oq z (qc z LD (fun o t => tK o l)) tt2 <| oP z <| nQ <| cI H z (fun H => ?_) (fun H => ?_)
   ·exact sR <| oP z <| nT <| af <| ar <| af <| bd <| ar <| af <| xr 2 z (by cases H; exact q1)
   ·refine aj <| ao <| sR <| oP z <| nQ <| an <| CW.at (dn (fun (c : Int) => St w [] []) (fun c => [(0, S a_0 p0.length c_0), (3, I J a), (4, I J c)]) (fun kk => fun c => fD a p0 (ef p0 m) kk c = U r) (fun _ H => ?_) (fun x k c H => ?_) aK (0) (H)) (ss [] z z) (sb z)
    ·unfold fD at H
     exact absurd H (by simp)
    ·unfold fD at H
     refine ai <| sR <| aa [.p, .p, .p] z <| nQ <| cI H z (fun H => ?_) (fun H => ?_)
     ·refine aj <| ao <| ai <| an <| ai <| eF eR (by kernel_rfl) <| oPP z <| bE H fun u g H => bO (e := cy) (xs := p0) (j := a) z z z z z gm ty9 z (ab d) g (by rw [Nat.mul_one]) <| o1 z (aF z z ty9 (cq (ab d) g)) <| oPP z <| bE H fun v h H => bO (e := cy) (xs := p0) (j := c) z z z z z gm ty9 z (ab d) h (by rw [Nat.mul_one]) <| o1 z (aF z z ty9 (cq (ab d) h)) <| oP z <| dg <| ao <| cI H z (fun H => ?_) (fun H => ?_)
      ·exact sR <| oP z <| nT <| ar <| af <| bd <| ar <| ar <| af <| bd <| ar <| af <| xr 2 z (by cases H; exact q1)
      ·exact aj <| cx <| ao <| aJ <| aa [.p, .p, .p] z <| aE <| cz (RW.at (k (J.wrap (c + 1)) (H)) (ss [] z z) (sb z))
     ·exact bb <| aw <| ay <| ax <| cx <| ao <| aJ <| aa [.p, .p, .p] z <| aE <| cz (RW.at (i (J.wrap (a + 1)) (H)) (ss [] z z) (sb z))
  ·exact bb <| aw <| ay <| ax <| ao <| sR <| oP z <| nT <| xr 2 z (by cases H; exact q1)
theorem qX (w : World) {p0 : aB} {l : List Value} {r : Bool} (H : lB p0 = U r) (g0 : (bj).rd w [] p0 l) :
    Calls Tryz.prog 90 #[.agg l.toArray] w (fun en w' => en = .returned (B r) ∧ Ext [] w w') := by
 obtain ⟨a2, a3, a4, rfl, x, d, m⟩ := bV g0
 obtain rfl := x
 obtain ⟨A, C, rfl⟩ := ah d
 obtain ⟨D, E, rfl⟩ := ah m
 unfold lB at H
 refine aq Tryz.func90 z Tryz.ntmps90 z (St.init w []) <| sR <| ob _ z fun c => oP z <| nQ <| ai <| sR <| aa [.fa 111 0 0 me] z <| o1 z (r1 0 0 z ty9 z) <| bE H fun a5 F H => oq z (qc z LD (fun f g => tK f F)) tt2 <| oP z <| nQ <| cI H z (fun H => ?_) (fun H => ?_)
 ·exact sR <| oP z <| nT <| af <| xr 2 z (by cases H; exact q1)
 ·refine aj <| ao <| ai <| sR <| aa [.fa 111 1 1 gn] z <| o1 z (r1 1 0 z bW z) <| aa [.lenS 69 3 ce, .p] z <| nQ <| cI H z (fun H => ?_) (fun H => ?_)
  ·refine sR <| aa [.fa 111 2 2 ks] z <| o1 z (r1 2 0 z lr z) <| aa [.lenS 23 9 gm] z <| bE H fun o G H => oq z (qc z kH (fun f g => bu f G)) tt2 <| oP z <| bE H fun L h H => aL [(20, B L), (2, B n)] 4 ?_ (fun key => OW.sub (R := [(1, O (U ⟨c, 0, N⟩)), (2, B n), (16, B o)]) ?_ (sb z))
   ·exact oP z <| nT <| af <| xr 2 z (by cases H; exact q1)
   ·clear H
    have H := h
    clear h
    generalize o = M at H key ⊢
    cases M
    ·have H := aQ z H
     refine aa [.p, .p, .p, .p] z ?_
     obtain rfl := ak H
     exact OW.sub key (sb z)
    ·have H := aR z H
     refine aa [.fa 111 2 2 ks] z <| o1 z (r1 2 0 z lr z) <| bE H fun a6 P H => oq z (qc z Nn (fun f g => tG f P (ab m f g))) tt2 <| oP z <| ?_
     obtain rfl := ak H
     exact OW.sub key (sb z)
  ·refine aj <| ao <| ai <| sR <| aa [.fa 111 2 2 ks] z <| o1 z (r1 2 0 z lr z) <| aa [.lenS 23 9 gm, .p, .p] z <| aL [(30, B ((decide ((p0.I_.length : Int) > 0)) || (decide ((p0.z_.length : Int) > 3)))), (1, O (U ⟨c, 0, N⟩))] 5 ?_ (fun key => OW.sub (R := [(1, O (U ⟨c, 0, N⟩)), (25, B (decide ((p0.I_.length : Int) > 0)))]) ?_ (sb z))
   ·refine nQ <| cI H z (fun H => ?_) (fun H => ?_)
    ·exact sR <| oP z <| nT <| af <| xr 2 z (by cases H; exact q1)
    ·refine aj <| ao <| ai <| sR <| oP z <| nQ <| an <| CW.at (dn (fun (a : Int) => St w [] [b c 111 [vS p0.E_, S A p0.z_.length C, S D p0.I_.length E]]) (fun a => [(1, O (U ⟨c, 0, N⟩)), (3, I J a)]) (fun kk => fun a => gO p0 kk a = U r) (fun _ H => ?_) (fun k1 v a H => ?_) aK (0) (H)) (ss [0] z z) (sb z)
     ·unfold gO at H
      exact absurd H (by simp)
     ·unfold gO at H
      refine ai <| sR <| aa [.p, .fa 111 1 1 gn] z <| o1 z (r1 1 0 z bW z) <| aa [.lenS 69 3 ce, .p] z <| nQ <| cI H z (fun H => ?_) (fun H => ?_)
      ·refine aj <| ao <| ai <| an <| ai <| eF eR (by kernel_rfl) <| aa [.fa 111 1 1 gn] z <| o1 z (r1 1 0 z bW z) <| oP z <| bE H fun a7 q H => bO (e := eI) (xs := p0.z_) (j := a) z z z z z ce ty3 z (ab d) q (by rw [Nat.mul_one]) <| o1 z (aF z z ty3 (cq (ab d) q)) <| bE H fun s Q H => oq z (qc z kH (fun f g => bu f Q)) tt2 <| oPP z <| bE H fun T i H => aL [(62, B T), (1, O (U ⟨c, 0, N⟩)), (3, I J a)] 17 ?_ (fun key => OW.sub (R := [(1, O (U ⟨c, 0, N⟩)), (3, I J a), (45, B (!s))]) ?_ (sb z))
       ·refine dg <| ao <| cI H z (fun H => ?_) (fun H => ?_)
        ·exact sR <| oP z <| nT <| ar <| af <| bd <| ar <| af <| xr 2 z (by cases H; exact q1)
        ·exact aj <| cx <| ao <| aJ <| aa [.p, .p, .p] z <| aE <| cz (RW.at (v (J.wrap (a + 1)) (H)) (ss [0] z z) (sb z))
       ·clear H
        have H := i
        clear i
        generalize (!s) = V at H key ⊢
        cases V
        ·have H := aQ z H
         refine aa [.p, .p, .p] z <| bE H fun X k H => aL [(61, B X), (1, O (U ⟨c, 0, N⟩)), (3, I J a), (45, B n)] 13 ?_ (fun key => OW.sub (R := [(1, O (U ⟨c, 0, N⟩)), (3, I J a), (45, B n), (48, B (decide (a > 0)))]) ?_ (sb z))
         ·refine aa [.p] z ?_
          obtain rfl := ak H
          exact OW.sub key (sb z)
         ·clear H
          have H := k
          clear k
          generalize (decide (a > 0)) = Z at H key ⊢
          cases Z
          ·have H := aQ z H
           refine aa [.p, .p, .p, .p, .p, .p, .p, .p, .p, .p, .p, .p, .p] z ?_
           obtain rfl := ak H
           exact OW.sub key (sb z)
          ·have H := aR z H
           refine aa [.fa 111 1 1 gn] z <| o1 z (r1 1 0 z bW z) <| oP z <| bE H fun a8 t H => bO (e := eI) (xs := p0.z_) (j := a) z z z z z ce ty3 z (ab d) t (by rw [Nat.mul_one]) <| o1 z (aF z z ty3 (cq (ab d) t)) <| aa [.fa 111 1 1 gn] z <| o1 z (r1 1 0 z bW z) <| oPP z <| bE H fun a9 u H => bO (e := eI) (xs := p0.z_) (j := J.wrap (a - 1)) z z z z z ce ty3 z (ab d) u (by rw [Nat.mul_one]) <| o1 z (aF z z ty3 (cq (ab d) u)) <| oP z <| oP z <| ?_
           obtain rfl := ak H
           exact OW.sub key (sb z)
        ·have H := aR z H
         refine aa [.p, .p, .p, .p, .p, .p, .p, .p, .p, .p, .p, .p, .p, .p, .p, .p, .p] z ?_
         obtain rfl := ak H
         exact OW.sub key (sb z)
      ·exact bb <| aw <| ay <| ax <| ao <| sR <| oP z <| nT <| xr 2 z (by cases H; exact q1)
   ·generalize (decide ((p0.I_.length : Int) > 0)) = a0 at key ⊢
    cases a0
    ·exact aa [.fa 111 1 1 gn] z <| o1 z (r1 1 0 z bW z) <| aa [.lenS 69 3 ce, .p] z <| oP z <| OW.sub key (sb z)
    ·exact aa [.p, .p, .p, .p, .p] z <| OW.sub key (sb z)
theorem iH (w : World) {p0 : am} {x : List Value} {r : Bool} (H : fU p0 = U r) (g0 : (bK).rd w [] p0 x) :
    Calls Tryz.prog 50 #[.agg x.toArray] w (fun en w' => en = .returned (B r) ∧ Ext [] w w') := by
 obtain ⟨e3, e4, rfl, h, A⟩ := aO g0
 obtain ⟨C, D, rfl⟩ := ah h
 obtain ⟨E, F, rfl⟩ := ah A
 unfold fU at H
 refine aq Tryz.func50 z Tryz.ntmps50 z (St.init w []) <| sR <| ob _ z fun d => oP z <| nQ <| ai <| sR <| aa [.fa 44 0 0 fS] z <| o1 z (r1 0 0 z nP z) <| aa [.lenS 42 111 kr] z <| bE H fun G a9 H => oq z (qc z kH (fun e f => bu e a9)) tt2 <| oPP z <| bE H fun i j H => aL [(16, B i), (1, O (U ⟨d, 0, N⟩))] 6 ?_ (fun key => OW.sub (R := [(1, O (U ⟨d, 0, N⟩)), (10, B (!G))]) ?_ (sb z))
 ·refine oP z <| bE H fun b0 k H => aL [(22, B b0), (1, O (U ⟨d, 0, N⟩))] 5 ?_ (fun key => OW.sub (R := [(1, O (U ⟨d, 0, N⟩)), (17, B i)]) ?_ (sb z))
  ·refine nQ <| cI H z (fun H => ?_) (fun H => ?_)
   ·exact sR <| oP z <| nT <| af <| xr 2 z (by cases H; exact q1)
   ·refine aj <| ao <| ai <| sR <| oP z <| nQ <| an <| CW.at (dn (fun (a : Int) => St w [] [b d 44 [S C p0.d_.length D, S E p0.m_.length F]]) (fun a => [(1, O (U ⟨d, 0, N⟩)), (3, I J a)]) (fun kk => fun a => dv p0 kk a = U r) (fun _ H => ?_) (fun k1 L a H => ?_) aK (0) (H)) (ss [0] z z) (sb z)
    ·unfold dv at H
     exact absurd H (by simp)
    ·unfold dv at H
     refine ai <| sR <| aa [.p, .fa 44 0 0 fS] z <| o1 z (r1 0 0 z nP z) <| aa [.lenS 42 111 kr, .p] z <| nQ <| cI H z (fun H => ?_) (fun H => ?_)
     ·refine aj <| ao <| ai <| an <| ai <| sR <| aa [.fa 44 0 0 fS] z <| o1 z (r1 0 0 z nP z) <| oP z <| bE H fun g M H => bQ z z z z z kr ed z h M fun b7 b8 o q => ?_
      obtain ⟨b9, c0, c1, rfl, P, l, m⟩ := bV o
      obtain rfl := P
      obtain ⟨Q, T, rfl⟩ := ah l
      obtain ⟨V, X, rfl⟩ := ah m
      refine o1 z (cu (cs := [vS g.E_, S Q g.z_.length T, S V g.I_.length X]) z z ed (bB bor q) z) <| bE H fun c2 Z H => oq z (qc z MD (fun e f => qX e Z (cZ z (ab l e f) (ab m e f)))) tt2 <| oP z <| nQ <| cI H z (fun H => ?_) (fun H => ?_)
      ·exact sR <| oP z <| nT <| af <| ar <| af <| bd <| ar <| af <| xr 2 z (by cases H; exact q1)
      ·refine aj <| ao <| sR <| oP z <| nQ <| an <| CW.at (dn (fun (c : Int) => St w [] [b d 44 [S C p0.d_.length D, S E p0.m_.length F]]) (fun c => [(1, O (U ⟨d, 0, N⟩)), (3, I J a), (4, I J c)]) (fun kk => fun c => eZ a p0 (dv p0 k1) kk c = U r) (fun _ H => ?_) (fun k2 a0 c H => ?_) aK (0) (H)) (ss [0] z z) (sb z)
       ·unfold eZ at H
        exact absurd H (by simp)
       ·unfold eZ at H
        refine ai <| sR <| aa [.p, .p, .p] z <| nQ <| cI H z (fun H => ?_) (fun H => ?_)
        ·refine aj <| ao <| ai <| an <| ai <| eF eR (by kernel_rfl) <| aa [.fa 44 0 0 fS] z <| o1 z (r1 0 0 z nP z) <| oP z <| bE H fun c3 a1 H => bQ z z z z z kr ed z h a1 fun c4 c5 s t => ?_
         obtain ⟨c6, c7, c8, rfl, a2, a3, a4⟩ := bV s
         obtain rfl := a2
         obtain ⟨c9, d0, rfl⟩ := ah a3
         obtain ⟨d1, d2, rfl⟩ := ah a4
         refine aa [.fa 111 0 0 me] z <| o1 z (aF z z ty9 (bB bor (Aq t 0 1))) <| aa [.fa 44 0 0 fS] z <| o1 z (r1 0 0 z nP z) <| oP z <| bE H fun d3 a5 H => bQ z z z z z kr ed z h a5 fun d4 d5 u v => ?_
         obtain ⟨d6, d7, d8, rfl, a6, a7, a8⟩ := bV u
         obtain rfl := a6
         obtain ⟨d9, e0, rfl⟩ := ah a7
         obtain ⟨e1, e2, rfl⟩ := ah a8
         refine aa [.fa 111 0 0 me] z <| o1 z (aF z z ty9 (bB bor (Aq v 0 1))) <| oP z <| dg <| ao <| cI H z (fun H => ?_) (fun H => ?_)
         ·exact sR <| oP z <| nT <| ar <| af <| bd <| ar <| ar <| af <| bd <| ar <| af <| xr 2 z (by cases H; exact q1)
         ·exact aj <| cx <| ao <| aJ <| aa [.p, .p, .p] z <| aE <| cz (RW.at (a0 (J.wrap (c + 1)) (H)) (ss [0] z z) (sb z))
        ·exact bb <| aw <| ay <| ax <| cx <| ao <| aJ <| aa [.p, .p, .p] z <| aE <| cz (RW.at (L (J.wrap (a + 1)) (H)) (ss [0] z z) (sb z))
     ·exact bb <| aw <| ay <| ax <| ao <| sR <| oP z <| nT <| xr 2 z (by cases H; exact q1)
  ·clear H
   have H := k
   clear k
   generalize i = b1 at H key ⊢
   cases b1
   ·have H := aQ z H
    refine aa [.fa 44 1 1 lN] z <| o1 z (r1 1 0 z lr z) <| bE H fun e5 b2 H => oq z (qc z Nn (fun e f => tG e b2 (ab A e f))) tt2 <| oP z <| oP z <| ?_
    obtain rfl := ak H
    exact OW.sub key (sb z)
   ·have H := aR z H
    refine aa [.p, .p, .p, .p, .p] z ?_
    obtain rfl := ak H
    exact OW.sub key (sb z)
 ·clear H
  have H := j
  clear j
  generalize (!G) = b3 at H key ⊢
  cases b3
  ·have H := aQ z H
   refine aa [.fa 44 1 1 lN] z <| o1 z (r1 1 0 z lr z) <| aa [.lenS 23 9 gm] z <| bE H fun e6 b4 H => oq z (qc z kH (fun e f => bu e b4)) tt2 <| oP z <| oP z <| ?_
   obtain rfl := ak H
   exact OW.sub key (sb z)
  ·have H := aR z H
   refine aa [.p, .p, .p, .p, .p, .p] z ?_
   obtain rfl := ak H
   exact OW.sub key (sb z)
theorem um (w : World) {p0 : cO} {r : Bool} (H : nH p0 = U r)   :
    Calls Tryz.prog 123 #[.agg #[I J p0.L_, I J p0.K_, I J p0.M_, I J p0.f_, I J p0.b_, I J p0.G_, B p0.P_]] w (fun en w' => en = .returned (B r) ∧ Ext [] w w') := by
 unfold nH at H
 refine aq Tryz.func123 z Tryz.ntmps123 z (St.init w []) <| sR <| ob _ z fun a => oP z <| nR <| aa [.fa 45 0 0 vt] z <| o1 z (r1 0 0 z ty3 z) <| bE H fun o q H => oq z (qc z kH (fun c d => bu c q)) tt2 <| oP z <| bE H fun e f H => aL [(10, B e), (1, O (U ⟨a, 0, N⟩)), (2, B n)] 4 ?_ (fun key => OW.sub (R := [(1, O (U ⟨a, 0, N⟩)), (2, B n), (6, B o)]) ?_ (sb z))
 ·refine oP z <| bE H fun g h H => aL [(15, B g), (1, O (U ⟨a, 0, N⟩)), (2, B n)] 4 ?_ (fun key => OW.sub (R := [(1, O (U ⟨a, 0, N⟩)), (2, B n), (11, B e)]) ?_ (sb z))
  ·refine oP z <| bE H fun i j H => aL [(20, B i), (1, O (U ⟨a, 0, N⟩)), (2, B n)] 4 ?_ (fun key => OW.sub (R := [(1, O (U ⟨a, 0, N⟩)), (2, B n), (16, B g)]) ?_ (sb z))
   ·refine oP z <| bE H fun k l H => aL [(25, B k), (1, O (U ⟨a, 0, N⟩)), (2, B n)] 4 ?_ (fun key => OW.sub (R := [(1, O (U ⟨a, 0, N⟩)), (2, B n), (21, B i)]) ?_ (sb z))
    ·refine oP z <| bE H fun s m H => aL [(30, B s), (2, B n)] 4 ?_ (fun key => OW.sub (R := [(1, O (U ⟨a, 0, N⟩)), (2, B n), (26, B k)]) ?_ (sb z))
     ·exact oP z <| nT <| xr 2 z (by cases H; exact q1)
     ·clear H
      have H := m
      clear m
      generalize k = t at H key ⊢
      cases t
      ·have H := aQ z H
       refine aa [.p, .p, .p, .p] z ?_
       obtain rfl := ak H
       exact OW.sub key (sb z)
      ·have H := aR z H
       refine aa [.fa 45 5 5 tl] z <| o1 z (r1 5 0 z ty3 z) <| bE H fun L u H => oq z (qc z kH (fun c d => bu c u)) tt2 <| oP z <| ?_
       obtain rfl := ak H
       exact OW.sub key (sb z)
    ·clear H
     have H := l
     clear l
     generalize i = v at H key ⊢
     cases v
     ·have H := aQ z H
      refine aa [.p, .p, .p, .p] z ?_
      obtain rfl := ak H
      exact OW.sub key (sb z)
     ·have H := aR z H
      refine aa [.fa 45 4 4 tx] z <| o1 z (r1 4 0 z ty3 z) <| bE H fun M x H => oq z (qc z kH (fun c d => bu c x)) tt2 <| oP z <| ?_
      obtain rfl := ak H
      exact OW.sub key (sb z)
   ·clear H
    have H := j
    clear j
    generalize g = A at H key ⊢
    cases A
    ·have H := aQ z H
     refine aa [.p, .p, .p, .p] z ?_
     obtain rfl := ak H
     exact OW.sub key (sb z)
    ·have H := aR z H
     refine aa [.fa 45 3 3 tu] z <| o1 z (r1 3 0 z ty3 z) <| bE H fun P C H => oq z (qc z kH (fun c d => bu c C)) tt2 <| oP z <| ?_
     obtain rfl := ak H
     exact OW.sub key (sb z)
  ·clear H
   have H := h
   clear h
   generalize e = D at H key ⊢
   cases D
   ·have H := aQ z H
    refine aa [.p, .p, .p, .p] z ?_
    obtain rfl := ak H
    exact OW.sub key (sb z)
   ·have H := aR z H
    refine aa [.fa 45 2 2 vw] z <| o1 z (r1 2 0 z ty3 z) <| bE H fun Q E H => oq z (qc z kH (fun c d => bu c E)) tt2 <| oP z <| ?_
    obtain rfl := ak H
    exact OW.sub key (sb z)
 ·clear H
  have H := f
  clear f
  generalize o = F at H key ⊢
  cases F
  ·have H := aQ z H
   refine aa [.p, .p, .p, .p] z ?_
   obtain rfl := ak H
   exact OW.sub key (sb z)
  ·have H := aR z H
   refine aa [.fa 45 1 1 vE] z <| o1 z (r1 1 0 z ty3 z) <| bE H fun T G H => oq z (qc z kH (fun c d => bu c G)) tt2 <| oP z <| ?_
   obtain rfl := ak H
   exact OW.sub key (sb z)
theorem vM (w : World) {f : List Nat} {p0 : Int} {r : List Int} (H : kG p0 = U r) (HS : St w f [] w) :
    Calls Tryz.prog 124 #[I J p0] w (fun en w' => ∃ v, en = .returned v ∧ ∃ (g : Option Addr), ∃ (h : Nat), ∃ (c0 : Nat), ∃ (i : List Nat), v = S g h c0 ∧ St w f [W (ae eI 3) i r [S g h c0]] w') := by
 unfold kG at H
 refine aq Tryz.func124 z Tryz.ntmps124 z (HS) <| sR <| oP z <| nQ <| ai <| sR <| oP z <| nQ <| an <| sR <| oPP z <| nQ <| cI H z (fun H => ?_) (fun H => ?_)
 ·exact sR <| dm (val := I J) (h1 := fun _ => z) [24109, 48218, 60273, 64291, 65296, 65497, 65530] [(0, [I J 24109]), (1, [I J 48218]), (2, [I J 60273]), (3, [I J 64291]), (4, [I J 65296]), (5, [I J 65497]), (6, [I J 65530])] z z z z z ce ty3 z z z ⟨z, z, nl z, z, z, nl z, z, z, nl z, z, z, nl z, z, z, nl z, z, z, nl z, z, z, nl z, Y⟩ z z (fun _ => kp) fun a => oP z <| nT <| ar <| af <| ca (rs := [.tmp 2]) (vs := [S (U ⟨a, 0, N⟩) (([24109, 48218, 60273, 64291, 65296, 65497, 65530] : List Int).length) 7]) z ⟨z, Y⟩ (fun w' hw' => by
   obtain rfl := ak H
   exact ⟨_, z, (U ⟨a, 0, N⟩), (([24109, 48218, 60273, 64291, 65296, 65497, 65530] : List Int).length), 7, [a], z, hw'.sel [0] z z⟩)
 ·refine sR <| oPP z <| nQ <| cI H z (fun H => ?_) (fun H => ?_)
  ·exact sR <| dm (val := I J) (h1 := fun _ => z) [162, 1137, 4061, 9909, 18681, 29208, 39734] [(0, [I J 162]), (1, [I J 1137]), (2, [I J 4061]), (3, [I J 9909]), (4, [I J 18681]), (5, [I J 29208]), (6, [I J 39734])] z z z z z ce ty3 z z z ⟨z, z, nl z, z, z, nl z, z, z, nl z, z, z, nl z, z, z, nl z, z, z, nl z, z, z, nl z, Y⟩ z z (fun _ => kp) fun c => oP z <| nT <| ar <| af <| ca (rs := [.tmp 2]) (vs := [S (U ⟨c, 0, N⟩) (([162, 1137, 4061, 9909, 18681, 29208, 39734] : List Int).length) 7]) z ⟨z, Y⟩ (fun w' hw' => by
    obtain rfl := ak H
    exact ⟨_, z, (U ⟨c, 0, N⟩), (([162, 1137, 4061, 9909, 18681, 29208, 39734] : List Int).length), 7, [c], z, hw'.sel [0] z z⟩)
  ·exact aj <| cx <| ao <| sR <| jw (e := eI) z z z z ce ty3 (fun _ => kp) fun d => oP z <| nT <| ca (rs := [.tmp 2]) (vs := [S (U ⟨d, 0, N⟩) 0 0]) z ⟨z, Y⟩ (fun w' hw' => by
    obtain rfl := ak H
    exact ⟨_, z, (U ⟨d, 0, N⟩), 0, 0, [d], z, hw'.sel [0] z z⟩)
theorem tN (w : World) {p0 : bi} {v : List Value} {r : Bool} (H : nI p0 = U r) (g0 : (dL).rd w [] p0 v) :
    Calls Tryz.prog 85 #[.agg v.toArray] w (fun en w' => en = .returned (B r) ∧ Ext [] w w') := by
 obtain ⟨b1, b2, b3, b4, b5, b6, b7, rfl, E, F, G, L, M, P, Q⟩ := cP g0
 obtain ⟨b8, b9, rfl, x, A⟩ := aO E
 obtain ⟨c0, c1, rfl⟩ := ah x
 obtain ⟨c2, c3, rfl⟩ := ah A
 obtain rfl := F
 obtain rfl := G
 obtain rfl := L
 obtain rfl := M
 obtain rfl := P
 obtain rfl := Q
 unfold nI at H
 refine aq Tryz.func85 z Tryz.ntmps85 z (St.init w []) <| sR <| ob _ z fun a => oP z <| nR <| aa [.fa 47 0 0 mr] z <| o1 z (rx 0 0 _ z ja z) <| bE H fun C T H => oq z (qc z HV (fun d c => iH d T (av (ab x d c) (ab A d c)))) tt2 <| oP z <| bE H fun f g H => aL [(10, B f), (1, O (U ⟨a, 0, N⟩)), (2, B n)] 4 ?_ (fun key => OW.sub (R := [(1, O (U ⟨a, 0, N⟩)), (2, B n), (6, B C)]) ?_ (sb z))
 ·refine oP z <| bE H fun h j H => aL [(15, B h), (1, O (U ⟨a, 0, N⟩)), (2, B n)] 4 ?_ (fun key => OW.sub (R := [(1, O (U ⟨a, 0, N⟩)), (2, B n), (11, B f)]) ?_ (sb z))
  ·refine oP z <| bE H fun k l H => aL [(24, B k), (1, O (U ⟨a, 0, N⟩)), (2, B n)] 8 ?_ (fun key => OW.sub (R := [(1, O (U ⟨a, 0, N⟩)), (2, B n), (16, B h)]) ?_ (sb z))
   ·refine oP z <| bE H fun m o H => aL [(31, B m), (1, O (U ⟨a, 0, N⟩)), (2, B n)] 6 ?_ (fun key => OW.sub (R := [(1, O (U ⟨a, 0, N⟩)), (2, B n), (25, B k)]) ?_ (sb z))
    ·refine oP z <| bE H fun q s H => aL [(36, B q), (1, O (U ⟨a, 0, N⟩)), (2, B n)] 4 ?_ (fun key => OW.sub (R := [(1, O (U ⟨a, 0, N⟩)), (2, B n), (32, B m)]) ?_ (sb z))
     ·refine oP z <| bE H fun e t H => aL [(41, B e), (1, O (U ⟨a, 0, N⟩)), (2, B n)] 4 ?_ (fun key => OW.sub (R := [(1, O (U ⟨a, 0, N⟩)), (2, B n), (37, B q)]) ?_ (sb z))
      ·refine oP z <| aL [(48, B (e && (decide (p0.s_ ≤ p0.t_)))), (2, B n)] 6 ?_ (fun key => OW.sub (R := [(1, O (U ⟨a, 0, N⟩)), (2, B n), (42, B e)]) ?_ (sb z))
       ·exact oP z <| nT <| xr 2 z (by cases H; exact q1)
       ·generalize e = V at key ⊢
        cases V
        ·exact aa [.p, .p, .p, .p, .p, .p] z <| OW.sub key (sb z)
        ·exact aa [.fa 47 5 12 tr] z <| o1 z (r1 12 0 z ty3 z) <| aa [.fa 47 6 13 sP] z <| o1 z (r1 13 0 z ty3 z) <| oP z <| oP z <| OW.sub key (sb z)
      ·clear H
       have H := t
       clear t
       generalize q = X at H key ⊢
       cases X
       ·have H := aQ z H
        refine aa [.p, .p, .p, .p] z ?_
        obtain rfl := ak H
        exact OW.sub key (sb z)
       ·have H := aR z H
        refine aa [.fa 47 6 13 sP] z <| o1 z (r1 13 0 z ty3 z) <| bE H fun c4 Z H => oq z (qc z kH (fun d c => bu d Z)) tt2 <| oP z <| ?_
        obtain rfl := ak H
        exact OW.sub key (sb z)
     ·clear H
      have H := s
      clear s
      generalize m = a0 at H key ⊢
      cases a0
      ·have H := aQ z H
       refine aa [.p, .p, .p, .p] z ?_
       obtain rfl := ak H
       exact OW.sub key (sb z)
      ·have H := aR z H
       refine aa [.fa 47 5 12 tr] z <| o1 z (r1 12 0 z ty3 z) <| bE H fun c5 a1 H => oq z (qc z kH (fun d c => bu d a1)) tt2 <| oP z <| ?_
       obtain rfl := ak H
       exact OW.sub key (sb z)
    ·clear H
     have H := o
     clear o
     generalize k = a2 at H key ⊢
     cases a2
     ·have H := aQ z H
      refine aa [.p, .p, .p, .p, .p, .p] z ?_
      obtain rfl := ak H
      exact OW.sub key (sb z)
     ·have H := aR z H
      refine aa [.fa 47 4 11 vR] z <| o1 z (r1 11 0 z ty3 z) <| bE H fun c6 a3 H => aC z NZ z z z z (fun d c => vM d a3 (c.carve [] z z)) fun c7 d w2 c D => ?_
      obtain ⟨c8, c9, d0, d1, rfl, u⟩ := D
      obtain rfl := aI (i := 0) u z
      refine ⟨St w [] [_, _], c.comp [] z z u, fun _ _ => Y, ?_⟩
      refine aa [.lenS 69 3 ce, .p] z <| mo z (C' := St w [] [_]) (ss [0] z z) <| oP z <| ?_
      obtain rfl := ak H
      exact OW.sub key (sb z)
   ·clear H
    have H := l
    clear l
    generalize h = a4 at H key ⊢
    cases a4
    ·have H := aQ z H
     refine aa [.p, .p, .p, .p, .p, .p, .p, .p] z ?_
     obtain rfl := ak H
     exact OW.sub key (sb z)
    ·have H := aR z H
     refine aa [.fa 47 3 10 vJ] z <| o1 z (r1 10 0 z ty3 z) <| aa [.fa 47 0 0 mr, .fa 44 0 0 fS] z <| o1 z (r1 0 0 z nP z) <| aa [.lenS 42 111 kr] z <| bE H fun d2 a5 H => oq z (qc z kH (fun d c => bu d a5)) tt2 <| oP z <| ?_
     obtain rfl := ak H
     exact OW.sub key (sb z)
  ·clear H
   have H := j
   clear j
   generalize f = a6 at H key ⊢
   cases a6
   ·have H := aQ z H
    refine aa [.p, .p, .p, .p] z ?_
    obtain rfl := ak H
    exact OW.sub key (sb z)
   ·have H := aR z H
    refine aa [.fa 47 2 9 ta] z <| o1 z (r1 9 0 z ty3 z) <| bE H fun d3 a7 H => oq z (qc z kH (fun d c => bu d a7)) tt2 <| oP z <| ?_
    obtain rfl := ak H
    exact OW.sub key (sb z)
 ·clear H
  have H := g
  clear g
  generalize C = a8 at H key ⊢
  cases a8
  ·have H := aQ z H
   refine aa [.p, .p, .p, .p] z ?_
   obtain rfl := ak H
   exact OW.sub key (sb z)
  ·have H := aR z H
   refine aa [.fa 47 1 2 ru] z <| o1 z (rx 2 0 _ z ry z) <| bE H fun d4 a9 H => oq z (qc z LF (fun d c => um d (p0 := p0.c_) a9)) tt2 <| oP z <| ?_
   obtain rfl := ak H
   exact OW.sub key (sb z)
theorem qv (w : World) {p0 : aB} {a : List Value} {r : Int} (H : lW p0 = U r) (i : (bj).rd w [] p0 a) :
    Calls Tryz.prog 204 #[.agg a.toArray] w (fun en w' => en = .returned (I J r) ∧ Ext [] w w') := by
 obtain ⟨j, k, l, rfl, g, c, d⟩ := bV i
 obtain rfl := g
 obtain ⟨m, o, rfl⟩ := ah c
 obtain ⟨q, s, rfl⟩ := ah d
 unfold lW at H
 refine aq Tryz.func204 z Tryz.ntmps204 z (St.init w []) <| sR <| ob _ z fun t => oP z <| nQ <| ai <| sR <| o1 z (rx 0 0 _ z ed z) <| bE H fun u h H => oq z (qc z MD (fun f e => qX f h (cZ z (ab c f e) (ab d f e)))) tt2 <| oP z <| nQ <| cI H z (fun H => ?_) (fun H => ?_)
 ·exact sR <| oP z <| nT <| af <| xr 2 z (by cases H; exact q1)
 ·refine aj <| ao <| ai <| sR <| aa [.fa 111 1 1 gn] z <| o1 z (r1 1 0 z bW z) <| aa [.lenS 69 3 ce, .p] z <| nQ <| cI H z (fun H => ?_) (fun H => ?_)
  ·exact sR <| aa [.fa 111 1 1 gn] z <| o1 z (r1 1 0 z bW z) <| aa [.lenS 69 3 ce, .p, .p] z <| nT <| af <| xr 2 z (by cases H; exact q1)
  ·exact aj <| ao <| sR <| aa [.fa 111 2 2 ks] z <| o1 z (r1 2 0 z lr z) <| aa [.lenS 23 9 gm, .p] z <| nT <| xr 2 z (by cases H; exact q1)
theorem qn (w : World) {p0 : am} {p1 : aV} {a3 : List Value} {a4 : List Value} {r : Bool} (H : kB p0 p1 = U r) (g0 : (bK).rd w [] p0 a3) (g1 : (cL).rd w [] p1 a4) :
    Calls Tryz.prog 188 #[.agg a3.toArray, .agg a4.toArray] w (fun en w' => en = .returned (B r) ∧ Ext [] w w') := by
 obtain ⟨e9, f0, rfl, G, a5⟩ := aO g0
 obtain ⟨u, v, rfl⟩ := ah G
 obtain ⟨x, A, rfl⟩ := ah a5
 obtain ⟨f1, f2, rfl, k, L⟩ := aX g1
 obtain ⟨C, D, rfl⟩ := ah k
 obtain ⟨E, F, rfl⟩ := ah L
 unfold kB at H
 refine aq Tryz.func188 z Tryz.ntmps188 z (St.init w []) <| sR <| ob _ z fun d => ob _ z fun f => oP z <| nQ <| ai <| sR <| o1 z (rx 0 0 _ z ja z) <| bE H fun M c4 H => oq z (qc z HV (fun l m => iH l c4 (av (ab G l m) (ab a5 l m)))) tt2 <| oPP z <| aL [(24, B ((!M) || ((p1.k_.length : Int) != (p0.m_.length : Int)))), (2, O (U ⟨d, 0, N⟩)), (3, O (U ⟨f, 0, N⟩))] 8 ?_ (fun key => OW.sub (R := [(2, O (U ⟨d, 0, N⟩)), (3, O (U ⟨f, 0, N⟩)), (16, B (!M))]) ?_ (sb z))
 ·refine nQ <| cI H z (fun H => ?_) (fun H => ?_)
  ·exact sR <| oP z <| nT <| af <| xr 4 z (by cases H; exact q1)
  ·refine aj <| ao <| sR <| oP z <| nQ <| ai <| sR <| oP z <| nQ <| an <| CW.at (fx (fun (q : Int) (i : Int) => St w [] [b d 44 [S u p0.d_.length v, S x p0.m_.length A], b f 119 [S C p1.k_.length D, S E p1.h_.length F]]) (fun q i => [(2, O (U ⟨d, 0, N⟩)), (3, O (U ⟨f, 0, N⟩)), (5, I J q), (6, I J i)]) (fun kk => fun q i => dR p1 p0 kk q i = U r) (fun _ _ H => ?_) (fun k1 a8 q i H => ?_) aK (0) (0) (H)) (ss [0, 1] z z) (sb z)
   ·unfold dR at H
    exact absurd H (by simp)
   ·unfold dR at H
    refine ai <| sR <| aa [.p, .fa 119 0 0 gS] z <| o1 z (r1 0 1 z bW z) <| aa [.lenS 69 3 ce, .p] z <| nQ <| cI H z (fun H => ?_) (fun H => ?_)
    ·refine aj <| ao <| ai <| an <| ai <| sR <| aa [.fa 119 0 0 gS] z <| o1 z (r1 0 1 z bW z) <| oP z <| bE H fun f3 a6 H => bO (e := eI) (xs := p1.k_) (j := i) z z z z z ce ty3 z (ab k) a6 (by rw [Nat.mul_one]) <| o1 z (aF z z ty3 (cq (ab k) a6)) <| bE H fun f4 c5 H => oq z (qc z kH (fun l m => bu l c5)) tt2 <| oP z <| nQ <| cI H z (fun H => ?_) (fun H => ?_)
     ·exact sR <| oP z <| nT <| af <| ar <| af <| bd <| ar <| af <| xr 4 z (by cases H; exact q1)
     ·exact aj <| ao <| aJ <| aa [.p, .fa 119 0 0 gS] z <| o1 z (r1 0 1 z bW z) <| oP z <| bE H fun c6 a7 H => bO (e := eI) (xs := p1.k_) (j := i) z z z z z ce ty3 z (ab k) a7 (by rw [Nat.mul_one]) <| o1 z (aF z z ty3 (cq (ab k) a7)) <| oPP z <| aE <| cx <| ao <| aJ <| aa [.p, .p, .p] z <| aE <| cz (RW.at (a8 (J.wrap (q + c6)) (J.wrap (i + 1)) (H)) (ss [0, 1] z z) (sb z))
    ·refine bb <| aw <| ay <| ax <| ao <| ai <| sR <| oPP z <| nQ <| cI H z (fun H => ?_) (fun H => ?_)
     ·exact sR <| oP z <| nT <| af <| xr 4 z (by cases H; exact q1)
     ·refine aj <| ao <| ai <| sR <| aa [.fa 119 1 1 fm] z <| o1 z (r1 1 1 z fw z) <| aa [.lenS 33 69 eK, .p] z <| nQ <| cI H z (fun H => ?_) (fun H => ?_)
      ·exact sR <| oP z <| nT <| af <| xr 4 z (by cases H; exact q1)
      ·refine aj <| ao <| ai <| sR <| aa [.fa 119 1 1 fm] z <| o1 z (r1 1 1 z fw z) <| aa [.lenS 33 69 eK, .fa 44 0 0 fS] z <| o1 z (r1 0 0 z nP z) <| aa [.lenS 42 111 kr, .p] z <| nQ <| cI H z (fun H => ?_) (fun H => ?_)
       ·exact sR <| oP z <| nT <| af <| xr 4 z (by cases H; exact q1)
       ·refine aj <| ao <| ai <| sR <| oP z <| nQ <| an <| CW.at (dn (fun (a : Int) => St w [] [b d 44 [S u p0.d_.length v, S x p0.m_.length A], b f 119 [S C p1.k_.length D, S E p1.h_.length F]]) (fun a => [(2, O (U ⟨d, 0, N⟩)), (3, O (U ⟨f, 0, N⟩)), (7, I J a)]) (fun kk => fun a => cK p1 p0 kk a = U r) (fun _ H => ?_) (fun k2 a9 a H => ?_) aK (0) (H)) (ss [0, 1] z z) (sb z)
        ·unfold cK at H
         exact absurd H (by simp)
        ·unfold cK at H
         refine ai <| sR <| aa [.p, .fa 119 1 1 fm] z <| o1 z (r1 1 1 z fw z) <| aa [.lenS 33 69 eK, .p] z <| nQ <| cI H z (fun H => ?_) (fun H => ?_)
         ·refine aj <| ao <| ai <| an <| sR <| aa [.fa 44 0 0 fS] z <| o1 z (r1 0 0 z nP z) <| oP z <| bE H fun t b0 H => bQ z z z z z kr ed z G b0 fun d1 d2 X Z => ?_
          obtain ⟨d3, d4, d5, rfl, b1, P, Q⟩ := bV X
          obtain rfl := b1
          obtain ⟨b2, b3, rfl⟩ := ah P
          obtain ⟨b4, b5, rfl⟩ := ah Q
          refine o1 z (cu (cs := [vS t.E_, S b2 t.z_.length b3, S b4 t.I_.length b5]) z z ed (bB bor Z) z) <| bE H fun o b6 H => oq z (qc z GI (fun l m => qv l b6 (cZ z (ab P l m) (ab Q l m)))) tt2 <| oP z <| nQ <| ai <| ai <| eF eR (by kernel_rfl) <| aa [.fa 119 1 1 fm] z <| o1 z (r1 1 1 z fw z) <| oP z <| bE H fun d6 b7 H => bQ z z z z z eK bW z L b7 fun d7 d8 a0 a1 => ?_
          obtain ⟨d9, e0, rfl⟩ := ah a0
          refine o1 z (aF z z bW (bB bor a1)) <| aa [.lenS 69 3 ce, .p, .fa 44 1 1 lN] z <| o1 z (r1 1 0 z lr z) <| aa [.lenS 23 9 gm, .p, .p] z <| dg <| ao <| cI H z (fun H => ?_) (fun H => ?_)
          ·exact sR <| oP z <| nT <| af <| ar <| af <| bd <| ar <| af <| xr 4 z (by cases H; exact q1)
          ·refine aj <| ao <| sR <| oP z <| nQ <| an <| CW.at (dn (fun (c : Int) => St w [] [b d 44 [S u p0.d_.length v, S x p0.m_.length A], b f 119 [S C p1.k_.length D, S E p1.h_.length F]]) (fun c => [(2, O (U ⟨d, 0, N⟩)), (3, O (U ⟨f, 0, N⟩)), (7, I J a), (8, I J o), (9, I J c)]) (fun kk => fun c => bR p0 o p1 a (cK p1 p0 k2) kk c = U r) (fun _ H => ?_) (fun k3 b8 c H => ?_) aK (0) (H)) (ss [0, 1] z z) (sb z)
           ·unfold bR at H
            exact absurd H (by simp)
           ·unfold bR at H
            refine ai <| sR <| aa [.p, .fa 44 1 1 lN] z <| o1 z (r1 1 0 z lr z) <| aa [.lenS 23 9 gm, .p] z <| nQ <| cI H z (fun H => ?_) (fun H => ?_)
            ·refine aj <| ao <| ai <| an <| sR <| oP z <| nQ <| ai <| sR <| oP z <| nQ <| an <| CW.at (fx (fun (h : Int) (g : Int) => St w [] [b d 44 [S u p0.d_.length v, S x p0.m_.length A], b f 119 [S C p1.k_.length D, S E p1.h_.length F]]) (fun h g => [(2, O (U ⟨d, 0, N⟩)), (3, O (U ⟨f, 0, N⟩)), (7, I J a), (8, I J o), (9, I J c), (10, I J h), (11, I J g)]) (fun kk => fun h g => dh o p1 a p0 c (bR p0 o p1 a (cK p1 p0 k2) k3) kk h g = U r) (fun _ _ H => ?_) (fun k4 b9 h g H => ?_) aK (0) (0) (H)) (ss [0, 1] z z) (sb z)
             ·unfold dh at H
              exact absurd H (by simp)
             ·unfold dh at H
              refine ai <| sR <| aa [.p, .p, .p] z <| nQ <| cI H z (fun H => ?_) (fun H => ?_)
              ·refine aj <| ao <| ai <| an <| ai <| eF eR (by kernel_rfl) <| aa [.fa 119 1 1 fm] z <| o1 z (r1 1 1 z fw z) <| oP z <| bE H fun c0 c1 H => bQ z z z z z eK bW z L c1 fun e2 e3 s a2 => ?_
               obtain ⟨e4, e5, rfl⟩ := ah s
               refine o1 z (aF z z bW (bB bor a2)) <| aa [.p, .fa 44 1 1 lN] z <| o1 z (r1 1 0 z lr z) <| aa [.lenS 23 9 gm, .p, .p, .p] z <| bE H fun c2 T H => bO (e := eI) (xs := c0) (j := J.wrap ((J.wrap (g * (p0.m_.length : Int))) + c)) z z z z z ce ty3 z (ab s) T (by rw [Nat.mul_one]) <| o1 z (aF z z ty3 (cq (ab s) T)) <| oP z <| dg <| ao <| ai <| sR <| oP z <| bE H fun e6 c3 H => oq z (qc z kH (fun l m => bu l c3)) tt2 <| oP z <| nQ <| cI H z (fun H => ?_) (fun H => ?_)
               ·exact sR <| oP z <| nT <| af <| ar <| af <| bd <| ar <| af <| ar <| af <| bd <| ar <| ar <| af <| bd <| ar <| af <| xr 4 z (by cases H; exact q1)
               ·exact aj <| ao <| aJ <| aa [.p, .p, .p, .p] z <| aE <| cx <| ao <| aJ <| aa [.p, .p, .p] z <| aE <| cz (RW.at (b9 (J.wrap (h + c2)) (J.wrap (g + 1)) (H)) (ss [0, 1] z z) (sb z))
              ·refine bb <| aw <| ay <| ax <| ao <| sR <| aa [.p, .fa 119 0 0 gS] z <| o1 z (r1 0 1 z bW z) <| oP z <| bE H fun e7 V H => bO (e := eI) (xs := p1.k_) (j := c) z z z z z ce ty3 z (ab k) V (by rw [Nat.mul_one]) <| o1 z (aF z z ty3 (cq (ab k) V)) <| oP z <| nQ <| cI H z (fun H => ?_) (fun H => ?_)
               ·exact sR <| oP z <| nT <| ar <| af <| bd <| ar <| ar <| af <| bd <| ar <| af <| xr 4 z (by cases H; exact q1)
               ·exact aj <| cx <| ao <| aJ <| aa [.p, .p, .p] z <| aE <| cz (RW.at (b8 (J.wrap (c + 1)) (H)) (ss [0, 1] z z) (sb z))
            ·exact bb <| aw <| ay <| ax <| cx <| ao <| aJ <| aa [.p, .p, .p] z <| aE <| cz (RW.at (a9 (J.wrap (a + 1)) (H)) (ss [0, 1] z z) (sb z))
         ·exact bb <| aw <| ay <| ax <| ao <| sR <| oP z <| nT <| xr 4 z (by cases H; exact q1)
 ·generalize (!M) = c8 at key ⊢
  cases c8
  ·exact aa [.fa 119 0 0 gS] z <| o1 z (r1 0 1 z bW z) <| aa [.lenS 69 3 ce, .fa 44 1 1 lN] z <| o1 z (r1 1 0 z lr z) <| aa [.lenS 23 9 gm, .p] z <| oP z <| OW.sub key (sb z)
  ·exact aa [.p, .p, .p, .p, .p, .p, .p, .p] z <| OW.sub key (sb z)
theorem tF (w : World) {p0 : am} {p1 : List Int} {l : List Value} {a_1 : Option Addr} {n_1 c_1 : Nat} {r : Bool} (H : lX p0 p1 = U r) (T : (bK).rd w [] p0 l) (d : (ae eI 3).rd w [] p1 [S a_1 n_1 c_1]) :
    Calls Tryz.prog 189 #[.agg l.toArray, S a_1 n_1 c_1] w (fun en w' => en = .returned (B r) ∧ Ext [] w w') := by
 obtain ⟨V, X, rfl, m, o⟩ := aO T
 obtain ⟨x, A, rfl⟩ := ah m
 obtain ⟨C, D, rfl⟩ := ah o
 obtain rfl := eb d
 unfold lX at H
 refine aq Tryz.func189 z Tryz.ntmps189 z (St.init w []) <| sR <| ob _ z fun c => oP z <| nQ <| ai <| sR <| o1 z (rx 0 0 _ z ja z) <| bE H fun f E H => oq z (qc z HV (fun g h => iH g E (av (ab m g h) (ab o g h)))) tt2 <| oPP z <| aL [(13, B ((!f) || ((p1.length : Int) == 0))), (1, S a_1 p1.length c_1), (2, O (U ⟨c, 0, N⟩))] 4 ?_ (fun key => OW.sub (R := [(1, S a_1 p1.length c_1), (2, O (U ⟨c, 0, N⟩)), (9, B (!f))]) ?_ (sb z))
 ·refine nQ <| cI H z (fun H => ?_) (fun H => ?_)
  ·exact sR <| oP z <| nT <| af <| xr 4 z (by cases H; exact q1)
  ·refine aj <| ao <| ai <| sR <| oP z <| nQ <| an <| CW.at (dn (fun (a : Int) => St w [] [b c 44 [S x p0.d_.length A, S C p0.m_.length D]]) (fun a => [(1, S a_1 p1.length c_1), (2, O (U ⟨c, 0, N⟩)), (5, I J a)]) (fun kk => fun a => ik p1 p0 kk a = U r) (fun _ H => ?_) (fun k1 v a H => ?_) aK (0) (H)) (ss [0] z z) (sb z)
   ·unfold ik at H
    exact absurd H (by simp)
   ·unfold ik at H
    refine ai <| sR <| aa [.p, .p, .lenS 69 3 ce, .p] z <| nQ <| cI H z (fun H => ?_) (fun H => ?_)
    ·refine aj <| ao <| ai <| an <| ai <| eF eR (by kernel_rfl) <| oPP z <| bE H fun Z q H => bO (e := eI) (xs := p1) (j := a) z z z z z ce ty3 z (ab d) q (by rw [Nat.mul_one]) <| o1 z (aF z z ty3 (cq (ab d) q)) <| aa [.fa 44 0 0 fS] z <| o1 z (r1 0 0 z nP z) <| aa [.lenS 42 111 kr, .p] z <| bE H fun s F H => oq z (qc z kH (fun g h => bu g F)) tt2 <| oPP z <| bE H fun G i H => aL [(45, B G), (1, S a_1 p1.length c_1), (2, O (U ⟨c, 0, N⟩)), (5, I J a)] 15 ?_ (fun key => OW.sub (R := [(1, S a_1 p1.length c_1), (2, O (U ⟨c, 0, N⟩)), (5, I J a), (30, B (!s))]) ?_ (sb z))
     ·refine dg <| ao <| cI H z (fun H => ?_) (fun H => ?_)
      ·exact sR <| oP z <| nT <| ar <| af <| bd <| ar <| af <| xr 4 z (by cases H; exact q1)
      ·exact aj <| cx <| ao <| aJ <| aa [.p, .p, .p] z <| aE <| cz (RW.at (v (J.wrap (a + 1)) (H)) (ss [0] z z) (sb z))
     ·clear H
      have H := i
      clear i
      generalize (!s) = L at H key ⊢
      cases L
      ·have H := aQ z H
       refine aa [.p, .p, .p] z <| bE H fun M k H => aL [(44, B M), (1, S a_1 p1.length c_1), (2, O (U ⟨c, 0, N⟩)), (5, I J a), (30, B n)] 11 ?_ (fun key => OW.sub (R := [(1, S a_1 p1.length c_1), (2, O (U ⟨c, 0, N⟩)), (5, I J a), (30, B n), (33, B (decide (a > 0)))]) ?_ (sb z))
       ·refine aa [.p] z ?_
        obtain rfl := ak H
        exact OW.sub key (sb z)
       ·clear H
        have H := k
        clear k
        generalize (decide (a > 0)) = P at H key ⊢
        cases P
        ·have H := aQ z H
         refine aa [.p, .p, .p, .p, .p, .p, .p, .p, .p, .p, .p] z ?_
         obtain rfl := ak H
         exact OW.sub key (sb z)
        ·have H := aR z H
         refine oPP z <| bE H fun a0 t H => bO (e := eI) (xs := p1) (j := a) z z z z z ce ty3 z (ab d) t (by rw [Nat.mul_one]) <| o1 z (aF z z ty3 (cq (ab d) t)) <| aa [.p, .p, .p] z <| bE H fun a1 u H => bO (e := eI) (xs := p1) (j := J.wrap (a - 1)) z z z z z ce ty3 z (ab d) u (by rw [Nat.mul_one]) <| o1 z (aF z z ty3 (cq (ab d) u)) <| oP z <| oP z <| ?_
         obtain rfl := ak H
         exact OW.sub key (sb z)
      ·have H := aR z H
       refine aa [.p, .p, .p, .p, .p, .p, .p, .p, .p, .p, .p, .p, .p, .p, .p] z ?_
       obtain rfl := ak H
       exact OW.sub key (sb z)
    ·exact bb <| aw <| ay <| ax <| ao <| sR <| oP z <| nT <| xr 4 z (by cases H; exact q1)
 ·generalize (!f) = Q at key ⊢
  cases Q
  ·exact aa [.p, .lenS 69 3 ce, .p] z <| oP z <| OW.sub key (sb z)
  ·exact aa [.p, .p, .p, .p] z <| OW.sub key (sb z)
theorem vC (w : World) {p0 : am} {p1 : aV} {h : List Value} {i : List Value} {r : Int} (H : kL p0 p1 = U r) (D : (bK).rd w [] p0 h) (E : (cL).rd w [] p1 i) :
    Calls Tryz.prog 190 #[.agg h.toArray, .agg i.toArray] w (fun en w' => en = .returned (I J r) ∧ Ext [] w w') := by
 obtain ⟨F, G, rfl, k, l⟩ := aO D
 obtain ⟨L, M, rfl⟩ := ah k
 obtain ⟨P, Q, rfl⟩ := ah l
 obtain ⟨R, T, rfl, d, m⟩ := aX E
 obtain ⟨t, u, rfl⟩ := ah d
 obtain ⟨v, x, rfl⟩ := ah m
 unfold kL at H
 refine aq Tryz.func190 z Tryz.ntmps190 z (St.init w []) <| sR <| ob _ z fun V => ob _ z fun o => oP z <| nQ <| ai <| sR <| o1 z (rx 0 0 _ z ja z) <| o1 z (rx 0 1 _ z rr z) <| bE H fun X A H => oq z (qc z JT (fun g f => qn g A (av (ab k g f) (ab l g f)) (ct (ab d g f) (ab m g f)))) tt2 <| oP z <| nQ <| cI H z (fun H => ?_) (fun H => ?_)
 ·exact sR <| oP z <| nT <| af <| xr 4 z (by cases H; exact q1)
 ·refine aj <| ao <| sR <| oP z <| nQ <| ai <| sR <| oP z <| nQ <| an <| CW.at (fx (fun (c : Int) (a : Int) => St w [] [b o 119 [S t p1.k_.length u, S v p1.h_.length x]]) (fun c a => [(3, O (U ⟨o, 0, N⟩)), (5, I J c), (6, I J a)]) (fun kk => fun c a => fH p1 kk c a = U r) (fun _ _ H => ?_) (fun Z s c a H => ?_) aK (0) (0) (H)) (ss [1] z z) (sb z)
  ·unfold fH at H
   exact absurd H (by simp)
  ·unfold fH at H
   refine ai <| sR <| aa [.p, .fa 119 0 0 gS] z <| o1 z (r1 0 0 z bW z) <| aa [.lenS 69 3 ce, .p] z <| nQ <| cI H z (fun H => ?_) (fun H => ?_)
   ·exact aj <| ao <| ai <| an <| aJ <| aa [.p, .fa 119 0 0 gS] z <| o1 z (r1 0 0 z bW z) <| oP z <| bE H fun C q H => bO (e := eI) (xs := p1.k_) (j := a) z z z z z ce ty3 z (ab d) q (by rw [Nat.mul_one]) <| o1 z (aF z z ty3 (cq (ab d) q)) <| oPP z <| aE <| cx <| ao <| aJ <| aa [.p, .p, .p] z <| aE <| cz (RW.at (s (J.wrap (c + C)) (J.wrap (a + 1)) (H)) (ss [0] z z) (sb z))
   ·exact bb <| aw <| ay <| ax <| ao <| sR <| oPP z <| nT <| xr 4 z (by cases H; exact q1)
theorem zn (w : World) {p0 : am} {p1 : au} {m : List Value} {o : List Value} {r : Bool} (H : km p0 p1 = U r) (Z : (bK).rd w [] p0 m) (g1 : (bc).rd w [] p1 o) :
    Calls Tryz.prog 173 #[.agg m.toArray, .agg o.toArray] w (fun en w' => en = .returned (B r) ∧ Ext [] w w') := by
 obtain ⟨a1, a2, rfl, f, g⟩ := aO Z
 obtain ⟨a3, a4, rfl⟩ := ah f
 obtain ⟨a5, a6, rfl⟩ := ah g
 obtain ⟨a7, a8, a9, b0, b1, b2, b3, b4, b5, b6, rfl, s, t, u, v, x, A, q, C, D, E⟩ := bA g1
 obtain rfl := s
 obtain rfl := t
 obtain ⟨b7, b8, rfl⟩ := ah u
 obtain rfl := v
 obtain ⟨b9, c0, rfl, h, i⟩ := aX x
 obtain ⟨c1, c2, rfl⟩ := ah h
 obtain ⟨c3, c4, rfl⟩ := ah i
 obtain rfl := A
 obtain ⟨c5, c6, rfl⟩ := ah q
 obtain rfl := C
 obtain rfl := D
 obtain rfl := E
 unfold km at H
 refine aq Tryz.func173 z Tryz.ntmps173 z (St.init w []) <| sR <| ob _ z fun d => ob _ z fun e => oP z <| nQ <| ai <| sR <| aa [.fa 121 1 1 iW] z <| o1 z (rx 1 1 _ z oI z) <| o1 z (uU [] [I J 0, I J 0] z z oI Lv z Y z) <| o1 z (Kk (xs := [I J p1.g_.q_, I J p1.g_.u_]) (ys := [I J 0, I J 0]) z z z (IR p1.g_.q_ 0 p1.g_.u_ 0)) <| oP z <| aL [(14, B ((!(p1.g_.q_ == 0 && (p1.g_.u_ == 0 && y))) || (decide ((p1.r_.length : Int) > 0)))), (2, O (U ⟨d, 0, N⟩)), (3, O (U ⟨e, 0, N⟩))] 5 ?_ (fun key => OW.sub (R := [(2, O (U ⟨d, 0, N⟩)), (3, O (U ⟨e, 0, N⟩)), (9, B (!(p1.g_.q_ == 0 && (p1.g_.u_ == 0 && y))))]) ?_ (sb z))
 ·refine oP z <| aL [(19, B (((!(p1.g_.q_ == 0 && (p1.g_.u_ == 0 && y))) || (decide ((p1.r_.length : Int) > 0))) || (p1.C_ != 0))), (2, O (U ⟨d, 0, N⟩)), (3, O (U ⟨e, 0, N⟩))] 4 ?_ (fun key => OW.sub (R := [(2, O (U ⟨d, 0, N⟩)), (3, O (U ⟨e, 0, N⟩)), (15, B ((!(p1.g_.q_ == 0 && (p1.g_.u_ == 0 && y))) || (decide ((p1.r_.length : Int) > 0))))]) ?_ (sb z))
  ·refine oP z <| bE H fun j k H => aL [(26, B j), (2, O (U ⟨d, 0, N⟩)), (3, O (U ⟨e, 0, N⟩))] 6 ?_ (fun key => OW.sub (R := [(2, O (U ⟨d, 0, N⟩)), (3, O (U ⟨e, 0, N⟩)), (20, B (((!(p1.g_.q_ == 0 && (p1.g_.u_ == 0 && y))) || (decide ((p1.r_.length : Int) > 0))) || (p1.C_ != 0)))]) ?_ (sb z))
   ·refine oP z <| bE H fun F l H => aL [(33, B F), (2, O (U ⟨d, 0, N⟩)), (3, O (U ⟨e, 0, N⟩))] 6 ?_ (fun key => OW.sub (R := [(2, O (U ⟨d, 0, N⟩)), (3, O (U ⟨e, 0, N⟩)), (27, B j)]) ?_ (sb z))
    ·refine nQ <| cI H z (fun H => ?_) (fun H => ?_)
     ·exact sR <| oP z <| nT <| af <| xr 4 z (by cases H; exact q1)
     ·refine aj <| ao <| ai <| sR <| aa [.fa 121 4 5 eY, .fa 119 1 1 fm] z <| o1 z (r1 6 1 z fw z) <| aa [.lenS 33 69 eK, .p] z <| nQ <| cI H z (fun H => ?_) (fun H => ?_)
      ·exact sR <| aa [.fa 121 5 7 ln] z <| o1 z (r1 7 1 z ty3 z) <| oPP z <| nT <| af <| xr 4 z (by cases H; exact q1)
      ·exact aj <| ao <| ai <| eF eR (by kernel_rfl) <| aa [.fa 121 5 7 ln] z <| o1 z (r1 7 1 z ty3 z) <| o1 z (rx 0 0 _ z ja z) <| aa [.fa 121 4 5 eY] z <| o1 z (rx 5 1 _ z rr z) <| bE H fun c7 G H => oq z (qc z Nr (fun c a => vC c G (av (ab f c a) (ab g c a)) (ct (ab h c a) (ab i c a)))) tt2 <| bE H fun c8 L H => oq z (qc z kH (fun c a => bu c L)) tt2 <| oP z <| dg <| ao <| rG <| xr 4 z (by cases H; exact q1)
    ·clear H
     have H := l
     clear l
     generalize j = M at H key ⊢
     cases M
     ·have H := aQ z H
      refine o1 z (rx 0 0 _ z ja z) <| aa [.fa 121 6 8 mX] z <| o1 z (r1 8 1 z bW z) <| bE H fun c9 P H => oq z (qc z LG (fun c a => tF c P (av (ab f c a) (ab g c a)) (ab q c a))) tt2 <| oP z <| oP z <| ?_
      obtain rfl := ak H
      exact OW.sub key (sb z)
     ·have H := aR z H
      refine aa [.p, .p, .p, .p, .p, .p] z ?_
      obtain rfl := ak H
      exact OW.sub key (sb z)
   ·clear H
    have H := k
    clear k
    generalize (((!(p1.g_.q_ == 0 && (p1.g_.u_ == 0 && y))) || (decide ((p1.r_.length : Int) > 0))) || (p1.C_ != 0)) = Q at H key ⊢
    cases Q
    ·have H := aQ z H
     refine o1 z (rx 0 0 _ z ja z) <| aa [.fa 121 4 5 eY] z <| o1 z (rx 5 1 _ z rr z) <| bE H fun d0 T H => oq z (qc z JT (fun c a => qn c T (av (ab f c a) (ab g c a)) (ct (ab h c a) (ab i c a)))) tt2 <| oP z <| oP z <| ?_
     obtain rfl := ak H
     exact OW.sub key (sb z)
    ·have H := aR z H
     refine aa [.p, .p, .p, .p, .p, .p] z ?_
     obtain rfl := ak H
     exact OW.sub key (sb z)
  ·generalize ((!(p1.g_.q_ == 0 && (p1.g_.u_ == 0 && y))) || (decide ((p1.r_.length : Int) > 0))) = V at key ⊢
   cases V
   ·exact aa [.fa 121 3 4 mc] z <| o1 z (r1 4 1 z ty3 z) <| oP z <| oP z <| OW.sub key (sb z)
   ·exact aa [.p, .p, .p, .p] z <| OW.sub key (sb z)
 ·generalize (!(p1.g_.q_ == 0 && (p1.g_.u_ == 0 && y))) = X at key ⊢
  cases X
  ·exact aa [.fa 121 2 3 gf] z <| o1 z (r1 3 1 z bW z) <| aa [.lenS 69 3 ce, .p] z <| oP z <| OW.sub key (sb z)
  ·exact aa [.p, .p, .p, .p, .p] z <| OW.sub key (sb z)
theorem ul (w : World) {p0 : am} {p1 : bC} {h : List Value} {r : Bool} (H : np p0 p1 = U r) (g0 : (bK).rd w [] p0 h) :
    Calls Tryz.prog 191 #[.agg h.toArray, .agg #[I J p1.q_, I J p1.u_]] w (fun en w' => en = .returned (B r) ∧ Ext [] w w') := by
 obtain ⟨b3, b4, rfl, d, i⟩ := aO g0
 obtain ⟨b5, b6, rfl⟩ := ah d
 obtain ⟨b7, b8, rfl⟩ := ah i
 unfold np at H
 refine aq Tryz.func191 z Tryz.ntmps191 z (St.init w []) <| sR <| ob _ z fun j => ob _ z fun k => oP z <| nQ <| ai <| sR <| o1 z (rx 0 0 _ z ja z) <| bE H fun l D H => oq z (qc z HV (fun a c => iH a D (av (ab d a c) (ab i a c)))) tt2 <| oPP z <| bE H fun E e H => aL [(17, B E), (2, O (U ⟨j, 0, N⟩)), (3, O (U ⟨k, 0, N⟩))] 9 ?_ (fun key => OW.sub (R := [(2, O (U ⟨j, 0, N⟩)), (3, O (U ⟨k, 0, N⟩)), (8, B (!l))]) ?_ (sb z))
 ·refine nQ <| cI H z (fun H => ?_) (fun H => ?_)
  ·exact sR <| oP z <| nT <| af <| xr 4 z (by cases H; exact q1)
  ·refine aj <| ao <| ai <| sR <| aa [.fa 44 0 0 fS] z <| o1 z (r1 0 0 z nP z) <| aa [.fa 117 0 0 ky] z <| o1 z (r1 0 1 z ty3 z) <| bE H fun b9 F H => bQ z z z z z kr ed z d F fun c0 c1 t u => ?_
   obtain ⟨c2, c3, c4, rfl, G, L, M⟩ := bV t
   obtain rfl := G
   obtain ⟨c5, c6, rfl⟩ := ah L
   obtain ⟨c7, c8, rfl⟩ := ah M
   refine aa [.fa 111 1 1 gn] z <| o1 z (aF z z bW (bB bor (Aq u 1 1))) <| aa [.lenS 69 3 ce, .p] z <| nQ <| cI H z (fun H => ?_) (fun H => ?_)
   ·refine ai <| eF eR (by kernel_rfl) <| aa [.fa 117 1 1 mb] z <| o1 z (r1 1 1 z ty3 z) <| aa [.fa 44 0 0 fS] z <| o1 z (r1 0 0 z nP z) <| aa [.fa 117 0 0 ky] z <| o1 z (r1 0 1 z ty3 z) <| bE H fun f P H => bQ z z z z z kr ed z d P fun c9 d0 v x => ?_
    obtain ⟨d1, d2, d3, rfl, Q, m, o⟩ := bV v
    obtain rfl := Q
    obtain ⟨T, V, rfl⟩ := ah m
    obtain ⟨X, Z, rfl⟩ := ah o
    exact o1 z (cu (cs := [vS f.E_, S T f.z_.length V, S X f.I_.length Z]) z z ed (bB bor x) z) <| bE H fun d4 a0 H => oq z (qc z GI (fun a c => qv a a0 (cZ z (ab m a c) (ab o a c)))) tt2 <| oP z <| bE H fun d5 a1 H => oq z (qc z kH (fun a c => bu a a1)) tt2 <| oP z <| dg <| ao <| rG <| af <| xr 4 z (by cases H; exact q1)
   ·refine aj <| ao <| ai <| eF eR (by kernel_rfl) <| aa [.fa 117 1 1 mb] z <| o1 z (r1 1 1 z ty3 z) <| aa [.fa 44 0 0 fS] z <| o1 z (r1 0 0 z nP z) <| aa [.fa 117 0 0 ky] z <| o1 z (r1 0 1 z ty3 z) <| bE H fun g a2 H => bQ z z z z z kr ed z d a2 fun d6 d7 A C => ?_
    obtain ⟨d8, d9, e0, rfl, a3, q, s⟩ := bV A
    obtain rfl := a3
    obtain ⟨a4, a5, rfl⟩ := ah q
    obtain ⟨a6, a7, rfl⟩ := ah s
    exact o1 z (cu (cs := [vS g.E_, S a4 g.z_.length a5, S a6 g.I_.length a7]) z z ed (bB bor C) z) <| bE H fun e1 a8 H => oq z (qc z GI (fun a c => qv a a8 (cZ z (ab q a c) (ab s a c)))) tt2 <| oP z <| bE H fun e2 a9 H => oq z (qc z kH (fun a c => bu a a9)) tt2 <| oP z <| dg <| ao <| rG <| xr 4 z (by cases H; exact q1)
 ·clear H
  have H := e
  clear e
  generalize (!l) = b0 at H key ⊢
  cases b0
  ·have H := aQ z H
   refine aa [.fa 117 0 0 ky] z <| o1 z (r1 0 1 z ty3 z) <| aa [.fa 44 0 0 fS] z <| o1 z (r1 0 0 z nP z) <| aa [.lenS 42 111 kr, .p] z <| bE H fun e3 b1 H => oq z (qc z kH (fun a c => bu a b1)) tt2 <| oP z <| oP z <| ?_
   obtain rfl := ak H
   exact OW.sub key (sb z)
  ·have H := aR z H
   refine aa [.p, .p, .p, .p, .p, .p, .p, .p, .p] z ?_
   obtain rfl := ak H
   exact OW.sub key (sb z)
theorem xx (w : World) {p0 : am} {p1 : bC} {f : List Value} {r : Int} (H : mA p0 p1 = U r) (v : (bK).rd w [] p0 f) :
    Calls Tryz.prog 192 #[.agg f.toArray, .agg #[I J p1.q_, I J p1.u_]] w (fun en w' => en = .returned (I J r) ∧ Ext [] w w') := by
 obtain ⟨x, A, rfl, d, g⟩ := aO v
 obtain ⟨C, D, rfl⟩ := ah d
 obtain ⟨E, F, rfl⟩ := ah g
 unfold mA at H
 refine aq Tryz.func192 z Tryz.ntmps192 z (St.init w []) <| sR <| ob _ z fun G => ob _ z fun L => oP z <| nQ <| ai <| sR <| o1 z (rx 0 0 _ z ja z) <| o1 z (rx 0 1 _ z oI z) <| bE H fun M l H => oq z (qc z LB (fun c a => ul c (p1 := p1) l (av (ab d c a) (ab g c a)))) tt2 <| oP z <| nQ <| cI H z (fun H => ?_) (fun H => ?_)
 ·exact sR <| oP z <| nT <| af <| xr 4 z (by cases H; exact q1)
 ·refine aj <| ao <| ai <| sR <| aa [.fa 117 1 1 mb] z <| o1 z (r1 1 1 z ty3 z) <| oP z <| nQ <| cI H z (fun H => ?_) (fun H => ?_)
  ·refine sR <| aa [.fa 44 0 0 fS] z <| o1 z (r1 0 0 z nP z) <| aa [.fa 117 0 0 ky] z <| o1 z (r1 0 1 z ty3 z) <| bE H fun e m H => bQ z z z z z kr ed z d m fun P Q j k => ?_
   obtain ⟨R, T, V, rfl, o, h, i⟩ := bV j
   obtain rfl := o
   obtain ⟨p, q, rfl⟩ := ah h
   obtain ⟨s, t, rfl⟩ := ah i
   exact o1 z (cu (cs := [vS e.E_, S p e.z_.length q, S s e.I_.length t]) z z ed (bB bor k) z) <| bE H fun X u H => oq z (qc z GI (fun c a => qv c u (cZ z (ab h c a) (ab i c a)))) tt2 <| oP z <| nT <| af <| xr 4 z (by cases H; exact q1)
  ·exact aj <| ao <| sR <| oP z <| nT <| xr 4 z (by cases H; exact q1)
theorem xS (w : World) {p0 : am} {p1 : ap} {h : Int} {a7 : List Value} {a8 : List Value} {r : Bool} (H : jH p0 p1 h = U r) (g0 : (bK).rd w [] p0 a7) (g1 : (bp).rd w [] p1 a8) :
    Calls Tryz.prog 174 #[.agg a7.toArray, .agg a8.toArray, I J h] w (fun en w' => en = .returned (B r) ∧ Ext [] w w') := by
 obtain ⟨j1, j2, rfl, o, q⟩ := aO g0
 obtain ⟨j3, j4, rfl⟩ := ah o
 obtain ⟨j5, j6, rfl⟩ := ah q
 obtain ⟨j7, j8, rfl, x, d5⟩ := aW g1
 obtain ⟨d6, d7, rfl⟩ := ah x
 obtain rfl := d5
 unfold jH at H
 refine aq Tryz.func174 z Tryz.ntmps174 z (St.init w []) <| sR <| ob _ z fun k => ob _ z fun d => oP z <| nR <| aa [.fa 73 0 0 eg] z <| o1 z (r1 0 1 z kN z) <| oP z <| bE H fun a d8 H => bQ z z z z z fT co z x d8 fun j9 k0 b3 b4 => ?_
 obtain ⟨k2, k3, k4, k5, k6, k7, k8, k9, l0, l1, rfl, d9, e0, l, e1, e2, e3, a9, e4, e5, e6⟩ := bA b3
 obtain rfl := d9
 obtain rfl := e0
 obtain ⟨A, C, rfl⟩ := ah l
 obtain rfl := e1
 obtain ⟨l2, l3, rfl, b0, b1⟩ := aX e2
 obtain ⟨D, E, rfl⟩ := ah b0
 obtain ⟨F, G, rfl⟩ := ah b1
 obtain rfl := e3
 obtain ⟨L, M, rfl⟩ := ah a9
 obtain rfl := e4
 obtain rfl := e5
 obtain rfl := e6
 refine o1 z (cu (cs := [B a.y_, I J a.g_.q_, I J a.g_.u_, S A a.r_.length C, I J a.C_, S D a.i_.k_.length E, S F a.i_.h_.length G, I J a.D_, S L a.d_.length M, I J a.f_, I J a.x_, I J a.B_]) z z co (bB bor b4) z) <| bL z z z z co (fun _ => kp) fun f => sC 0 [B a.y_, I J a.g_.q_, I J a.g_.u_, S A a.r_.length C, I J a.C_, S D a.i_.k_.length E, S F a.i_.h_.length G, I J a.D_, S L a.d_.length M, I J a.f_, I J a.x_, I J a.B_] [_, _, _, _, _, _, _, _, _, _, _, _] 2 z co z <| nQ <| ai <| ai <| eF eR (by kernel_rfl) <| o1 z (rx 0 0 _ z ja z) <| aa [.fa 121 1 1 iW] z <| o1 z (rx 1 2 _ z oI z) <| bE H fun b2 e7 H => oq z (qc z LB (fun i g => ul i (p1 := a.g_) e7 (av (ab o i g) (ab q i g)))) tt2 <| oPP z <| bE H fun P Q H => aL [(28, B P), (2, I J h), (3, O (U ⟨k, 0, N⟩)), (4, O (U ⟨d, 0, N⟩)), (7, O (U ⟨f, 0, N⟩))] 9 ?_ (fun key => OW.sub (R := [(2, I J h), (3, O (U ⟨k, 0, N⟩)), (4, O (U ⟨d, 0, N⟩)), (7, O (U ⟨f, 0, N⟩)), (19, B (!b2))]) ?_ (sb z))
 ·refine oP z <| bE H fun T V H => aL [(38, B T), (2, I J h), (3, O (U ⟨k, 0, N⟩)), (4, O (U ⟨d, 0, N⟩)), (7, O (U ⟨f, 0, N⟩))] 9 ?_ (fun key => OW.sub (R := [(2, I J h), (3, O (U ⟨k, 0, N⟩)), (4, O (U ⟨d, 0, N⟩)), (7, O (U ⟨f, 0, N⟩)), (29, B P)]) ?_ (sb z))
  ·refine oP z <| bE H fun m X H => aL [(45, B m), (2, I J h), (3, O (U ⟨k, 0, N⟩)), (4, O (U ⟨d, 0, N⟩)), (7, O (U ⟨f, 0, N⟩))] 6 ?_ (fun key => OW.sub (R := [(2, I J h), (3, O (U ⟨k, 0, N⟩)), (4, O (U ⟨d, 0, N⟩)), (7, O (U ⟨f, 0, N⟩)), (39, B T)]) ?_ (sb z))
   ·refine oP z <| aL [(52, B (m || (decide ((a.i_.h_.length : Int) > 0)))), (2, I J h), (3, O (U ⟨k, 0, N⟩)), (4, O (U ⟨d, 0, N⟩)), (7, O (U ⟨f, 0, N⟩))] 6 ?_ (fun key => OW.sub (R := [(2, I J h), (3, O (U ⟨k, 0, N⟩)), (4, O (U ⟨d, 0, N⟩)), (7, O (U ⟨f, 0, N⟩)), (46, B m)]) ?_ (sb z))
    ·refine oP z <| aL [(57, B ((m || (decide ((a.i_.h_.length : Int) > 0))) || (a.D_ != 0))), (2, I J h), (3, O (U ⟨k, 0, N⟩)), (4, O (U ⟨d, 0, N⟩)), (7, O (U ⟨f, 0, N⟩))] 4 ?_ (fun key => OW.sub (R := [(2, I J h), (3, O (U ⟨k, 0, N⟩)), (4, O (U ⟨d, 0, N⟩)), (7, O (U ⟨f, 0, N⟩)), (53, B (m || (decide ((a.i_.h_.length : Int) > 0))))]) ?_ (sb z))
     ·refine oP z <| bE H fun e9 Z H => aL [(64, B e9), (2, I J h), (4, O (U ⟨d, 0, N⟩)), (7, O (U ⟨f, 0, N⟩))] 6 ?_ (fun key => OW.sub (R := [(2, I J h), (3, O (U ⟨k, 0, N⟩)), (4, O (U ⟨d, 0, N⟩)), (7, O (U ⟨f, 0, N⟩)), (58, B ((m || (decide ((a.i_.h_.length : Int) > 0))) || (a.D_ != 0)))]) ?_ (sb z))
      ·refine dg <| ao <| cI H z (fun H => ?_) (fun H => ?_)
       ·exact sR <| oP z <| nT <| af <| xr 6 z (by cases H; exact q1)
       ·refine aj <| ao <| ai <| sR <| oP z <| nQ <| an <| CW.at (dn (fun (c : Int) => St w [] [b d 73 [S d6 p1.b_.length d7, I J p1.A_], b f 121 [B a.y_, I J a.g_.q_, I J a.g_.u_, S A a.r_.length C, I J a.C_, S D a.i_.k_.length E, S F a.i_.h_.length G, I J a.D_, S L a.d_.length M, I J a.f_, I J a.x_, I J a.B_]]) (fun c => [(2, I J h), (4, O (U ⟨d, 0, N⟩)), (7, O (U ⟨f, 0, N⟩)), (8, I J c)]) (fun kk => fun c => gv a h p1 kk c = U r) (fun _ H => ?_) (fun k1 b5 c H => ?_) aK (0) (H)) (ss [1, 2] z z) (sb z)
        ·unfold gv at H
         exact absurd H (by simp)
        ·unfold gv at H
         refine ai <| sR <| aa [.p, .fa 121 2 3 gf] z <| o1 z (r1 3 1 z bW z) <| aa [.lenS 69 3 ce, .p] z <| nQ <| cI H z (fun H => ?_) (fun H => ?_)
         ·refine aj <| ao <| ai <| an <| ai <| eF eR (by kernel_rfl) <| aa [.fa 121 2 3 gf] z <| o1 z (r1 3 1 z bW z) <| oP z <| bE H fun g4 a0 H => bO (e := eI) (xs := a.r_) (j := c) z z z z z ce ty3 z (ab l) a0 (by rw [Nat.mul_one]) <| o1 z (aF z z ty3 (cq (ab l) a0)) <| aa [.p, .p, .fa 73 0 0 eg] z <| o1 z (r1 0 0 z kN z) <| aa [.lenS 71 121 fT, .p] z <| bE H fun a1 b6 H => oq z (qc z kH (fun i g => bu i b6)) tt2 <| oPP z <| bE H fun s t H => aL [(98, B s), (2, I J h), (4, O (U ⟨d, 0, N⟩)), (7, O (U ⟨f, 0, N⟩)), (8, I J c)] 13 ?_ (fun key => OW.sub (R := [(2, I J h), (4, O (U ⟨d, 0, N⟩)), (7, O (U ⟨f, 0, N⟩)), (8, I J c), (85, B (!a1))]) ?_ (sb z))
          ·refine oP z <| bE H fun b7 u H => aL [(116, B b7), (2, I J h), (4, O (U ⟨d, 0, N⟩)), (7, O (U ⟨f, 0, N⟩)), (8, I J c)] 17 ?_ (fun key => OW.sub (R := [(2, I J h), (4, O (U ⟨d, 0, N⟩)), (7, O (U ⟨f, 0, N⟩)), (8, I J c), (99, B s)]) ?_ (sb z))
           ·refine dg <| ao <| cI H z (fun H => ?_) (fun H => ?_)
            ·exact sR <| oP z <| nT <| ar <| af <| bd <| ar <| af <| xr 6 z (by cases H; exact q1)
            ·exact aj <| cx <| ao <| aJ <| aa [.p, .p, .p] z <| aE <| cz (RW.at (b5 (J.wrap (c + 1)) (H)) (ss [0, 1] z z) (sb z))
           ·clear H
            have H := u
            clear u
            generalize s = b8 at H key ⊢
            cases b8
            ·have H := aQ z H
             refine aa [.p, .p, .p] z <| bE H fun b9 v H => aL [(115, B b9), (2, I J h), (4, O (U ⟨d, 0, N⟩)), (7, O (U ⟨f, 0, N⟩)), (8, I J c), (99, B n)] 13 ?_ (fun key => OW.sub (R := [(2, I J h), (4, O (U ⟨d, 0, N⟩)), (7, O (U ⟨f, 0, N⟩)), (8, I J c), (99, B n), (102, B (decide (c > 0)))]) ?_ (sb z))
             ·refine aa [.p] z ?_
              obtain rfl := ak H
              exact OW.sub key (sb z)
             ·clear H
              have H := v
              clear v
              generalize (decide (c > 0)) = c0 at H key ⊢
              cases c0
              ·have H := aQ z H
               refine aa [.p, .p, .p, .p, .p, .p, .p, .p, .p, .p, .p, .p, .p] z ?_
               obtain rfl := ak H
               exact OW.sub key (sb z)
              ·have H := aR z H
               refine aa [.fa 121 2 3 gf] z <| o1 z (r1 3 1 z bW z) <| oP z <| bE H fun g5 a2 H => bO (e := eI) (xs := a.r_) (j := c) z z z z z ce ty3 z (ab l) a2 (by rw [Nat.mul_one]) <| o1 z (aF z z ty3 (cq (ab l) a2)) <| aa [.fa 121 2 3 gf] z <| o1 z (r1 3 1 z bW z) <| oPP z <| bE H fun g6 a3 H => bO (e := eI) (xs := a.r_) (j := J.wrap (c - 1)) z z z z z ce ty3 z (ab l) a3 (by rw [Nat.mul_one]) <| o1 z (aF z z ty3 (cq (ab l) a3)) <| oP z <| oP z <| ?_
               obtain rfl := ak H
               exact OW.sub key (sb z)
            ·have H := aR z H
             refine aa [.p, .p, .p, .p, .p, .p, .p, .p, .p, .p, .p, .p, .p, .p, .p, .p, .p] z ?_
             obtain rfl := ak H
             exact OW.sub key (sb z)
          ·clear H
           have H := t
           clear t
           generalize (!a1) = c1 at H key ⊢
           cases c1
           ·have H := aQ z H
            refine aa [.fa 73 0 0 eg] z <| o1 z (r1 0 0 z kN z) <| aa [.fa 121 2 3 gf] z <| o1 z (r1 3 1 z bW z) <| oP z <| bE H fun g7 a4 H => bO (e := eI) (xs := a.r_) (j := c) z z z z z ce ty3 z (ab l) a4 (by rw [Nat.mul_one]) <| o1 z (aF z z ty3 (cq (ab l) a4)) <| bE H fun g8 c2 H => bQ z z z z z fT co z x c2 fun g9 h0 a5 a6 => ?_
            obtain ⟨h1, h2, h3, h4, h5, h6, h7, h8, h9, i0, rfl, c3, c4, c5, c6, c7, c8, c9, d0, d1, d2⟩ := bA a5
            obtain rfl := c3
            obtain rfl := c4
            obtain ⟨i1, i2, rfl⟩ := ah c5
            obtain rfl := c6
            obtain ⟨i3, i4, rfl, d3, d4⟩ := aX c7
            obtain ⟨i5, i6, rfl⟩ := ah d3
            obtain ⟨i7, i8, rfl⟩ := ah d4
            obtain rfl := c8
            obtain ⟨i9, j0, rfl⟩ := ah c9
            obtain rfl := d0
            obtain rfl := d1
            obtain rfl := d2
            refine aa [.fa 121 8 10 jF] z <| o1 z (aF z z ty3 (bB bor (Aq a6 10 1))) <| oPP z <| oP z <| ?_
            obtain rfl := ak H
            exact OW.sub key (sb z)
           ·have H := aR z H
            refine aa [.p, .p, .p, .p, .p, .p, .p, .p, .p, .p, .p, .p, .p] z ?_
            obtain rfl := ak H
            exact OW.sub key (sb z)
         ·exact bb <| aw <| ay <| ax <| ao <| sR <| oP z <| nT <| xr 6 z (by cases H; exact q1)
      ·clear H
       have H := Z
       clear Z
       generalize ((m || (decide ((a.i_.h_.length : Int) > 0))) || (a.D_ != 0)) = f0 at H key ⊢
       cases f0
       ·have H := aQ z H
        refine o1 z (rx 0 0 _ z ja z) <| aa [.fa 121 6 8 mX] z <| o1 z (r1 8 2 z bW z) <| bE H fun l4 f1 H => oq z (qc z LG (fun i g => tF i f1 (av (ab o i g) (ab q i g)) (ab a9 i g))) tt2 <| oP z <| oP z <| ?_
        obtain rfl := ak H
        exact OW.sub key (sb z)
       ·have H := aR z H
        refine aa [.p, .p, .p, .p, .p, .p] z ?_
        obtain rfl := ak H
        exact OW.sub key (sb z)
     ·generalize (m || (decide ((a.i_.h_.length : Int) > 0))) = f2 at key ⊢
      cases f2
      ·exact aa [.fa 121 5 7 ln] z <| o1 z (r1 7 2 z ty3 z) <| oP z <| oP z <| OW.sub key (sb z)
      ·exact aa [.p, .p, .p, .p] z <| OW.sub key (sb z)
    ·generalize m = f3 at key ⊢
     cases f3
     ·exact aa [.fa 121 4 5 eY, .fa 119 1 1 fm] z <| o1 z (r1 6 2 z fw z) <| aa [.lenS 33 69 eK, .p] z <| oP z <| OW.sub key (sb z)
     ·exact aa [.p, .p, .p, .p, .p, .p] z <| OW.sub key (sb z)
   ·clear H
    have H := X
    clear X
    generalize T = f4 at H key ⊢
    cases f4
    ·have H := aQ z H
     refine o1 z (rx 0 0 _ z ja z) <| aa [.fa 121 4 5 eY] z <| o1 z (rx 5 2 _ z rr z) <| bE H fun l5 f5 H => oq z (qc z JT (fun i g => qn i f5 (av (ab o i g) (ab q i g)) (ct (ab b0 i g) (ab b1 i g)))) tt2 <| oP z <| oP z <| ?_
     obtain rfl := ak H
     exact OW.sub key (sb z)
    ·have H := aR z H
     refine aa [.p, .p, .p, .p, .p, .p] z ?_
     obtain rfl := ak H
     exact OW.sub key (sb z)
  ·clear H
   have H := V
   clear V
   generalize P = f6 at H key ⊢
   cases f6
   ·have H := aQ z H
    refine aa [.fa 121 3 4 mc] z <| o1 z (r1 4 2 z ty3 z) <| aa [.fa 121 2 3 gf] z <| o1 z (r1 3 2 z bW z) <| aa [.lenS 69 3 ce, .p] z <| bE H fun l6 f7 H => oq z (qc z kH (fun i g => bu i f7)) tt2 <| oP z <| oP z <| ?_
    obtain rfl := ak H
    exact OW.sub key (sb z)
   ·have H := aR z H
    refine aa [.p, .p, .p, .p, .p, .p, .p, .p, .p] z ?_
    obtain rfl := ak H
    exact OW.sub key (sb z)
 ·clear H
  have H := Q
  clear Q
  generalize (!b2) = f8 at H key ⊢
  cases f8
  ·have H := aQ z H
   refine aa [.fa 121 2 3 gf] z <| o1 z (r1 3 2 z bW z) <| aa [.lenS 69 3 ce] z <| o1 z (rx 0 0 _ z ja z) <| aa [.fa 121 1 1 iW] z <| o1 z (rx 1 2 _ z oI z) <| bE H fun l7 f9 H => oq z (qc z OQ (fun i g => xx i (p1 := a.g_) f9 (av (ab o i g) (ab q i g)))) tt2 <| oP z <| oP z <| ?_
   obtain rfl := ak H
   exact OW.sub key (sb z)
  ·have H := aR z H
   refine aa [.p, .p, .p, .p, .p, .p, .p, .p, .p] z ?_
   obtain rfl := ak H
   exact OW.sub key (sb z)
theorem xm (w : World) {p0 : List Int} {p1 : Int} {a_0 : Option Addr} {n_0 c_0 : Nat} {r : Bool} (H : mE p0 p1 = U r) (d : (ae eI 3).rd w [] p0 [S a_0 n_0 c_0]) :
    Calls Tryz.prog 175 #[S a_0 n_0 c_0, I J p1] w (fun en w' => en = .returned (B r) ∧ Ext [] w w') := by
 obtain rfl := eb d
 unfold mE at H
 refine aq Tryz.func175 z Tryz.ntmps175 z (St.init w []) <| sR <| oP z <| nQ <| ai <| sR <| oP z <| nQ <| an <| CW.at (dn (fun (a : Int) => St w [] []) (fun a => [(0, S a_0 p0.length c_0), (1, I J p1), (5, I J a)]) (fun kk => fun a => cU p0 p1 kk a = U r) (fun _ H => ?_) (fun h f a H => ?_) aK (0) (H)) (ss [] z z) (sb z)
 ·unfold cU at H
  exact absurd H (by simp)
 ·unfold cU at H
  refine ai <| sR <| aa [.p, .p, .lenS 69 3 ce, .p] z <| nQ <| cI H z (fun H => ?_) (fun H => ?_)
  ·refine aj <| ao <| ai <| an <| sR <| oPP z <| bE H fun g c H => bO (e := eI) (xs := p0) (j := a) z z z z z ce ty3 z (ab d) c (by rw [Nat.mul_one]) <| o1 z (aF z z ty3 (cq (ab d) c)) <| oPP z <| nQ <| cI H z (fun H => ?_) (fun H => ?_)
   ·exact sR <| oP z <| nT <| ar <| af <| bd <| ar <| af <| xr 4 z (by cases H; exact q1)
   ·exact aj <| cx <| ao <| aJ <| aa [.p, .p, .p] z <| aE <| cz (RW.at (f (J.wrap (a + 1)) (H)) (ss [] z z) (sb z))
  ·exact bb <| aw <| ay <| ax <| ao <| sR <| oP z <| nT <| xr 4 z (by cases H; exact q1)
theorem zI (w : World) {p0 : am} {p1 : ap} {b7 : List Value} {b8 : List Value} {r : Bool} (H : pS p0 p1 = U r) (g0 : (bK).rd w [] p0 b7) (g1 : (bp).rd w [] p1 b8) :
    Calls Tryz.prog 151 #[.agg b7.toArray, .agg b8.toArray] w (fun en w' => en = .returned (B r) ∧ Ext [] w w') := by
 obtain ⟨l1, l2, rfl, m, o⟩ := aO g0
 obtain ⟨g2, g3, rfl⟩ := ah m
 obtain ⟨g4, g5, rfl⟩ := ah o
 obtain ⟨l3, l4, rfl, q, g6⟩ := aW g1
 obtain ⟨g7, g8, rfl⟩ := ah q
 obtain rfl := g6
 unfold pS at H
 refine aq Tryz.func151 z Tryz.ntmps151 z (St.init w []) <| sR <| ob _ z fun e => ob _ z fun f => oP z <| nQ <| ai <| sR <| o1 z (rx 0 0 _ z ja z) <| bE H fun b9 g9 H => oq z (qc z HV (fun i h => iH i g9 (av (ab m i h) (ab o i h)))) tt2 <| oPP z <| bE H fun C D H => aL [(17, B C), (2, O (U ⟨e, 0, N⟩)), (3, O (U ⟨f, 0, N⟩))] 6 ?_ (fun key => OW.sub (R := [(2, O (U ⟨e, 0, N⟩)), (3, O (U ⟨f, 0, N⟩)), (11, B (!b9))]) ?_ (sb z))
 ·refine oP z <| bE H fun h0 E H => aL [(23, B h0), (2, O (U ⟨e, 0, N⟩)), (3, O (U ⟨f, 0, N⟩))] 5 ?_ (fun key => OW.sub (R := [(2, O (U ⟨e, 0, N⟩)), (3, O (U ⟨f, 0, N⟩)), (18, B C)]) ?_ (sb z))
  ·refine nQ <| cI H z (fun H => ?_) (fun H => ?_)
   ·exact sR <| oP z <| nT <| af <| xr 4 z (by cases H; exact q1)
   ·refine aj <| ao <| ai <| sR <| oP z <| nQ <| an <| CW.at (dn (fun (d : Int) => St w [] [b e 44 [S g2 p0.d_.length g3, S g4 p0.m_.length g5], b f 73 [S g7 p1.b_.length g8, I J p1.A_]]) (fun d => [(2, O (U ⟨e, 0, N⟩)), (3, O (U ⟨f, 0, N⟩)), (5, I J d)]) (fun kk => fun d => dU p1 p0 kk d = U r) (fun _ H => ?_) (fun k1 F d H => ?_) aK (0) (H)) (ss [0, 1] z z) (sb z)
    ·unfold dU at H
     exact absurd H (by simp)
    ·unfold dU at H
     refine ai <| sR <| aa [.p, .fa 73 0 0 eg] z <| o1 z (r1 0 1 z kN z) <| aa [.lenS 71 121 fT, .p] z <| nQ <| cI H z (fun H => ?_) (fun H => ?_)
     ·refine aj <| ao <| ai <| an <| sR <| aa [.fa 73 0 0 eg] z <| o1 z (r1 0 1 z kN z) <| oP z <| bE H fun a c0 H => bQ z z z z z fT co z q c0 fun h7 h8 b3 b4 => ?_
      obtain ⟨h9, i0, i1, i2, i3, i4, i5, i6, i7, i8, rfl, c1, c2, G, c3, c4, c5, L, c6, c7, c8⟩ := bA b3
      obtain rfl := c1
      obtain rfl := c2
      obtain ⟨M, P, rfl⟩ := ah G
      obtain rfl := c3
      obtain ⟨i9, j0, rfl, Q, T⟩ := aX c4
      obtain ⟨V, X, rfl⟩ := ah Q
      obtain ⟨Z, a0, rfl⟩ := ah T
      obtain rfl := c5
      obtain ⟨a1, a2, rfl⟩ := ah L
      obtain rfl := c6
      obtain rfl := c7
      obtain rfl := c8
      refine o1 z (cu (cs := [B a.y_, I J a.g_.q_, I J a.g_.u_, S M a.r_.length P, I J a.C_, S V a.i_.k_.length X, S Z a.i_.h_.length a0, I J a.D_, S a1 a.d_.length a2, I J a.f_, I J a.x_, I J a.B_]) z z co (bB bor b4) z) <| bL z z z z co (fun _ => kp) fun g => sC 0 [B a.y_, I J a.g_.q_, I J a.g_.u_, S M a.r_.length P, I J a.C_, S V a.i_.k_.length X, S Z a.i_.h_.length a0, I J a.D_, S a1 a.d_.length a2, I J a.f_, I J a.x_, I J a.B_] [_, _, _, _, _, _, _, _, _, _, _, _] 2 z co z <| nQ <| ai <| sR <| aa [.fa 121 7 9 gB] z <| o1 z (r1 9 2 z ty3 z) <| bE H fun a3 c9 H => oq z (qc z kH (fun i h => bu i c9)) tt2 <| oPP z <| bE H fun d0 s H => aL [(47, B d0), (2, O (U ⟨e, 0, N⟩)), (3, O (U ⟨f, 0, N⟩)), (5, I J d), (6, O (U ⟨g, 0, N⟩))] 7 ?_ (fun key => OW.sub (R := [(2, O (U ⟨e, 0, N⟩)), (3, O (U ⟨f, 0, N⟩)), (5, I J d), (6, O (U ⟨g, 0, N⟩)), (40, B (!a3))]) ?_ (sb z))
      ·refine nQ <| cI H z (fun H => ?_) (fun H => ?_)
       ·exact sR <| oP z <| nT <| af <| ar <| af <| bd <| ar <| af <| xr 4 z (by cases H; exact q1)
       ·refine aj <| ao <| ai <| sR <| aa [.fa 121 0 0 kz] z <| o1 z (r1 0 2 z ty4 z) <| oP z <| bE H fun l t H => aL [(55, B l), (2, O (U ⟨e, 0, N⟩)), (3, O (U ⟨f, 0, N⟩)), (5, I J d), (6, O (U ⟨g, 0, N⟩))] 5 ?_ (fun key => OW.sub (R := [(2, O (U ⟨e, 0, N⟩)), (3, O (U ⟨f, 0, N⟩)), (5, I J d), (6, O (U ⟨g, 0, N⟩)), (50, B a.y_)]) ?_ (sb z))
        ·refine oP z <| bE H fun d1 u H => aL [(67, B d1), (2, O (U ⟨e, 0, N⟩)), (3, O (U ⟨f, 0, N⟩)), (5, I J d), (6, O (U ⟨g, 0, N⟩))] 11 ?_ (fun key => OW.sub (R := [(2, O (U ⟨e, 0, N⟩)), (3, O (U ⟨f, 0, N⟩)), (5, I J d), (6, O (U ⟨g, 0, N⟩)), (56, B l)]) ?_ (sb z))
         ·refine nQ <| cI H z (fun H => ?_) (fun H => ?_)
          ·exact sR <| oP z <| nT <| af <| ar <| af <| bd <| ar <| af <| xr 4 z (by cases H; exact q1)
          ·refine aj <| ao <| ai <| sR <| oPP z <| nQ <| cI H z (fun H => ?_) (fun H => ?_)
           ·refine ai <| sR <| aa [.fa 121 8 10 jF] z <| o1 z (r1 10 2 z ty3 z) <| oPP z <| aL [(77, B ((a.x_ != (-1)) || (a.f_ != 0))), (2, O (U ⟨e, 0, N⟩)), (3, O (U ⟨f, 0, N⟩)), (5, I J d), (6, O (U ⟨g, 0, N⟩))] 4 ?_ (fun key => OW.sub (R := [(2, O (U ⟨e, 0, N⟩)), (3, O (U ⟨f, 0, N⟩)), (5, I J d), (6, O (U ⟨g, 0, N⟩)), (73, B (a.x_ != (-1)))]) ?_ (sb z))
            ·refine oP z <| aL [(82, B (((a.x_ != (-1)) || (a.f_ != 0)) || (a.B_ != 0))), (2, O (U ⟨e, 0, N⟩)), (3, O (U ⟨f, 0, N⟩)), (5, I J d)] 4 ?_ (fun key => OW.sub (R := [(2, O (U ⟨e, 0, N⟩)), (3, O (U ⟨f, 0, N⟩)), (5, I J d), (6, O (U ⟨g, 0, N⟩)), (78, B ((a.x_ != (-1)) || (a.f_ != 0)))]) ?_ (sb z))
             ·refine nQ <| cI H z (fun H => ?_) (fun H => ?_)
              ·exact sR <| oP z <| nT <| af <| af <| ar <| af <| bd <| ar <| af <| xr 4 z (by cases H; exact q1)
              ·exact aj <| ao <| bb <| aw <| ax <| ao <| aJ <| aa [.p, .p, .p] z <| aE <| cz (RW.at (F (J.wrap (d + 1)) (H)) (ss [0, 1] z z) (sb z))
             ·generalize ((a.x_ != (-1)) || (a.f_ != 0)) = d2 at key ⊢
              cases d2
              ·exact aa [.fa 121 9 11 jy] z <| o1 z (r1 11 2 z ty3 z) <| oP z <| oP z <| OW.sub key (sb z)
              ·exact aa [.p, .p, .p, .p] z <| OW.sub key (sb z)
            ·generalize (a.x_ != (-1)) = d3 at key ⊢
             cases d3
             ·exact aa [.fa 121 7 9 gB] z <| o1 z (r1 9 2 z ty3 z) <| oP z <| oP z <| OW.sub key (sb z)
             ·exact aa [.p, .p, .p, .p] z <| OW.sub key (sb z)
           ·refine aj <| ao <| ai <| sR <| aa [.fa 121 8 10 jF] z <| o1 z (r1 10 2 z ty3 z) <| oPP z <| bE H fun j1 d4 H => oq z (qc z kH (fun i h => bu i d4)) tt2 <| oP z <| nQ <| cI H z (fun H => ?_) (fun H => ?_)
            ·exact sR <| oP z <| nT <| af <| ar <| af <| bd <| ar <| af <| xr 4 z (by cases H; exact q1)
            ·refine aj <| ao <| sR <| aa [.fa 73 0 0 eg] z <| o1 z (r1 0 1 z kN z) <| aa [.fa 121 8 10 jF] z <| o1 z (r1 10 2 z ty3 z) <| bE H fun c d5 H => bQ z z z z z fT co z q d5 fun j2 j3 b5 b6 => ?_
             obtain ⟨j4, j5, j6, j7, j8, j9, k0, k2, k3, k4, rfl, d6, d7, a4, d8, d9, e0, e1, e2, e3, e4⟩ := bA b5
             obtain rfl := d6
             obtain rfl := d7
             obtain ⟨a5, a6, rfl⟩ := ah a4
             obtain rfl := d8
             obtain ⟨k5, k6, rfl, e5, e6⟩ := aX d9
             obtain ⟨a7, a8, rfl⟩ := ah e5
             obtain ⟨a9, b0, rfl⟩ := ah e6
             obtain rfl := e0
             obtain ⟨b1, b2, rfl⟩ := ah e1
             obtain rfl := e2
             obtain rfl := e3
             obtain rfl := e4
             refine o1 z (cu (cs := [B c.y_, I J c.g_.q_, I J c.g_.u_, S a5 c.r_.length a6, I J c.C_, S a7 c.i_.k_.length a8, S a9 c.i_.h_.length b0, I J c.D_, S b1 c.d_.length b2, I J c.f_, I J c.x_, I J c.B_]) z z co (bB bor b6) z) <| bL z z z z co (fun _ => kp) fun k => sC 0 [B c.y_, I J c.g_.q_, I J c.g_.u_, S a5 c.r_.length a6, I J c.C_, S a7 c.i_.k_.length a8, S a9 c.i_.h_.length b0, I J c.D_, S b1 c.d_.length b2, I J c.f_, I J c.x_, I J c.B_] [_, _, _, _, _, _, _, _, _, _, _, _] 3 z co z <| nR <| aa [.fa 121 0 0 kz] z <| o1 z (r1 0 3 z ty4 z) <| oP z <| bE H fun j v H => aL [(103, B j), (2, O (U ⟨e, 0, N⟩)), (3, O (U ⟨f, 0, N⟩)), (5, I J d), (6, O (U ⟨g, 0, N⟩)), (7, O (U ⟨k, 0, N⟩))] 6 ?_ (fun key => OW.sub (R := [(2, O (U ⟨e, 0, N⟩)), (3, O (U ⟨f, 0, N⟩)), (5, I J d), (6, O (U ⟨g, 0, N⟩)), (7, O (U ⟨k, 0, N⟩)), (97, B c.y_)]) ?_ (sb z))
             ·refine oP z <| aL [(111, B (j || ((J.wrap (c.f_ + 1)) != a.f_))), (2, O (U ⟨e, 0, N⟩)), (3, O (U ⟨f, 0, N⟩)), (5, I J d), (6, O (U ⟨g, 0, N⟩)), (7, O (U ⟨k, 0, N⟩))] 7 ?_ (fun key => OW.sub (R := [(2, O (U ⟨e, 0, N⟩)), (3, O (U ⟨f, 0, N⟩)), (5, I J d), (6, O (U ⟨g, 0, N⟩)), (7, O (U ⟨k, 0, N⟩)), (104, B j)]) ?_ (sb z))
              ·refine oP z <| aL [(118, B ((j || ((J.wrap (c.f_ + 1)) != a.f_)) || (decide (c.B_ > a.B_)))), (2, O (U ⟨e, 0, N⟩)), (3, O (U ⟨f, 0, N⟩)), (5, I J d)] 6 ?_ (fun key => OW.sub (R := [(2, O (U ⟨e, 0, N⟩)), (3, O (U ⟨f, 0, N⟩)), (5, I J d), (6, O (U ⟨g, 0, N⟩)), (7, O (U ⟨k, 0, N⟩)), (112, B (j || ((J.wrap (c.f_ + 1)) != a.f_)))]) ?_ (sb z))
               ·refine nQ <| cI H z (fun H => ?_) (fun H => ?_)
                ·exact sR <| oP z <| nT <| ar <| af <| bd <| ar <| af <| xr 4 z (by cases H; exact q1)
                ·exact aj <| cx <| ao <| aJ <| aa [.p, .p, .p] z <| aE <| cz (RW.at (F (J.wrap (d + 1)) (H)) (ss [0, 1] z z) (sb z))
               ·generalize (j || ((J.wrap (c.f_ + 1)) != a.f_)) = e7 at key ⊢
                cases e7
                ·exact aa [.fa 121 9 11 jy] z <| o1 z (r1 11 3 z ty3 z) <| aa [.fa 121 9 11 jy] z <| o1 z (r1 11 2 z ty3 z) <| oP z <| oP z <| OW.sub key (sb z)
                ·exact aa [.p, .p, .p, .p, .p, .p] z <| OW.sub key (sb z)
              ·generalize j = e9 at key ⊢
               cases e9
               ·exact aa [.fa 121 7 9 gB] z <| o1 z (r1 9 3 z ty3 z) <| aa [.p, .fa 121 7 9 gB] z <| o1 z (r1 9 2 z ty3 z) <| oP z <| oP z <| OW.sub key (sb z)
               ·exact aa [.p, .p, .p, .p, .p, .p, .p] z <| OW.sub key (sb z)
             ·clear H
              have H := v
              clear v
              generalize c.y_ = f0 at H key ⊢
              cases f0
              ·have H := aQ z H
               refine aa [.fa 121 2 3 gf] z <| o1 z (r1 3 3 z bW z) <| oP z <| bE H fun k7 f1 H => oq z (qc z Od (fun i h => xm i f1 (ab a4 i h))) tt2 <| oP z <| oP z <| ?_
               obtain rfl := ak H
               exact OW.sub key (sb z)
              ·have H := aR z H
               refine aa [.p, .p, .p, .p, .p, .p] z ?_
               obtain rfl := ak H
               exact OW.sub key (sb z)
         ·clear H
          have H := u
          clear u
          generalize l = f2 at H key ⊢
          cases f2
          ·have H := aQ z H
           refine aa [.fa 121 0 0 kz] z <| o1 z (r1 0 2 z ty4 z) <| oPP z <| bE H fun f3 A H => aL [(66, B f3), (2, O (U ⟨e, 0, N⟩)), (3, O (U ⟨f, 0, N⟩)), (5, I J d), (6, O (U ⟨g, 0, N⟩)), (56, B n)] 6 ?_ (fun key => OW.sub (R := [(2, O (U ⟨e, 0, N⟩)), (3, O (U ⟨f, 0, N⟩)), (5, I J d), (6, O (U ⟨g, 0, N⟩)), (56, B n), (60, B (!a.y_))]) ?_ (sb z))
           ·refine aa [.p] z ?_
            obtain rfl := ak H
            exact OW.sub key (sb z)
           ·clear H
            have H := A
            clear A
            generalize (!a.y_) = f4 at H key ⊢
            cases f4
            ·have H := aQ z H
             refine aa [.p, .p, .p, .p, .p, .p] z ?_
             obtain rfl := ak H
             exact OW.sub key (sb z)
            ·have H := aR z H
             refine o1 z (rx 0 0 _ z ja z) <| o1 z (rx 0 1 _ z ol z) <| oP z <| bE H fun k8 f5 H => oq z (qc z Ob (fun i h => xS i f5 (av (ab m i h) (ab o i h)) (bh (ab q i h) z))) tt2 <| oP z <| oP z <| ?_
             obtain rfl := ak H
             exact OW.sub key (sb z)
          ·have H := aR z H
           refine aa [.p, .p, .p, .p, .p, .p, .p, .p, .p, .p, .p] z ?_
           obtain rfl := ak H
           exact OW.sub key (sb z)
        ·clear H
         have H := t
         clear t
         generalize a.y_ = f6 at H key ⊢
         cases f6
         ·have H := aQ z H
          refine aa [.p, .p, .p, .p, .p] z ?_
          obtain rfl := ak H
          exact OW.sub key (sb z)
         ·have H := aR z H
          refine o1 z (rx 0 0 _ z ja z) <| o1 z (rx 0 2 _ z co z) <| bE H fun k9 f7 H => oq z (qc z Oh (fun i h => zn i f7 (av (ab m i h) (ab o i h)) (ga (x := ({ a with y_ := y })) z z (ab G i h) z (ct (ab Q i h) (ab T i h)) z (ab L i h) z z z))) tt2 <| oP z <| oP z <| ?_
          obtain rfl := ak H
          exact OW.sub key (sb z)
      ·clear H
       have H := s
       clear s
       generalize (!a3) = f8 at H key ⊢
       cases f8
       ·have H := aQ z H
        refine aa [.fa 121 9 11 jy] z <| o1 z (r1 11 2 z ty3 z) <| aa [.fa 73 1 1 nf] z <| o1 z (r1 1 1 z ty3 z) <| bE H fun l0 f9 H => oq z (qc z kH (fun i h => bu i f9)) tt2 <| oP z <| oP z <| ?_
        obtain rfl := ak H
        exact OW.sub key (sb z)
       ·have H := aR z H
        refine aa [.p, .p, .p, .p, .p, .p, .p] z ?_
        obtain rfl := ak H
        exact OW.sub key (sb z)
     ·exact bb <| aw <| ay <| ax <| ao <| sR <| oP z <| nT <| xr 4 z (by cases H; exact q1)
  ·clear H
   have H := E
   clear E
   generalize C = h1 at H key ⊢
   cases h1
   ·have H := aQ z H
    refine aa [.fa 73 1 1 nf] z <| o1 z (r1 1 1 z ty3 z) <| bE H fun l5 h2 H => oq z (qc z kH (fun i h => bu i h2)) tt2 <| oP z <| oP z <| ?_
    obtain rfl := ak H
    exact OW.sub key (sb z)
   ·have H := aR z H
    refine aa [.p, .p, .p, .p, .p] z ?_
    obtain rfl := ak H
    exact OW.sub key (sb z)
 ·clear H
  have H := D
  clear D
  generalize (!b9) = h3 at H key ⊢
  cases h3
  ·have H := aQ z H
   refine aa [.fa 73 0 0 eg] z <| o1 z (r1 0 1 z kN z) <| aa [.lenS 71 121 fT] z <| bE H fun l6 h4 H => oq z (qc z kH (fun i h => bu i h4)) tt2 <| oP z <| oP z <| ?_
   obtain rfl := ak H
   exact OW.sub key (sb z)
  ·have H := aR z H
   refine aa [.p, .p, .p, .p, .p, .p] z ?_
   obtain rfl := ak H
   exact OW.sub key (sb z)
theorem yV (w : World) {p0 : ap} {l : List Value} {r : Int} (H : ov p0 = U r) (g0 : (bp).rd w [] p0 l) :
    Calls Tryz.prog 152 #[.agg l.toArray] w (fun en w' => en = .returned (I J r) ∧ Ext [] w w') := by
 obtain ⟨f7, f8, rfl, f, a7⟩ := aW g0
 obtain ⟨a8, a9, rfl⟩ := ah f
 obtain rfl := a7
 unfold ov at H
 refine aq Tryz.func152 z Tryz.ntmps152 z (St.init w []) <| sR <| ob _ z fun d => oP z <| nR <| oP z <| nQ <| ai <| sR <| oP z <| nQ <| an <| CW.at (fx (fun (c : Int) (a : Int) => St w [] [b d 73 [S a8 p0.b_.length a9, I J p0.A_]]) (fun c a => [(1, O (U ⟨d, 0, N⟩)), (3, I J c), (4, I J a)]) (fun kk => fun c a => dQ p0 kk c a = U r) (fun _ _ H => ?_) (fun k1 g c a H => ?_) aK (0) (0) (H)) (ss [0] z z) (sb z)
 ·unfold dQ at H
  exact absurd H (by simp)
 ·unfold dQ at H
  refine ai <| sR <| aa [.p, .fa 73 0 0 eg] z <| o1 z (r1 0 0 z kN z) <| aa [.lenS 71 121 fT, .p] z <| nQ <| cI H z (fun H => ?_) (fun H => ?_)
  ·refine aj <| ao <| ai <| an <| sR <| aa [.p, .p, .p] z <| bE H fun m e H => aL [(23, B m), (1, O (U ⟨d, 0, N⟩)), (3, I J c), (4, I J a)] 9 ?_ (fun key => OW.sub (R := [(1, O (U ⟨d, 0, N⟩)), (3, I J c), (4, I J a), (14, B (a == 0))]) ?_ (sb z))
   ·refine nQ <| cI H z (fun H => ?_) (fun H => ?_)
    ·refine aJ <| aa [.fa 73 0 0 eg] z <| o1 z (r1 0 0 z kN z) <| oP z <| bE H fun o q H => bQ z z z z z fT co z f q fun b1 b2 h i => ?_
     obtain ⟨b3, b4, b5, b6, b7, b8, b9, c0, c1, c2, rfl, s, t, u, v, x, A, C, D, E, F⟩ := bA h
     obtain rfl := s
     obtain rfl := t
     obtain ⟨c3, c4, rfl⟩ := ah u
     obtain rfl := v
     obtain ⟨c5, c6, rfl, G, L⟩ := aX x
     obtain ⟨c7, c8, rfl⟩ := ah G
     obtain ⟨c9, d0, rfl⟩ := ah L
     obtain rfl := A
     obtain ⟨d1, d2, rfl⟩ := ah C
     obtain rfl := D
     obtain rfl := E
     obtain rfl := F
     exact aa [.fa 121 7 9 gB] z <| o1 z (aF z z ty3 (bB bor (Aq i 9 1))) <| oP z <| aE <| cx <| ao <| aJ <| aa [.p, .p, .p] z <| aE <| cz (RW.at (g (o.f_) (J.wrap (a + 1)) (H)) (ss [0] z z) (sb z))
    ·exact aj <| cx <| ao <| aJ <| aa [.p, .p, .p] z <| aE <| cz (RW.at (g (c) (J.wrap (a + 1)) (H)) (ss [0] z z) (sb z))
   ·clear H
    have H := e
    clear e
    generalize (a == 0) = M at H key ⊢
    cases M
    ·have H := aQ z H
     refine aa [.fa 73 0 0 eg] z <| o1 z (r1 0 0 z kN z) <| oP z <| bE H fun d3 P H => bQ z z z z z fT co z f P fun d4 d5 j k => ?_
     obtain ⟨d6, d7, d8, d9, e0, e1, e2, e3, e4, e5, rfl, Q, T, V, X, Z, a0, a1, a2, a3, a4⟩ := bA j
     obtain rfl := Q
     obtain rfl := T
     obtain ⟨e6, e7, rfl⟩ := ah V
     obtain rfl := X
     obtain ⟨e9, f0, rfl, a5, a6⟩ := aX Z
     obtain ⟨f1, f2, rfl⟩ := ah a5
     obtain ⟨f3, f4, rfl⟩ := ah a6
     obtain rfl := a0
     obtain ⟨f5, f6, rfl⟩ := ah a1
     obtain rfl := a2
     obtain rfl := a3
     obtain rfl := a4
     refine aa [.fa 121 7 9 gB] z <| o1 z (aF z z ty3 (bB bor (Aq k 9 1))) <| oPP z <| oP z <| ?_
     obtain rfl := ak H
     exact OW.sub key (sb z)
    ·have H := aR z H
     refine aa [.p, .p, .p, .p, .p, .p, .p, .p, .p] z ?_
     obtain rfl := ak H
     exact OW.sub key (sb z)
  ·exact bb <| aw <| ay <| ax <| ao <| sR <| oPP z <| nT <| xr 2 z (by cases H; exact q1)
theorem za (w : World) {p0 : au} {d : List Value} {r : Int} (H : oo p0 = U r) (R : (bc).rd w [] p0 d) :
    Calls Tryz.prog 176 #[.agg d.toArray] w (fun en w' => en = .returned (I J r) ∧ Ext [] w w') := by
 obtain ⟨T, V, X, Z, a0, a1, a2, a3, a4, a5, rfl, j, k, l, m, o, q, s, t, u, v⟩ := bA R
 obtain rfl := j
 obtain rfl := k
 obtain ⟨x, A, rfl⟩ := ah l
 obtain rfl := m
 obtain ⟨a6, a7, rfl, C, e⟩ := aX o
 obtain ⟨D, E, rfl⟩ := ah C
 obtain ⟨F, G, rfl⟩ := ah e
 obtain rfl := q
 obtain ⟨L, M, rfl⟩ := ah s
 obtain rfl := t
 obtain rfl := u
 obtain rfl := v
 unfold oo at H
 refine aq Tryz.func176 z Tryz.ntmps176 z (St.init w []) <| sR <| ob _ z fun f => oP z <| nQ <| ai <| sR <| aa [.fa 121 0 0 kz] z <| o1 z (r1 0 0 z ty4 z) <| oP z <| nQ <| cI H z (fun H => ?_) (fun H => ?_)
 ·exact sR <| oP z <| nT <| af <| xr 2 z (by cases H; exact q1)
 ·refine aj <| ao <| sR <| oP z <| nQ <| ai <| sR <| oP z <| nQ <| an <| CW.at (fx (fun (a : Int) (c : Int) => St w [] [b f 121 [B p0.y_, I J p0.g_.q_, I J p0.g_.u_, S x p0.r_.length A, I J p0.C_, S D p0.i_.k_.length E, S F p0.i_.h_.length G, I J p0.D_, S L p0.d_.length M, I J p0.f_, I J p0.x_, I J p0.B_]]) (fun a c => [(1, O (U ⟨f, 0, N⟩)), (3, I J a), (4, I J c)]) (fun kk => fun a c => ic p0 kk a c = U r) (fun _ _ H => ?_) (fun k1 g a c H => ?_) aK (2) (0) (H)) (ss [0] z z) (sb z)
  ·unfold ic at H
   exact absurd H (by simp)
  ·unfold ic at H
   refine ai <| sR <| aa [.p, .fa 121 4 5 eY, .fa 119 1 1 fm] z <| o1 z (r1 6 0 z fw z) <| aa [.lenS 33 69 eK, .p] z <| nQ <| cI H z (fun H => ?_) (fun H => ?_)
   ·refine aj <| ao <| ai <| an <| aJ <| aa [.p, .fa 121 4 5 eY, .fa 119 1 1 fm] z <| o1 z (r1 6 0 z fw z) <| oP z <| bE H fun P Q H => bQ z z z z z eK bW z e Q fun a8 a9 h i => ?_
    obtain ⟨b0, b1, rfl⟩ := ah h
    exact o1 z (aF z z bW (bB bor i)) <| aa [.lenS 69 3 ce, .p, .p] z <| aE <| cx <| ao <| aJ <| aa [.p, .p, .p] z <| aE <| cz (RW.at (g (J.wrap (a + (P.length : Int))) (J.wrap (c + 1)) (H)) (ss [0] z z) (sb z))
   ·exact bb <| aw <| ay <| ax <| ao <| sR <| oPP z <| nT <| xr 2 z (by cases H; exact q1)
theorem wF (w : World) {p0 : ap} {m : List Value} {r : Int} (H : lI p0 = U r) (g0 : (bp).rd w [] p0 m) :
    Calls Tryz.prog 153 #[.agg m.toArray] w (fun en w' => en = .returned (I J r) ∧ Ext [] w w') := by
 obtain ⟨b8, b9, rfl, o, a0⟩ := aW g0
 obtain ⟨a1, a2, rfl⟩ := ah o
 obtain rfl := a0
 unfold lI at H
 refine aq Tryz.func153 z Tryz.ntmps153 z (St.init w []) <| sR <| ob _ z fun q => oP z <| nR <| oP z <| nQ <| ai <| sR <| oP z <| nQ <| an <| CW.at (fx (fun (c : Int) (d : Int) => St w [] [b q 73 [S a1 p0.b_.length a2, I J p0.A_]]) (fun c d => [(1, O (U ⟨q, 0, N⟩)), (3, I J c), (4, I J d)]) (fun kk => fun c d => gg p0 kk c d = U r) (fun _ _ H => ?_) (fun k1 s c d H => ?_) aK (0) (0) (H)) (ss [0] z z) (sb z)
 ·unfold gg at H
  exact absurd H (by simp)
 ·unfold gg at H
  refine ai <| sR <| aa [.p, .fa 73 0 0 eg] z <| o1 z (r1 0 0 z kN z) <| aa [.lenS 71 121 fT, .p] z <| nQ <| cI H z (fun H => ?_) (fun H => ?_)
  ·refine aj <| ao <| ai <| an <| aJ <| aa [.p, .fa 73 0 0 eg] z <| o1 z (r1 0 0 z kN z) <| oP z <| bE H fun a t H => bQ z z z z z fT co z o t fun a4 a5 k l => ?_
   obtain ⟨a6, a7, a8, a9, b0, b1, b2, b3, b4, b5, rfl, u, v, f, x, A, C, g, D, E, F⟩ := bA k
   obtain rfl := u
   obtain rfl := v
   obtain ⟨G, L, rfl⟩ := ah f
   obtain rfl := x
   obtain ⟨b6, b7, rfl, h, i⟩ := aX A
   obtain ⟨M, P, rfl⟩ := ah h
   obtain ⟨Q, R, rfl⟩ := ah i
   obtain rfl := C
   obtain ⟨T, V, rfl⟩ := ah g
   obtain rfl := D
   obtain rfl := E
   obtain rfl := F
   exact o1 z (cu (cs := [B a.y_, I J a.g_.q_, I J a.g_.u_, S G a.r_.length L, I J a.C_, S M a.i_.k_.length P, S Q a.i_.h_.length R, I J a.D_, S T a.d_.length V, I J a.f_, I J a.x_, I J a.B_]) z z co (bB bor l) z) <| bE H fun X Z H => oq z (qc z OA (fun j e => za j Z (ga z z (ab f j e) z (ct (ab h j e) (ab i j e)) z (ab g j e) z z z))) tt2 <| oPP z <| aE <| cx <| ao <| aJ <| aa [.p, .p, .p] z <| aE <| cz (RW.at (s (J.wrap (c + X)) (J.wrap (d + 1)) (H)) (ss [0] z z) (sb z))
  ·exact bb <| aw <| ay <| ax <| ao <| sR <| oPP z <| nT <| xr 2 z (by cases H; exact q1)
theorem wl (w : World) {p0 : am} {p1 : cO} {h : ap} {m : List Value} {o : List Value} {r : Bool} (H : qL p0 p1 h = U r) (M : (bK).rd w [] p0 m) (P : (bp).rd w [] h o) :
    Calls Tryz.prog 125 #[.agg m.toArray, .agg #[I J p1.L_, I J p1.K_, I J p1.M_, I J p1.f_, I J p1.b_, I J p1.G_, B p1.P_], .agg o.toArray] w (fun en w' => en = .returned (B r) ∧ Ext [] w w') := by
 obtain ⟨Q, T, rfl, q, s⟩ := aO M
 obtain ⟨V, X, rfl⟩ := ah q
 obtain ⟨Z, a0, rfl⟩ := ah s
 obtain ⟨a1, a2, rfl, g, u⟩ := aW P
 obtain ⟨a3, a4, rfl⟩ := ah g
 obtain rfl := u
 unfold qL at H
 refine aq Tryz.func125 z Tryz.ntmps125 z (St.init w []) <| sR <| ob _ z fun a5 => ob _ z fun d => ob _ z fun e => oP z <| nQ <| ai <| eF eR (by kernel_rfl) <| o1 z (rx 0 0 _ z ja z) <| o1 z (rx 0 2 _ z ol z) <| bE H fun t v H => oq z (qc z Ov (fun c a => zI c v (av (ab q c a) (ab s c a)) (bh (ab g c a) z))) tt2 <| oP z <| bE H fun f i H => aL [(13, B f), (4, O (U ⟨d, 0, N⟩)), (5, O (U ⟨e, 0, N⟩)), (6, B n)] 3 ?_ (fun key => OW.sub (R := [(4, O (U ⟨d, 0, N⟩)), (5, O (U ⟨e, 0, N⟩)), (6, B n), (10, B t)]) ?_ (sb z))
 ·refine oP z <| aL [(21, B (f && (decide ((h.b_.length : Int) ≤ p1.b_)))), (4, O (U ⟨d, 0, N⟩)), (5, O (U ⟨e, 0, N⟩)), (6, B n)] 7 ?_ (fun key => OW.sub (R := [(4, O (U ⟨d, 0, N⟩)), (5, O (U ⟨e, 0, N⟩)), (6, B n), (14, B f)]) ?_ (sb z))
  ·refine oP z <| bE H fun j k H => aL [(28, B j), (4, O (U ⟨d, 0, N⟩)), (5, O (U ⟨e, 0, N⟩)), (6, B n)] 6 ?_ (fun key => OW.sub (R := [(4, O (U ⟨d, 0, N⟩)), (5, O (U ⟨e, 0, N⟩)), (6, B n), (22, B (f && (decide ((h.b_.length : Int) ≤ p1.b_))))]) ?_ (sb z))
   ·refine oP z <| bE H fun x l H => aL [(35, B x), (6, B n)] 6 ?_ (fun key => OW.sub (R := [(4, O (U ⟨d, 0, N⟩)), (5, O (U ⟨e, 0, N⟩)), (6, B n), (29, B j)]) ?_ (sb z))
    ·exact oP z <| dg <| ao <| rG <| xr 6 z (by cases H; exact q1)
    ·clear H
     have H := l
     clear l
     generalize j = A at H key ⊢
     cases A
     ·have H := aQ z H
      refine aa [.p, .p, .p, .p, .p, .p] z ?_
      obtain rfl := ak H
      exact OW.sub key (sb z)
     ·have H := aR z H
      refine o1 z (rx 0 2 _ z ol z) <| bE H fun a6 C H => oq z (qc z Pc (fun c a => wF c C (bh (ab g c a) z))) tt2 <| aa [.fa 45 5 5 tl] z <| o1 z (r1 5 1 z ty3 z) <| oP z <| oP z <| ?_
      obtain rfl := ak H
      exact OW.sub key (sb z)
   ·clear H
    have H := k
    clear k
    generalize (f && (decide ((h.b_.length : Int) ≤ p1.b_))) = D at H key ⊢
    cases D
    ·have H := aQ z H
     refine aa [.p, .p, .p, .p, .p, .p] z ?_
     obtain rfl := ak H
     exact OW.sub key (sb z)
    ·have H := aR z H
     refine o1 z (rx 0 2 _ z ol z) <| bE H fun a7 E H => oq z (qc z NH (fun c a => yV c E (bh (ab g c a) z))) tt2 <| aa [.fa 45 3 3 tu] z <| o1 z (r1 3 1 z ty3 z) <| oP z <| oP z <| ?_
     obtain rfl := ak H
     exact OW.sub key (sb z)
  ·generalize f = F at key ⊢
   cases F
   ·exact aa [.p, .p, .p, .p, .p, .p, .p] z <| OW.sub key (sb z)
   ·exact aa [.fa 73 0 0 eg] z <| o1 z (r1 0 2 z kN z) <| aa [.lenS 71 121 fT, .fa 45 4 4 tx] z <| o1 z (r1 4 1 z ty3 z) <| oP z <| oP z <| OW.sub key (sb z)
 ·clear H
  have H := i
  clear i
  generalize t = G at H key ⊢
  cases G
  ·have H := aQ z H
   refine aa [.p, .p, .p] z ?_
   obtain rfl := ak H
   exact OW.sub key (sb z)
  ·have H := aR z H
   refine o1 z (rx 0 1 _ z ry z) <| bE H fun a8 L H => oq z (qc z LF (fun c a => um c (p0 := p1) L)) tt2 <| oP z <| ?_
   obtain rfl := ak H
   exact OW.sub key (sb z)
theorem yb (w : World) {p0 : Int} {r : Int} (H : mz p0 = U r)   :
    Calls Tryz.prog 177 #[I J p0] w (fun en w' => en = .returned (I J r) ∧ Ext [] w w') := by
 unfold mz at H
 refine aq Tryz.func177 z Tryz.ntmps177 z (St.init w []) <| sR <| oP z <| nR <| oP z <| nQ <| ai <| sR <| oP z <| nQ <| an <| CW.at (fx (fun (a : Int) (c : Int) => St w [] []) (fun a c => [(0, I J p0), (3, I J a), (4, I J c)]) (fun kk => fun a c => fP p0 kk a c = U r) (fun _ _ H => ?_) (fun e d a c H => ?_) aK (1) (0) (H)) (ss [] z z) (sb z)
 ·unfold fP at H
  exact absurd H (by simp)
 ·unfold fP at H
  refine ai <| sR <| aa [.p, .p, .p] z <| nQ <| cI H z (fun H => ?_) (fun H => ?_)
  ·exact aj <| ao <| ai <| an <| aJ <| aa [.p, .p, .p] z <| aE <| cx <| ao <| aJ <| aa [.p, .p, .p] z <| aE <| cz (RW.at (d (J.wrap (a * 2)) (J.wrap (c + 1)) (H)) (ss [] z z) (sb z))
  ·exact bb <| aw <| ay <| ax <| ao <| sR <| oPP z <| nT <| xr 2 z (by cases H; exact q1)
theorem sL (w : World) {p0 : aA} {s : List Value} {r : Bool} (H : kY p0 = U r) (P : (bI).rd w [] p0 s) :
    Calls Tryz.prog 154 #[.agg s.toArray] w (fun en w' => en = .returned (B r) ∧ Ext [] w w') := by
 obtain ⟨b3, rfl, f⟩ := aT P
 obtain ⟨t, u, rfl⟩ := ah f
 unfold kY at H
 refine aq Tryz.func154 z Tryz.ntmps154 z (St.init w []) <| sR <| ob _ z fun g => oP z <| nQ <| ai <| sR <| aa [.fa 75 0 0 lu] z <| o1 z (r1 0 0 z fw z) <| aa [.lenS 33 69 eK, .p] z <| nQ <| cI H z (fun H => ?_) (fun H => ?_)
 ·exact sR <| oP z <| nT <| af <| xr 2 z (by cases H; exact q1)
 ·refine aj <| ao <| ai <| sR <| oP z <| nQ <| an <| CW.at (dn (fun (c : Int) => St w [] [b g 75 [S t p0.o_.length u]]) (fun c => [(1, O (U ⟨g, 0, N⟩)), (3, I J c)]) (fun kk => fun c => cJ p0 kk c = U r) (fun _ H => ?_) (fun Q x c H => ?_) aK (0) (H)) (ss [0] z z) (sb z)
  ·unfold cJ at H
   exact absurd H (by simp)
  ·unfold cJ at H
   refine ai <| sR <| aa [.p, .fa 75 0 0 lu] z <| o1 z (r1 0 0 z fw z) <| aa [.lenS 33 69 eK, .p] z <| nQ <| cI H z (fun H => ?_) (fun H => ?_)
   ·refine aj <| ao <| ai <| an <| ai <| sR <| aa [.fa 75 0 0 lu] z <| o1 z (r1 0 0 z fw z) <| oP z <| bE H fun R A H => bQ z z z z z eK bW z f A fun T V k l => ?_
    obtain ⟨X, Z, rfl⟩ := ah k
    refine o1 z (aF z z bW (bB bor l)) <| aa [.lenS 69 3 ce] z <| bE H fun a0 C H => oq z (qc z kH (fun h v => bu h C)) tt2 <| oP z <| nQ <| cI H z (fun H => ?_) (fun H => ?_)
    ·exact sR <| oP z <| nT <| af <| ar <| af <| bd <| ar <| af <| xr 2 z (by cases H; exact q1)
    ·refine aj <| ao <| sR <| oP z <| nQ <| an <| CW.at (dn (fun (a : Int) => St w [] [b g 75 [S t p0.o_.length u]]) (fun a => [(1, O (U ⟨g, 0, N⟩)), (3, I J c), (4, I J a)]) (fun kk => fun a => fM p0 c (cJ p0 Q) kk a = U r) (fun _ H => ?_) (fun k2 D a H => ?_) aK (0) (H)) (ss [0] z z) (sb z)
     ·unfold fM at H
      exact absurd H (by simp)
     ·unfold fM at H
      refine ai <| sR <| aa [.p, .fa 75 0 0 lu] z <| o1 z (r1 0 0 z fw z) <| oP z <| bE H fun a1 E H => bQ z z z z z eK bW z f E fun a2 a3 m o => ?_
      obtain ⟨a4, a5, rfl⟩ := ah m
      refine o1 z (aF z z bW (bB bor o)) <| aa [.lenS 69 3 ce, .p] z <| nQ <| cI H z (fun H => ?_) (fun H => ?_)
      ·refine aj <| ao <| ai <| an <| ai <| eF eR (by kernel_rfl) <| aa [.fa 75 0 0 lu] z <| o1 z (r1 0 0 z fw z) <| oP z <| bE H fun F G H => bQ z z z z z eK bW z f G fun a6 a7 d q => ?_
       obtain ⟨a8, a9, rfl⟩ := ah d
       refine o1 z (aF z z bW (bB bor q)) <| oP z <| bE H fun b0 i H => bO (e := eI) (xs := F) (j := a) z z z z z ce ty3 z (ab d) i (by rw [Nat.mul_one]) <| o1 z (aF z z ty3 (cq (ab d) i)) <| oP z <| bE H fun b1 L H => oq z (qc z OF (fun h v => yb h L)) tt2 <| bE H fun b2 M H => oq z (qc z kH (fun h v => bu h M)) tt2 <| oP z <| dg <| ao <| cI H z (fun H => ?_) (fun H => ?_)
       ·exact sR <| oP z <| nT <| ar <| af <| bd <| ar <| ar <| af <| bd <| ar <| af <| xr 2 z (by cases H; exact q1)
       ·exact aj <| cx <| ao <| aJ <| aa [.p, .p, .p] z <| aE <| cz (RW.at (D (J.wrap (a + 1)) (H)) (ss [0] z z) (sb z))
      ·exact bb <| aw <| ay <| ax <| cx <| ao <| aJ <| aa [.p, .p, .p] z <| aE <| cz (RW.at (x (J.wrap (c + 1)) (H)) (ss [0] z z) (sb z))
   ·exact bb <| aw <| ay <| ax <| ao <| sR <| oP z <| nT <| xr 2 z (by cases H; exact q1)
theorem BG (w : World) {p0 : cf} {e : List Value} {r : Bool} (H : qO p0 = U r) (s : (eE).rd w [] p0 e) :
    Calls Tryz.prog 126 #[.agg e.toArray] w (fun en w' => en = .returned (B r) ∧ Ext [] w w') := by
 obtain ⟨t, u, rfl, i, j⟩ := dE s
 obtain ⟨v, rfl, f⟩ := aT i
 obtain ⟨x, A, rfl⟩ := ah f
 obtain ⟨C, rfl, g⟩ := aT j
 obtain ⟨D, E, rfl⟩ := ah g
 unfold qO at H
 refine aq Tryz.func126 z Tryz.ntmps126 z (St.init w []) <| sR <| ob _ z fun k => oP z <| nR <| aa [.fa 77 0 0 un] z <| o1 z (rx 0 0 _ z sM z) <| bE H fun h l H => oq z (qc z LQ (fun a c => sL a l (bg (ab f a c)))) tt2 <| oP z <| bE H fun m d H => aL [(10, B m), (2, B n)] 4 ?_ (fun key => OW.sub (R := [(1, O (U ⟨k, 0, N⟩)), (2, B n), (6, B h)]) ?_ (sb z))
 ·exact oP z <| nT <| xr 2 z (by cases H; exact q1)
 ·clear H
  have H := d
  clear d
  generalize h = o at H key ⊢
  cases o
  ·have H := aQ z H
   refine aa [.p, .p, .p, .p] z ?_
   obtain rfl := ak H
   exact OW.sub key (sb z)
  ·have H := aR z H
   refine aa [.fa 77 1 1 tX] z <| o1 z (rx 1 0 _ z sM z) <| bE H fun F q H => oq z (qc z LQ (fun a c => sL a q (bg (ab g a c)))) tt2 <| oP z <| ?_
   obtain rfl := ak H
   exact OW.sub key (sb z)
theorem xh (w : World) {p0 : bi} {p1 : az} {k : List Value} {l : List Value} {r : Bool} (H : mM p0 p1 = U r) (g0 : (dL).rd w [] p0 k) (g1 : (ba).rd w [] p1 l) :
    Calls Tryz.prog 86 #[.agg k.toArray, .agg l.toArray] w (fun en w' => en = .returned (B r) ∧ Ext [] w w') := by
 obtain ⟨a8, a9, b0, b1, b2, b3, b4, rfl, u, v, x, A, C, D, E⟩ := cP g0
 obtain ⟨b5, b6, rfl, e, f⟩ := aO u
 obtain ⟨b7, b8, rfl⟩ := ah e
 obtain ⟨b9, c0, rfl⟩ := ah f
 obtain rfl := v
 obtain rfl := x
 obtain rfl := A
 obtain rfl := C
 obtain rfl := D
 obtain rfl := E
 obtain ⟨c1, c2, c3, c4, rfl, F, G, L, M⟩ := dX g1
 obtain ⟨c5, c6, rfl, m, P⟩ := aW F
 obtain ⟨c7, c8, rfl⟩ := ah m
 obtain rfl := P
 obtain rfl := G
 obtain ⟨c9, d0, rfl, o, Q⟩ := aW L
 obtain ⟨d1, d2, rfl⟩ := ah o
 obtain rfl := Q
 obtain ⟨d3, d4, rfl, T, V⟩ := dE M
 obtain ⟨d5, rfl, q⟩ := aT T
 obtain ⟨d6, d7, rfl⟩ := ah q
 obtain ⟨d8, rfl, s⟩ := aT V
 obtain ⟨d9, e0, rfl⟩ := ah s
 unfold mM at H
 refine aq Tryz.func86 z Tryz.ntmps86 z (St.init w []) <| sR <| ob _ z fun g => ob _ z fun d => oP z <| nQ <| ai <| sR <| o1 z (rx 0 0 _ z sx z) <| bE H fun t X H => oq z (qc z OM (fun c a => tN c X (cl (av (ab e c a) (ab f c a)) z z z z z z))) tt2 <| oPP z <| bE H fun h i H => aL [(17, B h), (2, O (U ⟨g, 0, N⟩)), (3, O (U ⟨d, 0, N⟩))] 9 ?_ (fun key => OW.sub (R := [(2, O (U ⟨g, 0, N⟩)), (3, O (U ⟨d, 0, N⟩)), (8, B (!t))]) ?_ (sb z))
 ·refine oP z <| bE H fun Z j H => aL [(23, B Z), (2, O (U ⟨g, 0, N⟩)), (3, O (U ⟨d, 0, N⟩))] 5 ?_ (fun key => OW.sub (R := [(2, O (U ⟨g, 0, N⟩)), (3, O (U ⟨d, 0, N⟩)), (18, B h)]) ?_ (sb z))
  ·refine nQ <| cI H z (fun H => ?_) (fun H => ?_)
   ·exact sR <| oP z <| nT <| af <| xr 4 z (by cases H; exact q1)
   ·refine aj <| ao <| ai <| sR <| aa [.fa 79 1 2 tO] z <| o1 z (r1 2 1 z ty4 z) <| nQ <| cI H z (fun H => ?_) (fun H => ?_)
    ·exact sR <| aa [.fa 47 0 0 mr] z <| o1 z (rx 0 0 _ z ja z) <| aa [.fa 47 1 2 ru] z <| o1 z (rx 2 0 _ z ry z) <| aa [.fa 79 2 3 qh] z <| o1 z (rx 3 1 _ z ol z) <| bE H fun e1 a0 H => oq z (qc z LK (fun c a => wl c (p1 := p0.c_) a0 (av (ab e c a) (ab f c a)) (bh (ab o c a) z))) tt2 <| oP z <| nT <| af <| xr 4 z (by cases H; exact q1)
    ·refine aj <| ao <| sR <| aa [.fa 79 2 3 qh, .fa 73 0 0 eg] z <| o1 z (r1 3 1 z kN z) <| aa [.lenS 71 121 fT, .p, .p] z <| aL [(43, B (((p1.w_.b_.length : Int) == 0) && (p1.w_.A_ == 0)))] 5 ?_ (fun key => OW.sub (R := [(3, O (U ⟨d, 0, N⟩)), (38, B ((p1.w_.b_.length : Int) == 0))]) ?_ (sb z))
     ·exact oP z <| nT <| xr 4 z (by cases H; exact q1)
     ·generalize ((p1.w_.b_.length : Int) == 0) = a1 at key ⊢
      cases a1
      ·exact aa [.p, .p, .p, .p, .p] z <| OW.sub key ⟨z, Y⟩
      ·exact aa [.fa 79 2 3 qh, .fa 73 1 1 nf] z <| o1 z (r1 4 1 z ty3 z) <| oP z <| oP z <| OW.sub key ⟨z, Y⟩
  ·clear H
   have H := j
   clear j
   generalize h = a2 at H key ⊢
   cases a2
   ·have H := aQ z H
    refine aa [.fa 79 3 5 rf] z <| o1 z (rx 5 1 _ z Bd z) <| bE H fun e2 a3 H => oq z (qc z Om (fun c a => BG c a3 (gF (bg (ab q c a)) (bg (ab s c a))))) tt2 <| oP z <| oP z <| ?_
    obtain rfl := ak H
    exact OW.sub key (sb z)
   ·have H := aR z H
    refine aa [.p, .p, .p, .p, .p] z ?_
    obtain rfl := ak H
    exact OW.sub key (sb z)
 ·clear H
  have H := i
  clear i
  generalize (!t) = a4 at H key ⊢
  cases a4
  ·have H := aQ z H
   refine aa [.fa 47 0 0 mr] z <| o1 z (rx 0 0 _ z ja z) <| aa [.fa 47 1 2 ru] z <| o1 z (rx 2 0 _ z ry z) <| aa [.fa 79 0 0 sX] z <| o1 z (rx 0 1 _ z ol z) <| bE H fun e3 a5 H => oq z (qc z LK (fun c a => wl c (p1 := p0.c_) a5 (av (ab e c a) (ab f c a)) (bh (ab m c a) z))) tt2 <| oP z <| oP z <| ?_
   obtain rfl := ak H
   exact OW.sub key (sb z)
  ·have H := aR z H
   refine aa [.p, .p, .p, .p, .p, .p, .p, .p, .p] z ?_
   obtain rfl := ak H
   exact OW.sub key (sb z)
theorem wZ (w : World) {p0 : bi} {p1 : bP} {t : List Value} {u : List Value} {r : Bool} (H : mu p0 p1 = U r) (g0 : (dL).rd w [] p0 t) (g1 : (fy).rd w [] p1 u) :
    Calls Tryz.prog 47 #[.agg t.toArray, .agg u.toArray] w (fun en w' => en = .returned (B r) ∧ Ext [] w w') := by
 obtain ⟨d6, d7, d8, d9, e0, e1, e2, rfl, a4, a5, a6, a7, a8, a9, b0⟩ := cP g0
 obtain ⟨e3, e4, rfl, h, i⟩ := aO a4
 obtain ⟨b1, b2, rfl⟩ := ah h
 obtain ⟨b3, b4, rfl⟩ := ah i
 obtain rfl := a5
 obtain rfl := a6
 obtain rfl := a7
 obtain rfl := a8
 obtain rfl := a9
 obtain rfl := b0
 obtain ⟨e5, rfl, v⟩ := er g1
 obtain ⟨b5, b6, rfl⟩ := ah v
 unfold mu at H
 refine aq Tryz.func47 z Tryz.ntmps47 z (St.init w []) <| sR <| ob _ z fun f => ob _ z fun g => oP z <| nQ <| ai <| sR <| o1 z (rx 0 0 _ z sx z) <| bE H fun j b7 H => oq z (qc z OM (fun d c => tN d b7 (cl (av (ab h d c) (ab i d c)) z z z z z z))) tt2 <| oPP z <| aL [(16, B ((!j) || ((p1.j_.length : Int) != p0.j_))), (2, O (U ⟨f, 0, N⟩)), (3, O (U ⟨g, 0, N⟩))] 7 ?_ (fun key => OW.sub (R := [(2, O (U ⟨f, 0, N⟩)), (3, O (U ⟨g, 0, N⟩)), (9, B (!j))]) ?_ (sb z))
 ·refine nQ <| cI H z (fun H => ?_) (fun H => ?_)
  ·exact sR <| oP z <| nT <| af <| xr 4 z (by cases H; exact q1)
  ·refine aj <| ao <| ai <| sR <| oP z <| nQ <| an <| CW.at (dn (fun (e : Int) => St w [] [b f 47 [S b1 p0.p_.d_.length b2, S b3 p0.p_.m_.length b4, I J p0.c_.L_, I J p0.c_.K_, I J p0.c_.M_, I J p0.c_.f_, I J p0.c_.b_, I J p0.c_.G_, B p0.c_.P_, I J p0.j_, I J p0.N_, I J p0.O_, I J p0.s_, I J p0.t_], b g 50 [S b5 p1.j_.length b6]]) (fun e => [(2, O (U ⟨f, 0, N⟩)), (3, O (U ⟨g, 0, N⟩)), (5, I J e)]) (fun kk => fun e => gq p1 p0 kk e = U r) (fun _ H => ?_) (fun k1 x e H => ?_) aK (0) (H)) (ss [0, 1] z z) (sb z)
   ·unfold gq at H
    exact absurd H (by simp)
   ·unfold gq at H
    refine ai <| sR <| aa [.p, .fa 50 0 0 qo] z <| o1 z (r1 0 1 z yI z) <| aa [.lenS 48 79 qi, .p] z <| nQ <| cI H z (fun H => ?_) (fun H => ?_)
    ·refine aj <| ao <| ai <| an <| ai <| eF eR (by kernel_rfl) <| o1 z (rx 0 0 _ z sx z) <| aa [.fa 50 0 0 qo] z <| o1 z (r1 0 1 z yI z) <| oP z <| bE H fun a A H => bQ z z z z z qi mC z v A fun c1 c2 q s => ?_
     obtain ⟨c3, c4, c5, c6, rfl, C, D, E, F⟩ := dX q
     obtain ⟨c7, c8, rfl, k, G⟩ := aW C
     obtain ⟨L, M, rfl⟩ := ah k
     obtain rfl := G
     obtain rfl := D
     obtain ⟨c9, d0, rfl, l, P⟩ := aW E
     obtain ⟨Q, T, rfl⟩ := ah l
     obtain rfl := P
     obtain ⟨d1, d2, rfl, V, X⟩ := dE F
     obtain ⟨d3, rfl, m⟩ := aT V
     obtain ⟨Z, a0, rfl⟩ := ah m
     obtain ⟨d4, rfl, o⟩ := aT X
     obtain ⟨a1, a2, rfl⟩ := ah o
     refine o1 z (cu (cs := [S L a.F_.b_.length M, I J a.F_.A_, B a.S_, S Q a.w_.b_.length T, I J a.w_.A_, S Z a.H_.s_.o_.length a0, S a1 a.H_.t_.o_.length a2]) z z mC (bB bor s) z) <| bE H fun d5 a3 H => oq z (qc z Pr (fun d c => xh d a3 (cl (av (ab h d c) (ab i d c)) z z z z z z) (kg (bh (ab k d c) z) z (bh (ab l d c) z) (gF (bg (ab m d c)) (bg (ab o d c)))))) tt2 <| oP z <| dg <| ao <| cI H z (fun H => ?_) (fun H => ?_)
     ·exact sR <| oP z <| nT <| ar <| af <| bd <| ar <| af <| xr 4 z (by cases H; exact q1)
     ·exact aj <| cx <| ao <| aJ <| aa [.p, .p, .p] z <| aE <| cz (RW.at (x (J.wrap (e + 1)) (H)) (ss [0, 1] z z) (sb z))
    ·exact bb <| aw <| ay <| ax <| ao <| sR <| oP z <| nT <| xr 4 z (by cases H; exact q1)
 ·generalize (!j) = b8 at key ⊢
  cases b8
  ·exact aa [.fa 50 0 0 qo] z <| o1 z (r1 0 1 z yI z) <| aa [.lenS 48 79 qi, .fa 47 2 9 ta] z <| o1 z (r1 9 0 z ty3 z) <| oP z <| oP z <| OW.sub key (sb z)
  ·exact aa [.p, .p, .p, .p, .p, .p, .p] z <| OW.sub key (sb z)
theorem xG (w : World) {p0 : List aM} {p1 : Int} {d : Int} {a_0 : Option Addr} {n_0 c_0 : Nat} {r : Int} (H : mK p0 p1 d = U r) (f : (ae (bD) 84).rd w [] p0 [S a_0 n_0 c_0]) :
    Calls Tryz.prog 87 #[S a_0 n_0 c_0, I J p1, I J d] w (fun en w' => en = .returned (I J r) ∧ Ext [] w w') := by
 obtain rfl := eb f
 unfold mK at H
 refine aq Tryz.func87 z Tryz.ntmps87 z (St.init w []) <| sR <| oP z <| nR <| oP z <| nQ <| ai <| sR <| oP z <| nQ <| an <| CW.at (fx (fun (c : Int) (a : Int) => St w [] []) (fun c a => [(0, S a_0 p0.length c_0), (1, I J p1), (2, I J d), (7, I J c), (8, I J a)]) (fun kk => fun c a => du p0 p1 d kk c a = U r) (fun _ _ H => ?_) (fun t g c a H => ?_) aK (0) (0) (H)) (ss [] z z) (sb z)
 ·unfold du at H
  exact absurd H (by simp)
 ·unfold du at H
  refine ai <| sR <| aa [.p, .p, .lenS 51 84 pi, .p] z <| nQ <| cI H z (fun H => ?_) (fun H => ?_)
  ·refine aj <| ao <| ai <| an <| sR <| oPP z <| bE H fun k l H => bO (e := bD) (xs := p0) (j := a) z z z z z pi nN z (ab f) l z <| aa [.fa 84 0 0 rY] z <| o1 z (aF z z ty3 (Cs (ls (mS (ab f) l (fun _ _ h => h)) z) 0 1)) <| aa [.p, .p, .p] z <| bE H fun o i H => aL [(30, B o), (0, S a_0 p0.length c_0), (1, I J p1), (2, I J d), (7, I J c), (8, I J a)] 8 ?_ (fun key => OW.sub (R := [(0, S a_0 p0.length c_0), (1, I J p1), (2, I J d), (7, I J c), (8, I J a), (22, B (k.Q_ == p1))]) ?_ (sb z))
   ·refine nQ <| cI H z (fun H => ?_) (fun H => ?_)
    ·exact aJ <| aa [.p, .p, .p] z <| aE <| cx <| ao <| aJ <| aa [.p, .p, .p] z <| aE <| cz (RW.at (g (J.wrap (c + 1)) (J.wrap (a + 1)) (H)) (ss [] z z) (sb z))
    ·exact aj <| cx <| ao <| aJ <| aa [.p, .p, .p] z <| aE <| cz (RW.at (g (c) (J.wrap (a + 1)) (H)) (ss [] z z) (sb z))
   ·clear H
    have H := i
    clear i
    generalize (k.Q_ == p1) = q at H key ⊢
    cases q
    ·have H := aQ z H
     refine aa [.p, .p, .p, .p, .p, .p, .p, .p] z ?_
     obtain rfl := ak H
     exact OW.sub key (sb z)
    ·have H := aR z H
     refine oPP z <| bE H fun s m H => bO (e := bD) (xs := p0) (j := a) z z z z z pi nN z (ab f) m z <| aa [.fa 84 1 1 sc] z <| o1 z (aF z z ty3 (Cs (ls (mS (ab f) m (fun _ _ h => h)) z) 1 1)) <| oPP z <| oP z <| ?_
     obtain rfl := ak H
     exact OW.sub key (sb z)
  ·exact bb <| aw <| ay <| ax <| ao <| sR <| oPP z <| nT <| xr 6 z (by cases H; exact q1)
theorem Bx (w : World) {p0 : Int} {p1 : Int} {r : Int} (H : sZ p0 p1 = U r)   :
    Calls Tryz.prog 88 #[I J p0, I J p1] w (fun en w' => en = .returned (I J r) ∧ Ext [] w w') := by
 unfold sZ at H
 refine aq Tryz.func88 z Tryz.ntmps88 z (St.init w []) <| sR <| oP z <| nQ <| ai <| sR <| aa [.p, .p, .p] z <| nQ <| cI H z (fun H => ?_) (fun H => ?_)
 ·exact sR <| oPP z <| nT <| af <| xr 4 z (by cases H; exact q1)
 ·exact aj <| ao <| sR <| oPP z <| nT <| xr 4 z (by cases H; exact q1)
theorem yG (w : World) {p0 : Int} {p1 : bo} {a3 : List Value} {r : Bool} (H : oc p0 p1 = U r) (g1 : (fZ).rd w [] p1 a3) :
    Calls Tryz.prog 48 #[I J p0, .agg a3.toArray] w (fun en w' => en = .returned (B r) ∧ Ext [] w w') := by
 obtain ⟨f5, f6, rfl, t, l⟩ := eU g1
 obtain ⟨A, C, rfl⟩ := ah t
 obtain ⟨D, E, rfl⟩ := ah l
 unfold oc at H
 refine aq Tryz.func48 z Tryz.ntmps48 z (St.init w []) <| sR <| ob _ z fun c => oP z <| nQ <| ai <| sR <| oP z <| bE H fun F c6 H => oq z (qc z kH (fun k m => bu k c6)) tt2 <| oPP z <| aL [(18, B ((!F) || ((p1.n_.length : Int) != p0))), (0, I J p0), (3, O (U ⟨c, 0, N⟩))] 6 ?_ (fun key => OW.sub (R := [(0, I J p0), (3, O (U ⟨c, 0, N⟩)), (12, B (!F))]) ?_ (sb z))
 ·refine nQ <| cI H z (fun H => ?_) (fun H => ?_)
  ·exact sR <| oP z <| nT <| af <| xr 4 z (by cases H; exact q1)
  ·refine aj <| ao <| sR <| oP z <| nQ <| ai <| sR <| oP z <| nQ <| an <| CW.at (fx (fun (g : Int) (d : Int) => St w [] [b c 53 [S A p1.n_.length C, S D p1.l_.length E]]) (fun g d => [(0, I J p0), (3, O (U ⟨c, 0, N⟩)), (5, I J g), (6, I J d)]) (fun kk => fun g d => cX p0 p1 kk g d = U r) (fun _ _ H => ?_) (fun k1 a4 g d H => ?_) aK (0) (0) (H)) (ss [0] z z) (sb z)
   ·unfold cX at H
    exact absurd H (by simp)
   ·unfold cX at H
    refine ai <| sR <| aa [.p, .p, .p] z <| nQ <| cI H z (fun H => ?_) (fun H => ?_)
    ·refine aj <| ao <| ai <| an <| ai <| sR <| aa [.fa 53 0 0 mp] z <| o1 z (r1 0 0 z fw z) <| oP z <| bE H fun d0 a5 H => bQ z z z z z eK bW z t a5 fun d1 d2 X Z => ?_
     obtain ⟨d3, d4, rfl⟩ := ah X
     refine o1 z (aF z z bW (bB bor Z)) <| aa [.lenS 69 3 ce, .p, .p] z <| nQ <| cI H z (fun H => ?_) (fun H => ?_)
     ·exact sR <| oP z <| nT <| af <| ar <| af <| bd <| ar <| af <| xr 4 z (by cases H; exact q1)
     ·refine aj <| ao <| sR <| oP z <| nQ <| an <| CW.at (fx (fun (i : Int) (a : Int) => St w [] [b c 53 [S A p1.n_.length C, S D p1.l_.length E]]) (fun i a => [(0, I J p0), (3, O (U ⟨c, 0, N⟩)), (5, I J i), (6, I J d), (7, I J a)]) (fun kk => fun i a => dO p0 p1 d (cX p0 p1 k1) kk i a = U r) (fun _ _ H => ?_) (fun k2 a6 i a H => ?_) aK (g) (0) (H)) (ss [0] z z) (sb z)
      ·unfold dO at H
       exact absurd H (by simp)
      ·unfold dO at H
       refine ai <| sR <| aa [.p, .p, .p] z <| nQ <| cI H z (fun H => ?_) (fun H => ?_)
       ·refine aj <| ao <| ai <| an <| ai <| ai <| eF eR (by kernel_rfl) <| aa [.fa 53 0 0 mp] z <| o1 z (r1 0 0 z fw z) <| oP z <| bE H fun a7 a8 H => bQ z z z z z eK bW z t a8 fun d5 d6 o a0 => ?_
        obtain ⟨d7, d8, rfl⟩ := ah o
        refine o1 z (aF z z bW (bB bor a0)) <| oP z <| bE H fun d9 G H => bO (e := eI) (xs := a7) (j := a) z z z z z ce ty3 z (ab o) G (by rw [Nat.mul_one]) <| o1 z (aF z z ty3 (cq (ab o) G)) <| bE H fun L a9 H => oq z (qc z kH (fun k m => bu k a9)) tt2 <| oPP z <| bE H fun b0 u H => aL [(62, B b0), (0, I J p0), (3, O (U ⟨c, 0, N⟩)), (5, I J i), (6, I J d), (7, I J a)] 15 ?_ (fun key => OW.sub (R := [(0, I J p0), (3, O (U ⟨c, 0, N⟩)), (5, I J i), (6, I J d), (7, I J a), (47, B (!L))]) ?_ (sb z))
        ·refine dg <| ao <| cI H z (fun H => ?_) (fun H => ?_)
         ·exact sR <| oP z <| nT <| af <| ar <| af <| bd <| ar <| ar <| af <| bd <| ar <| af <| xr 4 z (by cases H; exact q1)
         ·refine aj <| ao <| aJ <| aa [.p, .fa 53 0 0 mp] z <| o1 z (r1 0 0 z fw z) <| oP z <| bE H fun b1 b2 H => bQ z z z z z eK bW z t b2 fun e0 e1 q a1 => ?_
          obtain ⟨e2, e3, rfl⟩ := ah q
          exact o1 z (aF z z bW (bB bor a1)) <| oP z <| bE H fun b3 M H => bO (e := eI) (xs := b1) (j := a) z z z z z ce ty3 z (ab q) M (by rw [Nat.mul_one]) <| o1 z (aF z z ty3 (cq (ab q) M)) <| oPP z <| aE <| cx <| ao <| aJ <| aa [.p, .p, .p] z <| aE <| cz (RW.at (a6 (J.wrap (i + b3)) (J.wrap (a + 1)) (H)) (ss [0] z z) (sb z))
        ·clear H
         have H := u
         clear u
         generalize (!L) = b4 at H key ⊢
         cases b4
         ·have H := aQ z H
          refine aa [.fa 53 1 1 lO] z <| o1 z (r1 1 0 z ug z) <| oPP z <| bE H fun e4 b5 H => oq z (qc z PD (fun k m => xG k b5 (ab l k m))) tt2 <| aa [.fa 53 0 0 mp] z <| o1 z (r1 0 0 z fw z) <| oP z <| bE H fun b6 b7 H => bQ z z z z z eK bW z t b7 fun e5 e6 s a2 => ?_
          obtain ⟨e7, e9, rfl⟩ := ah s
          refine o1 z (aF z z bW (bB bor a2)) <| oP z <| bE H fun f0 P H => bO (e := eI) (xs := b6) (j := a) z z z z z ce ty3 z (ab s) P (by rw [Nat.mul_one]) <| o1 z (aF z z ty3 (cq (ab s) P)) <| oP z <| oP z <| ?_
          obtain rfl := ak H
          exact OW.sub key (sb z)
         ·have H := aR z H
          refine aa [.p, .p, .p, .p, .p, .p, .p, .p, .p, .p, .p, .p, .p, .p, .p] z ?_
          obtain rfl := ak H
          exact OW.sub key (sb z)
       ·exact bb <| aw <| ay <| ax <| cx <| ao <| aJ <| aa [.p, .p, .p] z <| aE <| cz (RW.at (a4 (i) (J.wrap (d + 1)) (H)) (ss [0] z z) (sb z))
    ·refine bb <| aw <| ay <| ax <| ao <| ai <| ai <| eF eR (by kernel_rfl) <| aa [.p, .p, .p] z <| bE H fun b8 v H => aL [(82, B b8), (0, I J p0), (3, O (U ⟨c, 0, N⟩))] 7 ?_ (fun key => OW.sub (R := [(0, I J p0), (3, O (U ⟨c, 0, N⟩)), (5, I J g), (75, B (decide (g > 9999)))]) ?_ (sb z))
     ·refine dg <| ao <| cI H z (fun H => ?_) (fun H => ?_)
      ·exact sR <| oP z <| nT <| af <| xr 4 z (by cases H; exact q1)
      ·refine aj <| ao <| ai <| sR <| oP z <| nQ <| an <| CW.at (dn (fun (f : Int) => St w [] [b c 53 [S A p1.n_.length C, S D p1.l_.length E]]) (fun f => [(0, I J p0), (3, O (U ⟨c, 0, N⟩)), (8, I J f)]) (fun kk => fun f => dq p1 p0 kk f = U r) (fun _ H => ?_) (fun k3 b9 f H => ?_) aK (0) (H)) (ss [0] z z) (sb z)
       ·unfold dq at H
        exact absurd H (by simp)
       ·unfold dq at H
        refine ai <| sR <| aa [.p, .fa 53 1 1 lO] z <| o1 z (r1 1 0 z ug z) <| aa [.lenS 51 84 pi, .p] z <| nQ <| cI H z (fun H => ?_) (fun H => ?_)
        ·refine aj <| ao <| ai <| an <| sR <| aa [.fa 53 1 1 lO] z <| o1 z (r1 1 0 z ug z) <| oP z <| bE H fun f1 Q H => bO (e := bD) (xs := p1.l_) (j := f) z z z z z pi nN z (ab l) Q z <| aa [.fa 84 0 0 rY] z <| o1 z (aF z z ty3 (Cs (ls (mS (ab l) Q (fun _ _ h => h)) z) 0 1)) <| oPP z <| bE H fun T c0 H => oq z (qc z kH (fun k m => bu k c0)) tt2 <| oPP z <| bE H fun c1 x H => aL [(111, B c1), (0, I J p0), (3, O (U ⟨c, 0, N⟩)), (8, I J f)] 11 ?_ (fun key => OW.sub (R := [(0, I J p0), (3, O (U ⟨c, 0, N⟩)), (8, I J f), (100, B (!T))]) ?_ (sb z))
         ·refine nQ <| cI H z (fun H => ?_) (fun H => ?_)
          ·exact sR <| oP z <| nT <| ar <| af <| bd <| ar <| af <| xr 4 z (by cases H; exact q1)
          ·exact aj <| cx <| ao <| aJ <| aa [.p, .p, .p] z <| aE <| cz (RW.at (b9 (J.wrap (f + 1)) (H)) (ss [0] z z) (sb z))
         ·clear H
          have H := x
          clear x
          generalize (!T) = c2 at H key ⊢
          cases c2
          ·have H := aQ z H
           refine aa [.fa 53 1 1 lO] z <| o1 z (r1 1 0 z ug z) <| oP z <| bE H fun f2 V H => bO (e := bD) (xs := p1.l_) (j := f) z z z z z pi nN z (ab l) V z <| aa [.fa 84 1 1 sc] z <| o1 z (aF z z ty3 (Cs (ls (mS (ab l) V (fun _ _ h => h)) z) 1 1)) <| oPP z <| bE H fun f3 c3 H => oq z (qc z kH (fun k m => bu k c3)) tt2 <| oP z <| oP z <| ?_
           obtain rfl := ak H
           exact OW.sub key (sb z)
          ·have H := aR z H
           refine aa [.p, .p, .p, .p, .p, .p, .p, .p, .p, .p, .p] z ?_
           obtain rfl := ak H
           exact OW.sub key (sb z)
        ·exact bb <| aw <| ay <| ax <| ao <| sR <| oP z <| nT <| xr 4 z (by cases H; exact q1)
     ·clear H
      have H := v
      clear v
      generalize (decide (g > 9999)) = c4 at H key ⊢
      cases c4
      ·have H := aQ z H
       refine aa [.fa 53 1 1 lO] z <| o1 z (r1 1 0 z ug z) <| aa [.lenS 51 84 pi, .p] z <| bE H fun f4 c5 H => oq z (qc z PK (fun k m => Bx k c5)) tt2 <| oP z <| oP z <| ?_
       obtain rfl := ak H
       exact OW.sub key (sb z)
      ·have H := aR z H
       refine aa [.p, .p, .p, .p, .p, .p, .p] z ?_
       obtain rfl := ak H
       exact OW.sub key (sb z)
 ·generalize (!F) = c7 at key ⊢
  cases c7
  ·exact aa [.fa 53 0 0 mp] z <| o1 z (r1 0 0 z fw z) <| aa [.lenS 33 69 eK, .p, .p] z <| oP z <| OW.sub key (sb z)
  ·exact aa [.p, .p, .p, .p, .p, .p] z <| OW.sub key (sb z)
theorem zg (w : World) {p0 : aP} {e : List Value} {r : Bool} (H : oz p0 = U r) (L : (jx).rd w [] p0 e) :
    Calls Tryz.prog 16 #[.agg e.toArray] w (fun en w' => en = .returned (B r) ∧ Ext [] w w') := by
 obtain ⟨M, P, Q, rfl, l, m, o⟩ := jc L
 obtain ⟨T, V, X, Z, a0, a1, a2, rfl, q, s, t, u, v, x, A⟩ := cP l
 obtain ⟨a3, a4, rfl, f, g⟩ := aO q
 obtain ⟨a5, a6, rfl⟩ := ah f
 obtain ⟨a7, a8, rfl⟩ := ah g
 obtain rfl := s
 obtain rfl := t
 obtain rfl := u
 obtain rfl := v
 obtain rfl := x
 obtain rfl := A
 obtain ⟨a9, rfl, h⟩ := er m
 obtain ⟨b0, b1, rfl⟩ := ah h
 obtain ⟨b2, b3, rfl, i, j⟩ := eU o
 obtain ⟨b4, b5, rfl⟩ := ah i
 obtain ⟨b6, b7, rfl⟩ := ah j
 unfold oz at H
 refine aq Tryz.func16 z Tryz.ntmps16 z (St.init w []) <| sR <| ob _ z fun C => oP z <| nR <| aa [.fa 55 0 0 mq] z <| o1 z (rx 0 0 _ z sx z) <| aa [.fa 55 1 14 sU] z <| o1 z (rx 14 0 _ z zO z) <| bE H fun k D H => oq z (qc z PN (fun c a => wZ c D (cl (av (ab f c a) (ab g c a)) z z z z z z) (dV (ab h c a)))) tt2 <| oP z <| bE H fun E d H => aL [(17, B E), (2, B n)] 9 ?_ (fun key => OW.sub (R := [(1, O (U ⟨C, 0, N⟩)), (2, B n), (8, B k)]) ?_ (sb z))
 ·exact oP z <| nT <| xr 2 z (by cases H; exact q1)
 ·clear H
  have H := d
  clear d
  generalize k = F at H key ⊢
  cases F
  ·have H := aQ z H
   refine aa [.p, .p, .p, .p, .p, .p, .p, .p, .p] z ?_
   obtain rfl := ak H
   exact OW.sub key (sb z)
  ·have H := aR z H
   refine aa [.fa 55 0 0 mq, .fa 47 0 0 mr, .fa 44 1 1 lN] z <| o1 z (r1 1 0 z lr z) <| aa [.lenS 23 9 gm, .fa 55 2 15 ni] z <| o1 z (rx 15 0 _ z zW z) <| bE H fun b8 G H => oq z (qc z PP (fun c a => yG c G (ei (ab i c a) (ab j c a)))) tt2 <| oP z <| ?_
   obtain rfl := ak H
   exact OW.sub key (sb z)
theorem oB (w : World) {p0 : List (List UInt8)} {p1 : List UInt8} {a_0 : Option Addr} {n_0 c_0 : Nat} {r : List UInt8} (H : gJ p0 p1 = U r) (g : (ae (cy) 9).rd w [] p0 [S a_0 n_0 c_0]) :
    Calls Tryz.prog 52 #[S a_0 n_0 c_0, vS p1] w (fun en w' => en = .returned (vS r) ∧ Ext [] w w') := by
 obtain rfl := eb g
 unfold gJ at H
 refine aq Tryz.func52 z Tryz.ntmps52 z (St.init w []) <| sR <| oP z <| nR <| oP z <| nQ <| ai <| sR <| oP z <| nQ <| an <| CW.at (fx (fun (c : List UInt8) (a : Int) => St w [] []) (fun c a => [(0, S a_0 p0.length c_0), (1, vS p1), (5, vS c), (6, I J a)]) (fun kk => fun c a => dB p0 p1 kk c a = U r) (fun _ _ H => ?_) (fun q h c a H => ?_) aK (([] : List UInt8)) (0) (H)) (ss [] z z) (sb z)
 ·unfold dB at H
  exact absurd H (by simp)
 ·unfold dB at H
  refine ai <| sR <| aa [.p, .p, .lenS 23 9 gm, .p] z <| nQ <| cI H z (fun H => ?_) (fun H => ?_)
  ·refine aj <| ao <| ai <| an <| CU (fun (d : List UInt8) => St w [] []) (fun d => [(0, S a_0 p0.length c_0), (1, vS p1), (5, vS d), (6, I J a)]) (fun d => jO p0 a (dB p0 p1 q) d = U r) (fun d H => ?_) (fun i => ?_)
   ·unfold jO at H
    exact aJ <| aa [.p, .p, .p] z <| bE H fun s f H => bO (e := cy) (xs := p0) (j := a) z z z z z gm ty9 z (ab g) f (by rw [Nat.mul_one]) <| o1 z (aF z z ty9 (cq (ab g) f)) <| bE H fun k l H => o1 z (iX z z z l) <| oP z <| aE <| cx <| ao <| aJ <| aa [.p, .p, .p] z <| aE <| cz (RW.at (h (k) (J.wrap (a + 1)) (H)) (ss [] z z) (sb z))
   ·refine sR <| oPP z <| nQ <| cI H z (fun H => ?_) (fun H => ?_)
    ·exact aJ <| oPP z <| bE H fun m o H => o1 z (iX z z z o) <| oP z <| aE <| XW.at (i (m) (H)) (ss [] z z) (sb z)
    ·exact aj <| XW.at (i (c) (H)) (ss [] z z) (sb z)
  ·exact bb <| aw <| ay <| ax <| ao <| sR <| oPP z <| nT <| xr 4 z (by cases H; exact q1)
theorem Ai (w : World) {p0 : Int} {r : List UInt8} (H : pY p0 = U r)   :
    Calls Tryz.prog 91 #[I J p0] w (fun en w' => en = .returned (vS r) ∧ Ext [] w w') := by
 unfold pY at H
 refine aq Tryz.func91 z Tryz.ntmps91 z (St.init w []) <| sR <| oP z <| nQ <| ai <| sR <| oPP z <| nQ <| cI H z (fun H => ?_) (fun H => ?_)
 ·exact sR <| oP z <| nT <| af <| xr 2 z (by cases H; exact q1)
 ·refine aj <| ao <| sR <| aa [.p, .p, .p] z <| nR <| oP z <| nQ <| ai <| an <| CW.at (fx (fun (a : Int) (d : List UInt8) => St w [] []) (fun a d => [(0, I J a), (3, B (decide (p0 < 0))), (4, vS d)]) (fun kk => fun a d => dA p0 kk a d = U r) (fun _ _ H => ?_) (fun k f a d H => ?_) aK (p0) (([] : List UInt8)) (H)) (ss [] z z) (sb z)
  ·unfold dA at H
   exact absurd H (by simp)
  ·unfold dA at H
   refine ai <| sR <| oPP z <| nQ <| cI H z (fun H => ?_) (fun H => ?_)
   ·refine aj <| ao <| an <| sR <| aa [.p, .p, .p] z <| nQ <| CU (fun (c : Int) => St w [] []) (fun c => [(0, I J a), (3, B (decide (p0 < 0))), (4, vS d), (5, I J c)]) (fun c => iJ d (dA p0 k) a c = U r) (fun c H => ?_) (fun g => ?_)
    ·unfold iJ at H
     exact sR <| aa [.p, .p, .cv 3 5 K us3 in5] z <| dm (val := I K) (h1 := fun _ => z) [K.wrap (J.wrap (48 + c))] [(0, [I K (K.wrap (J.wrap (48 + c)))])] z z z z z eH ty5 z z z ⟨z, z, nl z, Y⟩ z z (fun _ => kp) fun l => o1 z (IX (xs := ([K.wrap (J.wrap (48 + c))] : List Int)) z z eH in5 st9 (aY (e := ae e8 5) (r := 0) z)) <| oP z <| bE H fun h i H => o1 z (iX z z z i) <| oP z <| nQ <| aJ <| aa [.p, .p, .p] z <| aE <| cx <| cz (RW.at (f (J.wrap (Int.tdiv a 10)) (h) (H)) (ss [] z z) (sb z))
    ·refine sR <| oPP z <| nQ <| cI H z (fun H => ?_) (fun H => ?_)
     ·exact aJ <| aa [.p, .p, .p] z <| aE <| XW.at (g (J.wrap (0 - (Int.tmod a 10))) (H)) (ss [] z z) (sb z)
     ·exact aj <| XW.at (g (Int.tmod a 10) (H)) (ss [] z z) (sb z)
   ·refine bb <| aw <| ay <| ax <| ao <| ai <| sR <| oP z <| nQ <| cI H z (fun H => ?_) (fun H => ?_)
    ·exact sR <| oP z <| bE H fun m j H => o1 z (iX z z z j) <| oP z <| nT <| af <| xr 2 z (by cases H; exact q1)
    ·exact aj <| ao <| sR <| oPP z <| nT <| xr 2 z (by cases H; exact q1)
theorem xD (w : World) {p0 : aB} {q : List Value} {r : List UInt8} (H : lh p0 = U r) (g0 : (bj).rd w [] p0 q) :
    Calls Tryz.prog 51 #[.agg q.toArray] w (fun en w' => en = .returned (vS r) ∧ Ext [] w w') := by
 obtain ⟨a5, a6, a7, rfl, C, k, m⟩ := bV g0
 obtain rfl := C
 obtain ⟨D, E, rfl⟩ := ah k
 obtain ⟨F, G, rfl⟩ := ah m
 unfold lh at H
 refine aq Tryz.func51 z Tryz.ntmps51 z (St.init w []) <| sR <| ob _ z fun s => oP z <| nQ <| ai <| sR <| o1 z (rx 0 0 _ z ed z) <| bE H fun a8 L H => oq z (qc z MD (fun c a => qX c L (cZ z (ab k c a) (ab m c a)))) tt2 <| oP z <| nQ <| cI H z (fun H => ?_) (fun H => ?_)
 ·exact sR <| oP z <| nT <| af <| xr 2 z (by cases H; exact q1)
 ·refine aj <| ao <| ai <| sR <| aa [.fa 111 2 2 ks] z <| o1 z (r1 2 0 z lr z) <| aa [.lenS 23 9 gm, .p] z <| nQ <| cI H z (fun H => ?_) (fun H => ?_)
  ·exact ai <| eF eR (by kernel_rfl) <| aa [.fa 111 0 0 me] z <| o1 z (r1 0 0 z ty9 z) <| bE H fun a9 M H => o1 z (iX z z z M) <| aa [.fa 111 2 2 ks] z <| o1 z (r1 2 0 z lr z) <| bE H fun b0 P H => oq z (qc z KI (fun c a => oB c P (ab m c a))) tt2 <| bE H fun b1 Q H => o1 z (iX z z z Q) <| oP z <| dg <| ao <| rG <| af <| xr 2 z (by cases H; exact q1)
  ·refine aj <| ao <| sR <| jw (e := cy) z z z z gm ty9 (fun _ => kp) fun t => oP z <| nQ <| ai <| sR <| oP z <| nQ <| an <| CW.at (oL (fun (d : List (List UInt8)) (g : Option Addr) (h : Nat) (l : List Nat) (f : Int) => St w [] [b s 111 [vS p0.E_, S D p0.z_.length E, S F p0.I_.length G], W (ae (cy) 9) l d [S g d.length h]]) (fun d g h l f => [(1, O (U ⟨s, 0, N⟩)), (3, S g d.length h), (4, I J f)]) (fun kk => fun d g h l f => g.isNone = n ∧ ep p0 kk d f = U r) (fun _ _ _ _ _ H => ?_) (fun k1 x d g h l f ⟨a4, H⟩ => ?_) aK (([] : List (List UInt8))) ((U ⟨t, 0, N⟩)) (0) ([t]) (0) (⟨z, H⟩)) (ss [0, 1] z z) (sb z)
   ·unfold ep at H
    exact absurd H (by simp)
   ·unfold ep at H
    refine ai <| sR <| aa [.p, .fa 111 1 1 gn] z <| o1 z (r1 1 0 z bW z) <| aa [.lenS 69 3 ce, .p] z <| nQ <| cI H z (fun H => ?_) (fun H => ?_)
    ·exact aj <| ao <| ai <| an <| aJ <| aa [.p, .fa 111 1 1 gn] z <| o1 z (r1 1 0 z bW z) <| oP z <| bE H fun b2 u H => bO (e := eI) (xs := p0.z_) (j := f) z z z z z ce ty3 z (ab k) u (by rw [Nat.mul_one]) <| o1 z (aF z z ty3 (cq (ab k) u)) <| bE H fun o R H => oq z (qc z PZ (fun c a => Ai c R)) tt2 <| dm (val := vS) (h1 := fun _ => z) [o] [(0, [vS o])] z z z z z gm ty9 z z z ⟨z, z, nl z, Y⟩ z z (fun _ => kp) fun b3 => bE H fun T v H => cV (r := 1) (ys := ([o] : List (List UInt8))) z z z z z z gm ty9 z z z (fun c a => aY (e := ae (cy) 9) (r := 2) z c a) v (fun _ _ _ => kp) fun V X Z => el z (fun c a => rW (i := 1) a z (sa v)) fun A => oP z <| aE <| cx <| ao <| aJ <| aa [.p, .p, .p] z <| aE <| cz (RW.at (x (T) (V) (X) (Z) (J.wrap (f + 1)) (⟨A, H⟩)) (ss [0, 1] z z) (sb z))
    ·exact bb <| aw <| ay <| ax <| ao <| ai <| eF eR (by kernel_rfl) <| aa [.fa 111 0 0 me] z <| o1 z (r1 0 0 z ty9 z) <| bE H fun b4 a0 H => o1 z (iX z z z a0) <| oP z <| bE H fun b5 a1 H => oq z (qc z KI (fun c a => oB c a1 (aY (e := ae (cy) 9) (r := 1) z c a))) tt2 <| bE H fun b6 a2 H => o1 z (iX z z z a2) <| oP z <| dg <| ao <| rG <| xr 2 z (by cases H; exact q1)
theorem vL (w : World) {p0 : am} {v : List Value} {r : List UInt8} (H : kJ p0 = U r) (g0 : (bK).rd w [] p0 v) :
    Calls Tryz.prog 18 #[.agg v.toArray] w (fun en w' => en = .returned (vS r) ∧ Ext [] w w') := by
 obtain ⟨b6, b7, rfl, l, m⟩ := aO g0
 obtain ⟨a2, a3, rfl⟩ := ah l
 obtain ⟨a4, a5, rfl⟩ := ah m
 unfold kJ at H
 refine aq Tryz.func18 z Tryz.ntmps18 z (St.init w []) <| sR <| ob _ z fun x => oP z <| nQ <| ai <| sR <| o1 z (rx 0 0 _ z ja z) <| bE H fun b8 a6 H => oq z (qc z HV (fun c a => iH c a6 (av (ab l c a) (ab m c a)))) tt2 <| oP z <| nQ <| cI H z (fun H => ?_) (fun H => ?_)
 ·exact sR <| oP z <| nT <| af <| xr 2 z (by cases H; exact q1)
 ·refine aj <| ao <| sR <| jw (e := cy) z z z z gm ty9 (fun _ => kp) fun A => oP z <| nQ <| ai <| sR <| oP z <| nQ <| an <| CW.at (oL (fun (d : List (List UInt8)) (f : Option Addr) (h : Nat) (k : List Nat) (g : Int) => St w [] [b x 44 [S a2 p0.d_.length a3, S a4 p0.m_.length a5], W (ae (cy) 9) k d [S f d.length h]]) (fun d f h k g => [(1, O (U ⟨x, 0, N⟩)), (3, S f d.length h), (4, I J g)]) (fun kk => fun d f h k g => f.isNone = n ∧ dH p0 kk d g = U r) (fun _ _ _ _ _ H => ?_) (fun k1 C d f h k g ⟨b0, H⟩ => ?_) aK (([] : List (List UInt8))) ((U ⟨A, 0, N⟩)) (0) ([A]) (0) (⟨z, H⟩)) (ss [0, 1] z z) (sb z)
  ·unfold dH at H
   exact absurd H (by simp)
  ·unfold dH at H
   refine ai <| sR <| aa [.p, .fa 44 0 0 fS] z <| o1 z (r1 0 0 z nP z) <| aa [.lenS 42 111 kr, .p] z <| nQ <| cI H z (fun H => ?_) (fun H => ?_)
   ·refine aj <| ao <| ai <| an <| aJ <| aa [.p, .fa 44 0 0 fS] z <| o1 z (r1 0 0 z nP z) <| oP z <| bE H fun o a7 H => bQ z z z z z kr ed z l a7 fun b9 c0 D E => ?_
    obtain ⟨c1, c2, c3, rfl, a8, q, s⟩ := bV D
    obtain rfl := a8
    obtain ⟨F, G, rfl⟩ := ah q
    obtain ⟨L, M, rfl⟩ := ah s
    exact o1 z (cu (cs := [vS o.E_, S F o.z_.length G, S L o.I_.length M]) z z ed (bB bor E) z) <| bE H fun j P H => oq z (qc z QE (fun c a => xD c P (cZ z (ab q c a) (ab s c a)))) tt2 <| dm (val := vS) (h1 := fun _ => z) [j] [(0, [vS j])] z z z z z gm ty9 z z z ⟨z, z, nl z, Y⟩ z z (fun _ => kp) fun b1 => bE H fun Q t H => cV (r := 1) (ys := ([j] : List (List UInt8))) z z z z z z gm ty9 z z z (fun c a => aY (e := ae (cy) 9) (r := 2) z c a) t (fun _ _ _ => kp) fun R T V => el z (fun c a => rW (i := 1) a z (sa t)) fun u => oP z <| aE <| cx <| ao <| aJ <| aa [.p, .p, .p] z <| aE <| cz (RW.at (C (Q) (R) (T) (V) (J.wrap (g + 1)) (⟨u, H⟩)) (ss [0, 1] z z) (sb z))
   ·exact bb <| aw <| ay <| ax <| ao <| ai <| eF eR (by kernel_rfl) <| oP z <| bE H fun b2 X H => oq z (qc z KI (fun c a => oB c X (aY (e := ae (cy) 9) (r := 1) z c a))) tt2 <| bE H fun b3 Z H => o1 z (iX z z z Z) <| aa [.fa 44 1 1 lN] z <| o1 z (r1 1 0 z lr z) <| bE H fun b4 a0 H => oq z (qc z KI (fun c a => oB c a0 (ab m c a))) tt2 <| bE H fun b5 a1 H => o1 z (iX z z z a1) <| oP z <| dg <| ao <| rG <| xr 2 z (by cases H; exact q1)
end Go.Vk
