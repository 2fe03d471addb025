/- The code does what the functions of data say. Printed by program. -/
import Derived.Test.YtdckhcfbccnjiaaGreatDoorWTlB
namespace Go.Vk
open Value renaming int → I, slice → S, pointer → O, bool → B
open IntKind renaming i64 → J, u8 → K
open Bool renaming true → y, false → n
open Option renaming some → U, none → N
open Res renaming box → b, own → W
open Go.Proofs Go.RowKit
set_option maxHeartbeats 4000000
set_option maxRecDepth 100000
theorem jo (w : World) {p0 : aZ} {p1 : aZ} {r : Int} (H : gr p0 p1 = U r)   :
    Calls Tryz.prog 172 #[.agg #[I J p0.C_, I J p0.B_], .agg #[I J p1.C_, I J p1.B_]] w (fun en w' => en = .returned (I J r) ∧ Ext [] w w') := by
 unfold gr at H
 refine aG Tryz.func172 z Tryz.ntmps172 z (St.init w []) <| sR <| ob _ z fun d => ob _ z fun f => oP z <| nQ <| ak <| sR <| o1 z (rx 0 0 _ z cq z) <| bE H fun k o H => oq z (qc z tW (fun c a => iT c (p0 := p0) o)) tt2 <| oPP z <| bE H fun q g H => aQ [(12, B q), (2, O (U ⟨d, 0, N⟩)), (3, O (U ⟨f, 0, N⟩))] 4 ?_ (fun key => OW.sub (R := [(2, O (U ⟨d, 0, N⟩)), (3, O (U ⟨f, 0, N⟩)), (8, B (!k))]) ?_ (sb z))
 ·refine nQ <| cI H z (fun H => ?_) (fun H => ?_)
  ·exact sR <| oP z <| nT <| ap <| xr 4 z (by cases H; exact q1)
  ·refine aw <| az <| ak <| cW 9 [(0, y), (1, y), (2, y), (3, y), (5, y), (6, y), (7, y), (8, y), (4, n)] (St w [] [b d 186 [I J p0.C_, I J p0.B_], b f 186 [I J p1.C_, I J p1.B_]]) bT (by kernel_rfl) (aV be) (tk 2 z) <| aa [.fa 186 0 0 mu] z <| br z (ax z) (r1 0 0 z ty3 z) <| aa [.fa 186 1 1 lJ] z <| br z (ax z) (r1 1 1 z ty3 z) <| aa [.fa 186 0 0 mu] z <| br z (ax z) (r1 0 1 z ty3 z) <| aa [.fa 186 1 1 lJ] z <| br z (ax z) (r1 1 0 z ty3 z) <| bE H fun C s H => aq z sZ z z z z (fun c a => gk c s (a.carve [] z z)) fun D c A a l => ?_
   obtain ⟨E, F, G, L, rfl, h⟩ := l
   obtain rfl := aH (i := 0) h z
   refine ⟨St w [] [_, _, _], a.comp [] z z h, (tk 2 z), ?_⟩
   refine aJ <| iY <| bE H fun M t H => aq z sZ z z z z (fun c a => gk c t (a.carve [] z z)) fun P c A a m => ?_
   obtain ⟨Q, X, Z, a0, rfl, j⟩ := m
   obtain rfl := aH (i := 0) j z
   refine ⟨St w [] [_, _, _, _], a.comp [] z z j, fun _ _ => Y, ?_⟩
   exact bE H fun a1 u H => oq z (qc z yc (fun c a => na c u (au (e := af eI 3) (r := 2) z c a) (au (e := af eI 3) (r := 3) z c a))) tt2 <| oP z <| nT <| xr 4 z (by cases H; exact q1)
 ·clear H
  have H := g
  clear g
  generalize (!k) = v at H key ⊢
  cases v
  ·have H := ba z H
   refine o1 z (rx 0 1 _ z cq z) <| bE H fun a2 x H => oq z (qc z tW (fun c a => iT c (p0 := p1) x)) tt2 <| oP z <| oP z <| ?_
   obtain rfl := ai H
   exact OW.sub key (sb z)
  ·have H := bb z H
   refine aa [.p, .p, .p, .p] z ?_
   obtain rfl := ai H
   exact OW.sub key (sb z)
theorem jH (w : World) {p0 : ae} {p1 : av} {p2 : Int} {p3 : Bool} {b7 : List Value} {b8 : List Value} {r : ar × aZ} (H : mb p0 p1 p2 p3 = U r) (g0 : (aX).rd w [] p0 b7) (g1 : (cn).rd w [] p1 b8) :
    Calls Tryz.prog 184 #[.agg b7.toArray, .agg b8.toArray, I J p2, B p3] w (fun en w' => en = .returned (.tuple #[.agg #[I J r.1.g_, I J r.1.c_], .agg #[I J r.2.C_, I J r.2.B_]]) ∧ Ext [] w w') := by
 obtain ⟨d6, d7, rfl, E, F⟩ := aI g0
 obtain ⟨a1, a2, rfl⟩ := am E
 obtain ⟨a3, a4, rfl⟩ := am F
 obtain ⟨d8, d9, rfl, X, Z⟩ := aL g1
 obtain ⟨a5, a6, rfl⟩ := am X
 obtain ⟨a7, a8, rfl⟩ := am Z
 unfold mb at H
 refine aG Tryz.func184 z Tryz.ntmps184 z (St.init w []) <| sR <| ob _ z fun t => ob _ z fun u => aC z z z z cH (fun _ => kp) fun x => aC z z z z cq (fun _ => kp) fun v => nQ <| ak <| sR <| o1 z (rx 0 0 _ z bU z) <| o1 z (rx 0 1 _ z cP z) <| bE H fun a0 c4 H => oq z (qc z uR (fun c a => fc c c4 (ah (ab E c a) (ab F c a)) (aE (ab X c a) (ab Z c a)))) tt2 <| oPP z <| aQ [(24, B ((!a0) || ((p1.d_.length : Int) == 0))), (2, I J p2), (3, B p3), (4, O (U ⟨t, 0, N⟩)), (5, O (U ⟨u, 0, N⟩)), (8, O (U ⟨x, 0, N⟩)), (9, O (U ⟨v, 0, N⟩))] 5 ?_ (fun key => OW.sub (R := [(2, I J p2), (3, B p3), (4, O (U ⟨t, 0, N⟩)), (5, O (U ⟨u, 0, N⟩)), (8, O (U ⟨x, 0, N⟩)), (9, O (U ⟨v, 0, N⟩)), (19, B (!a0))]) ?_ (sb z))
 ·refine oP z <| bE H fun c5 b1 H => aQ [(33, B c5), (2, I J p2), (3, B p3), (4, O (U ⟨t, 0, N⟩)), (5, O (U ⟨u, 0, N⟩)), (8, O (U ⟨x, 0, N⟩)), (9, O (U ⟨v, 0, N⟩))] 8 ?_ (fun key => OW.sub (R := [(2, I J p2), (3, B p3), (4, O (U ⟨t, 0, N⟩)), (5, O (U ⟨u, 0, N⟩)), (8, O (U ⟨x, 0, N⟩)), (9, O (U ⟨v, 0, N⟩)), (25, B ((!a0) || ((p1.d_.length : Int) == 0)))]) ?_ (sb z))
  ·refine nQ <| cI H z (fun H => ?_) (fun H => ?_)
   ·exact sR <| o1 z (bI [] [I J 0, I J 0] z z cH un z Y z) <| o1 z (bI [] [I J 0, I J 0] z z cq rC z Y z) <| sC 0 [I J 0, I J 0] [_, _] 2 z cH z <| sC 0 [I J 0, I J 0] [_, _] 3 z cq z <| nT <| ap <| aY (rs := [.cell 8 66, .cell 9 186]) (vs := [.agg #[I J 0, I J 0], .agg #[I J 0, I J 0]]) z ⟨⟨_, [I J 0, I J 0], _, _, _, z, cH, (bl (T := 66) 0 (bK (i := 2) z) z), z, z⟩, ⟨_, [I J 0, I J 0], _, _, _, z, cq, (bl (T := 186) 0 (bK (i := 3) z) z), z, z⟩, Y⟩ (fun w' hw' => by
     obtain rfl := ai H
     exact ⟨z, hw'.ext⟩)
   ·refine aw <| az <| sR <| o1 z (rx 0 0 _ z bU z) <| oP z <| bA (val := I J) (h1 := fun _ => z) [p2] [(0, [I J p2])] z z z z z aO ty3 z z z ⟨z, z, nl z, Y⟩ z z (fun _ => kp) fun e0 => oP z <| bE H fun d c6 H => aq z CY z z z z (fun c a => qk c c6 (a.carve [] z z) (ah (ab E c a) (ab F c a)) (au (e := af eI 3) (r := 4) z c a)) fun e1 c w2 a c0 => ?_
    obtain ⟨G, e2, L, a9, rfl, b2⟩ := c0
    obtain rfl := aH (i := 0) b2 z
    refine ⟨St w [] [_, _, _, _, _, _], a.comp [] z z b2, fun _ _ => Y, ?_⟩
    refine oP z <| nR <| oP z <| bE H fun C b9 H => bq (e := bz) (xs := d) (j := 0) z z z z z mE cH z (fun c a => au (e := af (bz) 66) (r := 5) z c a) b9 z <| o1 z (cV (cs := [I J C.g_, I J C.c_]) z z cH (mH (nh (fun c a => au (e := af (bz) 66) (r := 5) z c a) b9 (fun _ _ h => h)) z) z) <| aC z z z z cH (fun _ => kp) fun M => sC 0 [I J C.g_, I J C.c_] [_, _] 6 z cH z <| nR <| o1 z (rx 0 0 _ z bU z) <| o1 z (rx 0 1 _ z cP z) <| o1 z (rx 0 6 _ z cH z) <| bE H fun b0 c7 H => oq z (qc z yI (fun c a => nz c (p2 := C) c7 (ah (ab E c a) (ab F c a)) (aE (ab X c a) (ab Z c a)))) tt2 <| aC z z z z cq (fun _ => kp) fun P => sC 0 [I J b0.C_, I J b0.B_] [_, _] 7 z cq z <| nQ <| ak <| sR <| oP z <| nQ <| aB <| CW.at (iz (fun (k : Int) (l : Int) (f : Int) (g : Int) (m : Int) => St w [] [W (af (bz) 66) a9 d [S G d.length L], b M 66 [I J k, I J l], b P 186 [I J f, I J g], b t 27 [S a1 p0.b_.length a2, S a3 p0.k_.length a4], b u 69 [S a5 p1.e_.length a6, S a7 p1.d_.length a8], b x 66 [I J 0, I J 0], b v 186 [I J 0, I J 0]]) (fun k l f g m => [(4, O (U ⟨t, 0, N⟩)), (5, O (U ⟨u, 0, N⟩)), (8, O (U ⟨x, 0, N⟩)), (9, O (U ⟨v, 0, N⟩)), (10, S G d.length L), (11, O (U ⟨M, 0, N⟩)), (12, O (U ⟨P, 0, N⟩)), (13, I J m)]) (fun kk => fun k l f g m => fx d p0 p1 kk k l f g m = U r) (fun _ _ _ _ _ H => ?_) (fun k1 b3 k l f g m H => ?_) bh (C.g_) (C.c_) (b0.C_) (b0.B_) (1) (H)) (ss [5, 6, 7, 0, 1, 2, 3] z z) (sb z)
    ·unfold fx at H
     exact absurd H (by simp)
    ·unfold fx at H
     refine ak <| sR <| aa [.p, .p, .lenS 155 66 mE, .p] z <| nQ <| cI H z (fun H => ?_) (fun H => ?_)
     ·refine aw <| az <| ak <| aB <| uO (fun (D : Nat) (o : Int) (q : Int) => St w [] [W (af (bz) 66) a9 d [S G d.length L], b M 66 [I J k, I J l], b P 186 [I J f, I J g], b D 186 [I J o, I J q], b t 27 [S a1 p0.b_.length a2, S a3 p0.k_.length a4], b u 69 [S a5 p1.e_.length a6, S a7 p1.d_.length a8], b x 66 [I J 0, I J 0], b v 186 [I J 0, I J 0]]) (fun D o q => [(4, O (U ⟨t, 0, N⟩)), (5, O (U ⟨u, 0, N⟩)), (8, O (U ⟨x, 0, N⟩)), (9, O (U ⟨v, 0, N⟩)), (10, S G d.length L), (11, O (U ⟨M, 0, N⟩)), (12, O (U ⟨P, 0, N⟩)), (13, I J m), (14, O (U ⟨D, 0, N⟩))]) (fun D o q => ll f g d m (fx d p0 p1 k1) k l o q = U r) (fun D o q H => ?_) (fun J1 => ?_)
      ·unfold ll at H
       refine sR <| o1 z (rx 0 3 _ z cq z) <| o1 z (rx 0 2 _ z cq z) <| bE H fun d5 c1 H => oq z (qc z vJ (fun c a => jo c (p0 := (aZ.mk o q)) (p1 := (aZ.mk f g)) c1)) tt2 <| oP z <| nQ <| cI H z (fun H => ?_) (fun H => ?_)
       ·exact sR <| oPP z <| bE H fun A b4 H => bq (e := bz) (xs := d) (j := m) z z z z z mE cH z (fun c a => au (e := af (bz) 66) (r := 0) z c a) b4 z <| o1 z (cV (cs := [I J A.g_, I J A.c_]) z z cH (mH (nh (fun c a => au (e := af (bz) 66) (r := 0) z c a) b4 (fun _ _ h => h)) z) z) <| sC 0 [I J A.g_, I J A.c_] [_, _] 1 z cH z <| nQ <| aT <| o1 z (rx 0 3 _ z cq z) <| sC 0 [I J o, I J q] [_, _] 2 z cq z <| ay <| ca <| az <| aT <| aa [.p, .p, .p] z <| ay <| cQ (RW.at (b3 (A.g_) (A.c_) (o) (q) (J.wrap (m + 1)) (H)) (ss [0, 1, 2, 4, 5, 6, 7] z z) (sb z))
       ·exact aw <| ca <| az <| aT <| aa [.p, .p, .p] z <| ay <| cQ (RW.at (b3 (k) (l) (f) (g) (J.wrap (m + 1)) (H)) (ss [0, 1, 2, 4, 5, 6, 7] z z) (sb z))
      ·refine bE H fun Q b5 H => bE H fun s b6 H => om 8 [(0, y), (1, y), (2, y), (3, y), (4, y), (5, y)] (Br.alt 6 (Br.pre [(7, n)] Br.done) (Br.pre [(7, n), (6, n)] Br.done)) (St w [] [W (af (bz) 66) a9 d [S G d.length L], b M 66 [I J k, I J l], b P 186 [I J f, I J g], b t 27 [S a1 p0.b_.length a2, S a3 p0.k_.length a4], b u 69 [S a5 p1.e_.length a6, S a7 p1.d_.length a8], b x 66 [I J 0, I J 0], b v 186 [I J 0, I J 0]]) bT (by kernel_rfl) (aV (bF (aV (fe (bF (aV be)))))) (tk 7 z) <| br z (ax z) (rx 0 3 _ z bU z) <| br z (ax z) (rx 0 4 _ z cP z) <| oPP z <| bq (e := bz) (xs := d) (j := m) z z z z z mE cH z (fun c a => au (e := af (bz) 66) (r := 0) z c a) b5 z <| br z (ax z) (cV (cs := [I J Q.g_, I J Q.c_]) z z cH (mH (nh (fun c a => au (e := af (bz) 66) (r := 0) z c a) b5 (fun _ _ h => h)) z) z) <| aJ <| ei (tk 7 z) z ?_ ?_
       ·exact oq z (qc z yI (fun c a => nz c (p2 := Q) b6 (ah (ab E c a) (ab F c a)) (aE (ab X c a) (ab Z c a)))) (tk 7 z) <| aC z z z z cq (fun _ => (tk 7 z)) fun c2 => aJ <| cK <| sC 0 [I J s.C_, I J s.B_] [_, _] 7 z cq z <| ay <| XW.at (J1 (c2) (s.C_) (s.B_) (H)) (ss [0, 1, 2, 7, 3, 4, 5, 6] z z) (sb z)
       exact dB (tk 7 z) z <| aC z z z z cq (fun _ => (tk 7 z)) fun c3 => oq z (qc z yI (fun c a => nz c (p2 := Q) b6 (ah (ab E c a) (ab F c a)) (aE (ab X c a) (ab Z c a)))) (tk 7 z) <| aJ <| cK <| sC 0 [I J s.C_, I J s.B_] [_, _] 7 z cq z <| ay <| XW.at (J1 (c3) (s.C_) (s.B_) (H)) (ss [0, 1, 2, 7, 3, 4, 5, 6] z z) (sb z)
     ·exact bH <| aN <| aS <| aM <| az <| ak <| cW 3 [(0, y), (1, y), (2, n)] (St w [] [W (af (bz) 66) a9 d [S G d.length L], b M 66 [I J k, I J l], b P 186 [I J f, I J g], b t 27 [S a1 p0.b_.length a2, S a3 p0.k_.length a4], b u 69 [S a5 p1.e_.length a6, S a7 p1.d_.length a8], Res.nil, b v 186 [I J 0, I J 0]]) bT (by kernel_rfl) (aV be) (sm [y, y, y, y, y, n, y] z) <| br z (ax z) (rx 0 1 _ z cH z) <| br z (ax z) (rx 0 2 _ z cq z) <| bo (off := 0) [I J k, I J l] [_, _] (i := 5) z z z z z z cH z z (al z) z z z (sm [y, y, y, y, y, n, y] z) <| aJ <| iY <| sC 0 [I J f, I J g] [_, _] 6 z cq z <| nT <| aY (rs := [.cell 8 66, .cell 9 186]) (vs := [.agg #[I J k, I J l], .agg #[I J f, I J g]]) z ⟨⟨_, [I J k, I J l], _, _, _, z, cH, (bl (T := 66) 0 (bK (i := 5) z) z), z, z⟩, ⟨_, [I J f, I J g], _, _, _, z, cq, (bl (T := 186) 0 (bK (i := 6) z) z), z, z⟩, Y⟩ (fun w' hw' => by
       obtain rfl := ai H
       exact ⟨z, hw'.ext⟩)
  ·clear H
   have H := b1
   clear b1
   generalize ((!a0) || ((p1.d_.length : Int) == 0)) = c9 at H key ⊢
   cases c9
   ·have H := ba z H
    refine aa [.p, .fa 27 0 0 dq] z <| o1 z (r1 0 0 z iH z) <| aa [.lenS 24 63 iw, .p] z <| bE H fun e3 d0 H => oq z (qc z gK (fun c a => bf c d0)) tt2 <| oP z <| oP z <| ?_
    obtain rfl := ai H
    exact OW.sub key (sb z)
   ·have H := bb z H
    refine aa [.p, .p, .p, .p, .p, .p, .p, .p] z ?_
    obtain rfl := ai H
    exact OW.sub key (sb z)
 ·generalize (!a0) = d1 at key ⊢
  cases d1
  ·exact aa [.fa 69 1 1 dL] z <| o1 z (r1 1 1 z jm z) <| aa [.lenS 67 31 gL, .p] z <| oP z <| OW.sub key (sb z)
  ·exact aa [.p, .p, .p, .p, .p] z <| OW.sub key (sb z)
theorem tA (w : World) {p0 : bt} {p1 : bt} {r : Bool} (H : oc p0 p1 = U r)   :
    Calls Tryz.prog 185 #[.agg #[I J p0.l_.g_, I J p0.l_.c_, I J p0.A_.C_, I J p0.A_.B_], .agg #[I J p1.l_.g_, I J p1.l_.c_, I J p1.A_.C_, I J p1.A_.B_]] w (fun en w' => en = .returned (B r) ∧ Ext [] w w') := by
 unfold oc at H
 exact aG Tryz.func185 z Tryz.ntmps185 z (St.init w []) <| sR <| ob _ z fun d => ob _ z fun e => oP z <| nR <| aa [.fa 188 1 2 si] z <| o1 z (rx 2 0 _ z cq z) <| aa [.fa 188 1 2 si] z <| o1 z (rx 2 1 _ z cq z) <| bE H fun f a H => oq z (qc z vJ (fun c g => jo c (p0 := p0.A_) (p1 := p1.A_) a)) tt2 <| oPP z <| nT <| xr 4 z (by cases H; exact q1)
theorem uh (w : World) {Z : List Nat} {p0 : ae} {p1 : av} {p2 : List Int} {p3 : Bool} {c4 : List Value} {c5 : List Value} {a_2 : Option Addr} {n_2 c_2 : Nat} {r : List bt} (H : nS p0 p1 p2 p3 = U r) (HS : St w Z [] w) (g0 : (aX).rd w Z p0 c4) (g1 : (cn).rd w Z p1 c5) (g2 : (af eI 3).rd w Z p2 [S a_2 n_2 c_2]) :
    Calls Tryz.prog 170 #[.agg c4.toArray, .agg c5.toArray, S a_2 n_2 c_2, B p3] w (fun en w' => ∃ v, en = .returned v ∧ ∃ (a0 : Option Addr), ∃ (n0 : Nat), ∃ (c0 : Nat), ∃ (F0 : List Nat), v = S a0 n0 c0 ∧ St w Z [W (af (bO) 188) F0 r [S a0 n0 c0]] w') := by
 obtain ⟨h3, h4, rfl, D, E⟩ := aI g0
 obtain ⟨a1, a2, rfl⟩ := am D
 obtain ⟨a3, a4, rfl⟩ := am E
 obtain ⟨h5, h6, rfl, F, G⟩ := aL g1
 obtain ⟨a5, a6, rfl⟩ := am F
 obtain ⟨a7, a8, rfl⟩ := am G
 obtain rfl := ee g2
 unfold nS at H
 refine aG Tryz.func170 z Tryz.ntmps170 z (HS) <| sR <| ob _ z fun u => ob _ z fun x => oP z <| nR <| bM (e := bO) z z z z ni jc (fun _ => kp) fun C => oP z <| nQ <| ak <| sR <| o1 z (rx 0 0 _ z bU z) <| o1 z (rx 0 1 _ z cP z) <| bE H fun a9 f3 H => oq z (qc z uR (fun d c => fc d f3 (ah (ab D d c) (ab E d c)) (aE (ab F d c) (ab G d c)))) tt2 <| oPP z <| aQ [(26, B ((!a9) || ((p1.d_.length : Int) == 0))), (2, S a_2 p2.length c_2), (3, B p3), (4, O (U ⟨u, 0, N⟩)), (5, O (U ⟨x, 0, N⟩)), (9, S (U ⟨C, 0, N⟩) 0 0)] 5 ?_ (fun key => OW.sub (R := [(2, S a_2 p2.length c_2), (3, B p3), (4, O (U ⟨u, 0, N⟩)), (5, O (U ⟨x, 0, N⟩)), (9, S (U ⟨C, 0, N⟩) 0 0), (21, B (!a9))]) ?_ (sb z))
 ·refine oP z <| bE H fun f4 b2 H => aQ [(32, B f4), (2, S a_2 p2.length c_2), (3, B p3), (4, O (U ⟨u, 0, N⟩)), (5, O (U ⟨x, 0, N⟩)), (9, S (U ⟨C, 0, N⟩) 0 0)] 5 ?_ (fun key => OW.sub (R := [(2, S a_2 p2.length c_2), (3, B p3), (4, O (U ⟨u, 0, N⟩)), (5, O (U ⟨x, 0, N⟩)), (9, S (U ⟨C, 0, N⟩) 0 0), (27, B ((!a9) || ((p1.d_.length : Int) == 0)))]) ?_ (sb z))
  ·refine nQ <| cI H z (fun H => ?_) (fun H => ?_)
   ·exact sR <| oPP z <| nT <| ap <| aY (rs := [.tmp 8]) (vs := [S (U ⟨C, 0, N⟩) 0 0]) z ⟨z, Y⟩ (fun w' hw' => by
     obtain rfl := ai H
     exact ⟨_, z, (U ⟨C, 0, N⟩), 0, 0, [C], z, hw'.sel [2] z z⟩)
   ·refine aw <| az <| ak <| sR <| oP z <| nQ <| aB <| CW.at (iz (fun (s : Int) (f : List bt) (o : Option Addr) (q : Nat) (A : List Nat) => St w Z [b u 27 [S a1 p0.b_.length a2, S a3 p0.k_.length a4], b x 69 [S a5 p1.e_.length a6, S a7 p1.d_.length a8], W (af (bO) 188) A f [S o f.length q]]) (fun s f o q A => [(2, S a_2 p2.length c_2), (3, B p3), (4, O (U ⟨u, 0, N⟩)), (5, O (U ⟨x, 0, N⟩)), (9, S o f.length q), (10, I J s)]) (fun kk => fun s f o q A => eb p2 p0 p1 p3 kk s f = U r) (fun _ _ _ _ _ H => ?_) (fun k1 c6 s f o q A H => ?_) bh (0) (([] : List bt)) ((U ⟨C, 0, N⟩)) (0) ([C]) (H)) (ss [0, 1, 2] z z) (sb z)
    ·unfold eb at H
     exact absurd H (by simp)
    ·unfold eb at H
     refine ak <| sR <| aa [.p, .p, .lenS 31 3 aO, .p] z <| nQ <| cI H z (fun H => ?_) (fun H => ?_)
     ·refine aw <| az <| ak <| aB <| wL (fun (L : Nat) (g : Int) (k : Int) (M : Nat) (l : Int) (m : Int) => St w Z [b L 66 [I J g, I J k], b M 186 [I J l, I J m], b u 27 [S a1 p0.b_.length a2, S a3 p0.k_.length a4], b x 69 [S a5 p1.e_.length a6, S a7 p1.d_.length a8], W (af (bO) 188) A f [S o f.length q]]) (fun L g k M l m => [(2, S a_2 p2.length c_2), (3, B p3), (4, O (U ⟨u, 0, N⟩)), (5, O (U ⟨x, 0, N⟩)), (9, S o f.length q), (10, I J s), (11, O (U ⟨L, 0, N⟩)), (12, O (U ⟨M, 0, N⟩))]) (fun L g k M l m => mw f (eb p2 p0 p1 p3 k1) s g k l m = U r) (fun L g k M l m H => ?_) (fun J1 => ?_)
      ·unfold mw at H
       refine sR <| o1 z (rx 0 0 _ z cH z) <| o1 z (rx 0 1 _ z cq z) <| o1 z (bI [(0, [I J g, I J k]), (2, [I J l, I J m])] [I J g, I J k, I J l, I J m] z z jc AS z ⟨z, z, nl z, z, z, nl z, Y⟩ z) <| aC z z z z jc (fun _ => kp) fun P => sC 0 [I J g, I J k, I J l, I J m] [_, _, _, _] 5 z jc z <| nR <| aa [.p, .lenS 203 188 ni, .p] z <| nQ <| ak <| aB <| CW.at (fL (fun (t : Int) => St w Z [b P 188 [I J g, I J k, I J l, I J m], b u 27 [S a1 p0.b_.length a2, S a3 p0.k_.length a4], b x 69 [S a5 p1.e_.length a6, S a7 p1.d_.length a8], W (af (bO) 188) A f [S o f.length q]]) (fun t => [(2, S a_2 p2.length c_2), (3, B p3), (4, O (U ⟨u, 0, N⟩)), (5, O (U ⟨x, 0, N⟩)), (9, S o f.length q), (10, I J s), (13, O (U ⟨P, 0, N⟩)), (14, I J t)]) (fun kk => fun t => ip f g k l m (eb p2 p0 p1 p3 k1) s kk t = U r) (fun _ H => ?_) (fun k2 c7 t H => ?_) bh ((f.length : Int)) (H)) (ss [5, 2, 3, 4] z z) (sb z)
       ·unfold ip at H
        exact absurd H (by simp)
       ·unfold ip at H
        refine ak <| ak <| dJ bT (by kernel_rfl) <| aa [.p, .p, .p] z <| bE H fun c8 b0 H => aQ [(66, B c8), (2, S a_2 p2.length c_2), (3, B p3), (4, O (U ⟨u, 0, N⟩)), (5, O (U ⟨x, 0, N⟩)), (9, S o f.length q), (10, I J s), (13, O (U ⟨P, 0, N⟩)), (14, I J t)] 8 ?_ (fun key => OW.sub (R := [(2, S a_2 p2.length c_2), (3, B p3), (4, O (U ⟨u, 0, N⟩)), (5, O (U ⟨x, 0, N⟩)), (9, S o f.length q), (10, I J s), (13, O (U ⟨P, 0, N⟩)), (14, I J t), (58, B (decide (t > 0)))]) ?_ (sb z))
        ·refine cx <| az <| cI H z (fun H => ?_) (fun H => ?_)
         ·exact aw <| az <| aB <| aT <| aa [.p, .p, .p] z <| ay <| ca <| cQ (RW.at (c7 (J.wrap (t - 1)) (H)) (ss [0, 1, 2, 3] z z) (sb z))
         ·refine bH <| aN <| aS <| aM <| az <| sR <| bM (e := bO) z z z z ni jc (fun _ => kp) fun g6 => oPP z <| bE H fun c9 b3 H => sn (e := bO) (xs := f) z z z z ni jc z z z b3 (fun d c => au (e := af (bO) 188) (r := 3) z d c) <| bE H fun b4 d0 H => pE (r := 4) (ys := c9) z z z z z z ni jc z z z z z (xV (fun d c => au (e := af (bO) 188) (r := 3) z d c) b3) d0 (fun _ _ _ => kp) fun d1 d2 d3 => oP z <| nR <| oP z <| o1 z (rx 0 0 _ z jc z) <| qF ([(bt.mk (ar.mk g k) (aZ.mk l m))] : List bt) [(0, [I J g, I J k, I J l, I J m])] z z z z z ni jc z z z z ⟨z, z, nl z, Y⟩ z (fun _ => kp) (fun b5 => (?_ : OW _ _ _ (St w Z [b P 188 [I J g, I J k, I J l, I J m], b u 27 [S a1 p0.b_.length a2, S a3 p0.k_.length a4], b x 69 [S a5 p1.e_.length a6, S a7 p1.d_.length a8], W (af (bO) 188) A f [S o f.length q], W (af (bO) 188) d3 b4 [S d1 b4.length d2], W (af (bO) 188) [b5] [(bt.mk (ar.mk g k) (aZ.mk l m))] [S (U ⟨b5, 0, N⟩) ([(bt.mk (ar.mk g k) (aZ.mk l m))] : List bt).length 1]]) _ _ _))
          exact bE H fun g7 b6 H => pE (r := 4) (ys := ([(bt.mk (ar.mk g k) (aZ.mk l m))] : List bt)) z z z z z z ni jc z z z z z (fun d c => au (e := af (bO) 188) (r := 5) z d c) b6 (fun _ _ _ => kp) fun g8 g9 h0 => cg z (fun d c => eD (i := 4) c z (eG b6)) fun f9 => oP z <| nQ <| aT <| aa [.p, .p, .p] z <| bE H fun d4 b7 H => sn (e := bO) (xs := f) z z z z ni jc z z z b7 (fun d c => au (e := af (bO) 188) (r := 3) z d c) <| bE H fun d5 d6 H => pE (r := 4) (ys := d4) z z z z z z ni jc z z z z z (xV (fun d c => au (e := af (bO) 188) (r := 3) z d c) b7) d6 (fun _ _ _ => kp) fun d7 d8 d9 => oP z <| ay <| ca <| az <| aT <| aa [.p, .p, .p] z <| ay <| cQ (RW.at (c6 (J.wrap (s + 1)) (d5) (d7) (d8) (d9) (H)) (ss [1, 2, 4] z z) (sb z))
        ·clear H
         have H := b0
         clear b0
         generalize (decide (t > 0)) = e0 at H key ⊢
         cases e0
         ·have H := ba z H
          refine aa [.p, .p, .p, .p, .p, .p, .p, .p] z ?_
          obtain rfl := ai H
          exact OW.sub key (sb z)
         ·have H := bb z H
          refine o1 z (rx 0 0 _ z jc z) <| aa [.p, .p, .p] z <| bE H fun Q b8 H => bq (e := bO) (xs := f) (j := J.wrap (t - 1)) z z z z z ni jc z (fun d c => au (e := af (bO) 188) (r := 3) z d c) b8 z <| o1 z (cV (cs := [I J Q.l_.g_, I J Q.l_.c_, I J Q.A_.C_, I J Q.A_.B_]) z z jc (mH (nh (fun d c => au (e := af (bO) 188) (r := 3) z d c) b8 (fun _ _ h => h)) z) z) <| bE H fun h1 e1 H => oq z (qc z CG (fun d c => tA d (p0 := (bt.mk (ar.mk g k) (aZ.mk l m))) (p1 := Q) e1)) tt2 <| oP z <| ?_
          obtain rfl := ai H
          exact OW.sub key (sb z)
      ·refine bE H fun h2 b9 H => bE H fun a X H => om 14 [(0, y), (1, y), (2, y), (3, y), (4, y), (5, y), (6, y)] (Br.alt 7 (Br.pre [(8, y), (9, y), (10, y)] (Br.alt 11 (Br.pre [(12, n), (13, n)] Br.done) (Br.pre [(12, n), (11, n), (13, n)] Br.done))) (Br.alt 11 (Br.pre [] (Br.alt 7 (Br.pre [(8, y), (9, y), (10, y), (12, n), (13, n)] Br.done) (Br.pre [(12, n), (7, n), (8, y), (9, y), (10, y), (13, n)] Br.done))) (Br.pre [(12, n)] (Br.alt 7 (Br.pre [(8, y), (9, y), (10, y), (11, n), (13, n)] Br.done) (Br.pre [(11, n), (7, n), (8, y), (9, y), (10, y), (13, n)] Br.done))))) (St w Z [b u 27 [S a1 p0.b_.length a2, S a3 p0.k_.length a4], b x 69 [S a5 p1.e_.length a6, S a7 p1.d_.length a8], W (af (bO) 188) A f [S o f.length q]]) bT (by kernel_rfl) (aV (bF (aV (fe (bF (aV be)))))) (tk 3 z) <| br z (ax z) (rx 0 0 _ z bU z) <| br z (ax z) (rx 0 1 _ z cP z) <| oPP z <| bq (e := eI) (xs := p2) (j := s) z z z z z aO ty3 z (ab g2) b9 (by rw [Nat.mul_one]) <| br z (ax z) (aF z z ty3 (bC (ab g2) b9)) <| oP z <| aJ <| ei (tk 3 z) z ?_ ?_
       ·refine oq z (qc z vi (fun d c => jH d X (ah (ab D d c) (ab E d c)) (aE (ab F d c) (ab G d c)))) (tk 3 z) <| aa [.p, .p, .p] z <| aJ <| ei (tk 3 z) z ?_ ?_
        ·exact aC z z z z cH (fun _ => (tk 3 z)) fun e2 => aC z z z z cq (fun _ => (tk 3 z)) fun e3 => bo (off := 0) [I J a.1.g_, I J a.1.c_] [_, _] (i := 3) z z z z z z cH z z (al z) z z z (tk 3 z) <| aJ <| cK <| sC 0 [I J a.2.C_, I J a.2.B_] [_, _] 4 z cq z <| ay <| XW.at (J1 (e2) (a.1.g_) (a.1.c_) (e3) (a.2.C_) (a.2.B_) (H)) (ss [3, 4, 0, 1, 2] z z) (sb z)
        exact dB (tk 3 z) z <| aC z z z z cq (fun _ => (tk 3 z)) fun e4 => aC z z z z cH (fun _ => (tk 3 z)) fun e5 => bo (off := 0) [I J a.1.g_, I J a.1.c_] [_, _] (i := 4) z z z z z z cH z z (al z) z z z (tk 3 z) <| aJ <| cK <| sC 0 [I J a.2.C_, I J a.2.B_] [_, _] 3 z cq z <| ay <| XW.at (J1 (e5) (a.1.g_) (a.1.c_) (e4) (a.2.C_) (a.2.B_) (H)) (ss [4, 3, 0, 1, 2] z z) (sb z)
       refine ei (tk 3 z) z ?_ ?_
       ·refine aC z z z z cH (fun _ => (tk 3 z)) fun c1 => aJ <| ei (tk 3 z) z ?_ ?_
        ·exact oq z (qc z vi (fun d c => jH d X (ah (ab D d c) (ab E d c)) (aE (ab F d c) (ab G d c)))) (tk 3 z) <| aa [.p, .p, .p] z <| aC z z z z cq (fun _ => (tk 3 z)) fun e6 => bo (off := 0) [I J a.1.g_, I J a.1.c_] [_, _] (i := 3) z z z z z z cH z z (al z) z z z (tk 3 z) <| aJ <| cK <| sC 0 [I J a.2.C_, I J a.2.B_] [_, _] 4 z cq z <| ay <| XW.at (J1 (c1) (a.1.g_) (a.1.c_) (e6) (a.2.C_) (a.2.B_) (H)) (ss [3, 4, 0, 1, 2] z z) (sb z)
        exact dB (tk 3 z) z <| aC z z z z cq (fun _ => (tk 3 z)) fun e7 => oq z (qc z vi (fun d c => jH d X (ah (ab D d c) (ab E d c)) (aE (ab F d c) (ab G d c)))) (tk 3 z) <| aa [.p, .p, .p] z <| bo (off := 0) [I J a.1.g_, I J a.1.c_] [_, _] (i := 3) z z z z z z cH z z (al z) z z z (tk 3 z) <| aJ <| cK <| sC 0 [I J a.2.C_, I J a.2.B_] [_, _] 4 z cq z <| ay <| XW.at (J1 (c1) (a.1.g_) (a.1.c_) (e7) (a.2.C_) (a.2.B_) (H)) (ss [3, 4, 0, 1, 2] z z) (sb z)
       refine dB (tk 3 z) z <| aC z z z z cq (fun _ => (tk 3 z)) fun c2 => aJ <| ei (tk 3 z) z ?_ ?_
       ·exact oq z (qc z vi (fun d c => jH d X (ah (ab D d c) (ab E d c)) (aE (ab F d c) (ab G d c)))) (tk 3 z) <| aa [.p, .p, .p] z <| aC z z z z cH (fun _ => (tk 3 z)) fun e9 => bo (off := 0) [I J a.1.g_, I J a.1.c_] [_, _] (i := 4) z z z z z z cH z z (al z) z z z (tk 3 z) <| aJ <| cK <| sC 0 [I J a.2.C_, I J a.2.B_] [_, _] 3 z cq z <| ay <| XW.at (J1 (e9) (a.1.g_) (a.1.c_) (c2) (a.2.C_) (a.2.B_) (H)) (ss [4, 3, 0, 1, 2] z z) (sb z)
       exact dB (tk 3 z) z <| aC z z z z cH (fun _ => (tk 3 z)) fun f0 => oq z (qc z vi (fun d c => jH d X (ah (ab D d c) (ab E d c)) (aE (ab F d c) (ab G d c)))) (tk 3 z) <| aa [.p, .p, .p] z <| bo (off := 0) [I J a.1.g_, I J a.1.c_] [_, _] (i := 4) z z z z z z cH z z (al z) z z z (tk 3 z) <| aJ <| cK <| sC 0 [I J a.2.C_, I J a.2.B_] [_, _] 3 z cq z <| ay <| XW.at (J1 (f0) (a.1.g_) (a.1.c_) (c2) (a.2.C_) (a.2.B_) (H)) (ss [4, 3, 0, 1, 2] z z) (sb z)
     ·exact bH <| aN <| aS <| aM <| az <| sR <| oPP z <| nT <| aY (rs := [.tmp 8]) (vs := [S o f.length q]) z ⟨z, Y⟩ (fun w' hw' => by
       obtain rfl := ai H
       exact ⟨_, z, o, f.length, q, A, z, hw'.sel [2] z z⟩)
  ·clear H
   have H := b2
   clear b2
   generalize ((!a9) || ((p1.d_.length : Int) == 0)) = f6 at H key ⊢
   cases f6
   ·have H := ba z H
    refine o1 z (rx 0 0 _ z bU z) <| oP z <| bE H fun h7 f7 H => oq z (qc z xE (fun d c => im d f7 (ah (ab D d c) (ab E d c)) (ab g2 d c))) tt2 <| oP z <| oP z <| ?_
    obtain rfl := ai H
    exact OW.sub key (sb z)
   ·have H := bb z H
    refine aa [.p, .p, .p, .p, .p] z ?_
    obtain rfl := ai H
    exact OW.sub key (sb z)
 ·generalize (!a9) = f8 at key ⊢
  cases f8
  ·exact aa [.fa 69 1 1 dL] z <| o1 z (r1 1 1 z jm z) <| aa [.lenS 67 31 gL, .p] z <| oP z <| OW.sub key (sb z)
  ·exact aa [.p, .p, .p, .p, .p] z <| OW.sub key (sb z)
theorem rf (w : World) {p0 : ae} {p1 : av} {p2 : List Int} {p3 : Bool} {u : List Value} {v : List Value} {a_2 : Option Addr} {n_2 c_2 : Nat} {r : bt × aZ × Bool} (H : km p0 p1 p2 p3 = U r) (X : (aX).rd w [] p0 u) (Z : (cn).rd w [] p1 v) (P : (af eI 3).rd w [] p2 [S a_2 n_2 c_2]) :
    Calls Tryz.prog 156 #[.agg u.toArray, .agg v.toArray, S a_2 n_2 c_2, B p3] w (fun en w' => en = .returned (.tuple #[.agg #[I J r.1.l_.g_, I J r.1.l_.c_, I J r.1.A_.C_, I J r.1.A_.B_], .agg #[I J r.2.1.C_, I J r.2.1.B_], B r.2.2]) ∧ Ext [] w w') := by
 obtain ⟨a0, a1, rfl, x, A⟩ := aI X
 obtain ⟨a2, a3, rfl⟩ := am x
 obtain ⟨a4, a5, rfl⟩ := am A
 obtain ⟨a6, a7, rfl, C, D⟩ := aL Z
 obtain ⟨a8, a9, rfl⟩ := am C
 obtain ⟨b0, b1, rfl⟩ := am D
 obtain rfl := ee P
 unfold km at H
 refine aG Tryz.func156 z Tryz.ntmps156 z (St.init w []) <| sR <| ob _ z fun b2 => ob _ z fun b3 => aC z z z z jc (fun _ => kp) fun E => aC z z z z cq (fun _ => kp) fun m => oP z <| nR <| o1 z (rx 0 0 _ z bU z) <| o1 z (rx 0 1 _ z cP z) <| oPP z <| bE H fun k Q H => aq z Db z z z z (fun d a => uh d Q (a.carve [] z z) (ah (ab x d a) (ab A d a)) (aE (ab C d a) (ab D d a)) (ab P d a)) fun b4 d w2 a M => ?_
 obtain ⟨o, b5, q, F, rfl, s⟩ := M
 obtain rfl := aH (i := 0) s z
 refine ⟨St w [] [_, _, _, _, _], a.comp [] z z s, fun _ _ => Y, ?_⟩
 refine oP z <| nQ <| ak <| sR <| aa [.p, .lenS 203 188 ni, .p] z <| nQ <| cI H z (fun H => ?_) (fun H => ?_)
 ·exact sR <| o1 z (bI [] [I J 0, I J 0, I J 0, I J 0] z z jc AS z Y z) <| o1 z (bI [] [I J 0, I J 0] z z cq rC z Y z) <| sC 0 [I J 0, I J 0, I J 0, I J 0] [_, _, _, _] 2 z jc z <| sC 0 [I J 0, I J 0] [_, _] 3 z cq z <| oP z <| nT <| ap <| aY (rs := [.cell 8 188, .cell 9 186, .tmp 10]) (vs := [.agg #[I J 0, I J 0, I J 0, I J 0], .agg #[I J 0, I J 0], B n]) z ⟨⟨_, [I J 0, I J 0, I J 0, I J 0], _, _, _, z, jc, (bl (T := 188) 0 (bK (i := 2) z) z), z, z⟩, ⟨_, [I J 0, I J 0], _, _, _, z, cq, (bl (T := 186) 0 (bK (i := 3) z) z), z, z⟩, z, Y⟩ (fun w' hw' => by
   obtain rfl := ai H
   exact ⟨z, hw'.ext⟩)
 ·refine aw <| az <| sR <| o1 z (bI [(0, [I J 0]), (1, [I J 1])] [I J 0, I J 1] z z cq rC z ⟨z, z, nl z, z, z, nl z, Y⟩ z) <| aC z z z z cq (fun _ => kp) fun t => sC 0 [I J 0, I J 1] [_, _] 5 z cq z <| nQ <| uz (fun (f : Int) (g : Int) => St w [] [W (af (bO) 188) F k [S o k.length q], b t 186 [I J f, I J g], b E 188 [I J 0, I J 0, I J 0, I J 0], b m 186 [I J 0, I J 0]]) (fun f g => [(8, O (U ⟨E, 0, N⟩)), (9, O (U ⟨m, 0, N⟩)), (11, S o k.length q), (12, O (U ⟨t, 0, N⟩))]) (fun f g => iX k f g = U r) (fun f g H => ?_) (fun R => ?_)
  ·unfold iX at H
   exact ak <| cW 5 [(0, y), (1, y), (2, y), (3, y), (4, n)] (St w [] [W (af (bO) 188) F k [S o k.length q], b t 186 [I J f, I J g], Res.nil, b m 186 [I J 0, I J 0]]) bT (by kernel_rfl) (aV be) (sm [y, y, n, y] z) <| oP z <| bE H fun c G H => bq (e := bO) (xs := k) (j := 0) z z z z z ni jc z (fun d a => au (e := af (bO) 188) (r := 0) z d a) G z <| br z (ax z) (cV (cs := [I J c.l_.g_, I J c.l_.c_, I J c.A_.C_, I J c.A_.B_]) z z jc (mH (nh (fun d a => au (e := af (bO) 188) (r := 0) z d a) G (fun _ _ h => h)) z) z) <| br z (ax z) (rx 0 1 _ z cq z) <| bo (off := 0) [I J c.l_.g_, I J c.l_.c_, I J c.A_.C_, I J c.A_.B_] [_, _, _, _] (i := 2) z z z z z z jc z z (al z) z z z (sm [y, y, n, y] z) <| aJ <| iY <| sC 0 [I J f, I J g] [_, _] 3 z cq z <| oP z <| nT <| aY (rs := [.cell 8 188, .cell 9 186, .tmp 10]) (vs := [.agg #[I J c.l_.g_, I J c.l_.c_, I J c.A_.C_, I J c.A_.B_], .agg #[I J f, I J g], B y]) z ⟨⟨_, [I J c.l_.g_, I J c.l_.c_, I J c.A_.C_, I J c.A_.B_], _, _, _, z, jc, (bl (T := 188) 0 (bK (i := 2) z) z), z, z⟩, ⟨_, [I J f, I J g], _, _, _, z, cq, (bl (T := 186) 0 (bK (i := 3) z) z), z, z⟩, z, Y⟩ (fun w' hw' => by
    obtain rfl := ai H
    exact ⟨z, hw'.ext⟩)
  ·refine sR <| aa [.p, .lenS 203 188 ni, .p] z <| nQ <| cI H z (fun H => ?_) (fun H => ?_)
   ·exact aT <| oP z <| bE H fun l L H => bq (e := bO) (xs := k) (j := 1) z z z z z ni jc z (fun d a => au (e := af (bO) 188) (r := 4) z d a) L z <| aa [.fa 188 1 2 si] z <| o1 z (cV (cs := [I J l.A_.C_, I J l.A_.B_]) z z cq (CX (mH (nh (fun d a => au (e := af (bO) 188) (r := 4) z d a) L (fun _ _ h => h)) z) 2 2) z) <| sC 0 [I J l.A_.C_, I J l.A_.B_] [_, _] 5 z cq z <| ay <| XW.at (R (l.A_.C_) (l.A_.B_) (H)) (ss [4, 5, 2, 3] z z) (sb z)
   ·exact aw <| XW.at (R (0) (1) (H)) (ss [4, 5, 2, 3] z z) (sb z)
theorem jL (w : World) {p0 : aZ} {r : Bool} (H : gG p0 = U r)   :
    Calls Tryz.prog 171 #[.agg #[I J p0.C_, I J p0.B_]] w (fun en w' => en = .returned (B r) ∧ Ext [] w w') := by
 unfold gG at H
 refine aG Tryz.func171 z Tryz.ntmps171 z (St.init w []) <| sR <| ob _ z fun c => oP z <| nR <| o1 z (rx 0 0 _ z cq z) <| bE H fun a d H => oq z (qc z tW (fun f g => iT f (p0 := p0) d)) tt2 <| oP z <| aQ [(11, B (a && (decide (p0.C_ ≤ p0.B_)))), (2, B n)] 6 ?_ (fun key => OW.sub (R := [(1, O (U ⟨c, 0, N⟩)), (2, B n), (5, B a)]) ?_ (sb z))
 ·exact oP z <| nT <| xr 2 z (by cases H; exact q1)
 ·generalize a = e at key ⊢
  cases e
  ·exact aa [.p, .p, .p, .p, .p, .p] z <| OW.sub key (sb z)
  ·exact aa [.fa 186 0 0 mu] z <| o1 z (r1 0 0 z ty3 z) <| aa [.fa 186 1 1 lJ] z <| o1 z (r1 1 0 z ty3 z) <| oP z <| oP z <| OW.sub key (sb z)
theorem tg (w : World) {s : List Nat} {p0 : List Int} {p1 : List Int} {a_0 : Option Addr} {n_0 c_0 : Nat} {a_1 : Option Addr} {n_1 c_1 : Nat} {r : (List Int) × Bool} (H : mg p0 p1 = U r) (HS : St w s [] w) (t : (af eI 3).rd w s p0 [S a_0 n_0 c_0]) (D : (af eI 3).rd w s p1 [S a_1 n_1 c_1]) :
    Calls Tryz.prog 200 #[S a_0 n_0 c_0, S a_1 n_1 c_1] w (fun en w' => ∃ v, en = .returned v ∧ ∃ (a0 : Option Addr), ∃ (n0 : Nat), ∃ (c0 : Nat), ∃ (F0 : List Nat), v = .tuple #[S a0 n0 c0, B r.2] ∧ St w s [W (af eI 3) F0 r.1 [S a0 n0 c0]] w') := by
 obtain rfl := ee t
 obtain rfl := ee D
 unfold mg at H
 refine aG Tryz.func200 z Tryz.ntmps200 z (HS) <| sR <| oPP z <| nR <| bM (e := eI) z z z z aO ty3 (fun _ => kp) fun f => oP z <| nQ <| ak <| sR <| oP z <| bE H fun E a5 H => oq z (qc z tT (fun c a => jt c a5 (ab t c a))) tt2 <| oPP z <| bE H fun u x H => aQ [(18, B u), (0, S a_0 p0.length c_0), (1, S a_1 p1.length c_1), (6, S (U ⟨f, 0, N⟩) 0 0)] 4 ?_ (fun key => OW.sub (R := [(0, S a_0 p0.length c_0), (1, S a_1 p1.length c_1), (6, S (U ⟨f, 0, N⟩) 0 0), (14, B (!E))]) ?_ (sb z))
 ·refine oP z <| bE H fun a6 A H => aQ [(24, B a6), (0, S a_0 p0.length c_0), (1, S a_1 p1.length c_1), (6, S (U ⟨f, 0, N⟩) 0 0)] 5 ?_ (fun key => OW.sub (R := [(0, S a_0 p0.length c_0), (1, S a_1 p1.length c_1), (6, S (U ⟨f, 0, N⟩) 0 0), (19, B u)]) ?_ (sb z))
  ·refine nQ <| cI H z (fun H => ?_) (fun H => ?_)
   ·exact sR <| aa [.p, .p, .p] z <| nT <| ap <| aY (rs := [.tmp 4, .tmp 5]) (vs := [S (U ⟨f, 0, N⟩) 0 0, B n]) z ⟨z, z, Y⟩ (fun w' hw' => by
     obtain rfl := ai H
     exact ⟨_, z, (U ⟨f, 0, N⟩), 0, 0, [f], z, hw'.sel [0] z z⟩)
   ·refine aw <| az <| sR <| oP z <| nQ <| ak <| sR <| oP z <| nQ <| aB <| CW.at (uN (fun (d : List Int) (h : Option Addr) (l : Nat) (q : List Nat) (m : Int) (g : Int) => St w s [W (af eI 3) q d [S h d.length l]]) (fun d h l q m g => [(0, S a_0 p0.length c_0), (1, S a_1 p1.length c_1), (6, S h d.length l), (7, I J m), (8, I J g)]) (fun kk => fun d h l q m g => h.isNone = n ∧ dM p0 p1 kk d m g = U r) (fun _ _ _ _ _ _ H => ?_) (fun k1 Z d h l q m g ⟨c2, H⟩ => ?_) bh (([] : List Int)) ((U ⟨f, 0, N⟩)) (0) ([f]) (0) (0) (⟨z, H⟩)) (ss [0] z z) (sb z)
    ·unfold dM at H
     exact absurd H (by simp)
    ·unfold dM at H
     refine ak <| sR <| aa [.p, .p, .lenS 31 3 aO, .p] z <| nQ <| cI H z (fun H => ?_) (fun H => ?_)
     ·refine aw <| az <| ak <| aB <| ak <| dJ bT (by kernel_rfl) <| oPP z <| bE H fun F G H => bq (e := eI) (xs := p0) (j := g) z z z z z aO ty3 z (ab t) G (by rw [Nat.mul_one]) <| o1 z (aF z z ty3 (bC (ab t) G)) <| oPP z <| bE H fun L a7 H => oq z (qc z yS (fun c a => mT c a7 (ab D c a))) tt2 <| aa [.p, .p, .p, .p] z <| cx <| az <| sR <| oP z <| nQ <| uz (fun (o : Int) (k : Int) => St w s [W (af eI 3) q d [S h d.length l]]) (fun o k => [(0, S a_0 p0.length c_0), (1, S a_1 p1.length c_1), (6, S h d.length l), (7, I J o), (8, I J g), (9, I J k)]) (fun o k => jD d (dM p0 p1 k1) g o k = U r) (fun o k H => ?_) (fun J1 => ?_)
      ·unfold jD at H
       exact aT <| oPP z <| bA (val := I J) (h1 := fun _ => z) [k] [(0, [I J k])] z z z z z aO ty3 z z z ⟨z, z, nl z, Y⟩ z z (fun _ => kp) fun c3 => bE H fun a9 M H => bY (r := 0) (ys := ([k] : List Int)) z z z z z z aO ty3 z z z (au (e := af eI 3) (r := 1) z) M (fun _ _ _ => kp) fun b0 b1 b2 => cg z (fun c a => eD (i := 0) a z (eG M)) fun a1 => oP z <| ay <| ca <| az <| aT <| aa [.p, .p, .p] z <| ay <| cQ (RW.at (Z (a9) (b0) (b1) (b2) (o) (J.wrap (g + 1)) (⟨a1, H⟩)) (ss [0] z z) (sb z))
      ·refine sR <| oPP z <| nQ <| cI H z (fun H => ?_) (fun H => ?_)
       ·exact sR <| aa [.p, .p, .p] z <| nQ <| aT <| oP z <| ay <| XW.at (J1 (1) (J.wrap ((J.wrap ((J.wrap (F - L)) - m)) + 16777216)) (H)) (ss [0] z z) (sb z)
       ·exact aw <| XW.at (J1 (0) (J.wrap ((J.wrap (F - L)) - m)) (H)) (ss [0] z z) (sb z)
     ·refine bH <| aN <| aS <| aM <| az <| sR <| oP z <| bE H fun P b3 H => aq z AO z z z z (fun c a => pr c b3 (a.carve [] z z) (au (e := af eI 3) (r := 0) z c a)) fun c4 c w2 a a2 => ?_
      obtain ⟨Q, c5, X, b4, rfl, C⟩ := a2
      obtain rfl := aH (i := 0) C z
      refine ⟨St w s [_, _], a.comp [] z z C, fun _ _ => Y, ?_⟩
      exact oPP z <| nT <| aY (rs := [.tmp 4, .tmp 5]) (vs := [S Q P.length X, B y]) z ⟨z, z, Y⟩ (fun w' hw' => by
       obtain rfl := ai H
       exact ⟨_, z, Q, P.length, X, b4, z, hw'.sel [1] z z⟩)
  ·clear H
   have H := A
   clear A
   generalize u = b5 at H key ⊢
   cases b5
   ·have H := ba z H
    refine oPP z <| bE H fun c6 b6 H => oq z (qc z yc (fun c a => na c b6 (ab t c a) (ab D c a))) tt2 <| oP z <| oP z <| ?_
    obtain rfl := ai H
    exact OW.sub key (sb z)
   ·have H := bb z H
    refine aa [.p, .p, .p, .p, .p] z ?_
    obtain rfl := ai H
    exact OW.sub key (sb z)
 ·clear H
  have H := x
  clear x
  generalize (!E) = b7 at H key ⊢
  cases b7
  ·have H := ba z H
   refine oP z <| bE H fun c7 b8 H => oq z (qc z tT (fun c a => jt c b8 (ab D c a))) tt2 <| oP z <| oP z <| ?_
   obtain rfl := ai H
   exact OW.sub key (sb z)
  ·have H := bb z H
   refine aa [.p, .p, .p, .p] z ?_
   obtain rfl := ai H
   exact OW.sub key (sb z)
theorem rS (w : World) {g : List Nat} {p0 : aZ} {p1 : aZ} {r : (List Int) × (List Int) × Bool} (H : kV p0 p1 = U r) (HS : St w g [] w) :
    Calls Tryz.prog 189 #[.agg #[I J p0.C_, I J p0.B_], .agg #[I J p1.C_, I J p1.B_]] w (fun en w' => ∃ v, en = .returned v ∧ ∃ (X : Option Addr), ∃ (Z : Nat), ∃ (c0 : Nat), ∃ (F0 : List Nat), ∃ (a1 : Option Addr), ∃ (n1 : Nat), ∃ (c1 : Nat), ∃ (F1 : List Nat), v = .tuple #[S X Z c0, S a1 n1 c1, B r.2.2] ∧ St w g [W (af eI 3) F0 r.1 [S X Z c0], W (af eI 3) F1 r.2.1 [S a1 n1 c1]] w') := by
 unfold kV at H
 refine aG Tryz.func189 z Tryz.ntmps189 z (HS) <| sR <| ob _ z fun d => ob _ z fun f => aa [.p, .p, .p] z <| nQ <| ak <| sR <| o1 z (rx 0 0 _ z cq z) <| bE H fun u a4 H => oq z (qc z tW (fun c a => iT c (p0 := p0) a4)) tt2 <| oPP z <| bE H fun h j H => aQ [(16, B h), (2, O (U ⟨d, 0, N⟩)), (3, O (U ⟨f, 0, N⟩))] 4 ?_ (fun key => OW.sub (R := [(2, O (U ⟨d, 0, N⟩)), (3, O (U ⟨f, 0, N⟩)), (12, B (!u))]) ?_ (sb z))
 ·refine oP z <| bE H fun a5 k H => aQ [(22, B a5), (2, O (U ⟨d, 0, N⟩)), (3, O (U ⟨f, 0, N⟩))] 5 ?_ (fun key => OW.sub (R := [(2, O (U ⟨d, 0, N⟩)), (3, O (U ⟨f, 0, N⟩)), (17, B h)]) ?_ (sb z))
  ·refine nQ <| cI H z (fun H => ?_) (fun H => ?_)
   ·exact sR <| bM (e := eI) z z z z aO ty3 (fun _ => kp) fun l => bM (e := eI) z z z z aO ty3 (fun _ => kp) fun m => aa [.p, .p, .p] z <| nT <| ap <| aY (rs := [.tmp 4, .tmp 5, .tmp 6]) (vs := [S (U ⟨l, 0, N⟩) 0 0, S (U ⟨m, 0, N⟩) 0 0, B n]) z ⟨z, z, z, Y⟩ (fun w' hw' => by
     obtain rfl := ai H
     exact ⟨_, z, (U ⟨l, 0, N⟩), 0, 0, [l], (U ⟨m, 0, N⟩), 0, 0, [m], z, hw'.sel [2, 3] z z⟩)
   ·refine aw <| az <| ak <| cW 15 [(0, y), (1, y), (2, y), (3, y), (5, y), (6, y), (7, y), (8, y), (4, n), (9, n), (10, n), (11, y), (12, y), (13, y), (14, y)] (St w g [b d 186 [I J p0.C_, I J p0.B_], b f 186 [I J p1.C_, I J p1.B_]]) bT (by kernel_rfl) (aV be) (tk 2 z) <| aa [.fa 186 0 0 mu] z <| br z (ax z) (r1 0 0 z ty3 z) <| aa [.fa 186 1 1 lJ] z <| br z (ax z) (r1 1 1 z ty3 z) <| aa [.fa 186 0 0 mu] z <| br z (ax z) (r1 0 1 z ty3 z) <| aa [.fa 186 1 1 lJ] z <| br z (ax z) (r1 1 0 z ty3 z) <| bE H fun b8 a6 H => aq z sZ z z z z (fun c a => gk c a6 (a.carve [] z z)) fun b9 c G a L => ?_
    obtain ⟨c2, c3, c4, c5, rfl, o⟩ := L
    obtain rfl := aH (i := 0) o z
    refine ⟨St w g [_, _, _], a.comp [] z z o, (tk 2 z), ?_⟩
    refine bE H fun c6 a7 H => aq z sZ z z z z (fun c a => gk c a7 (a.carve [] z z)) fun c7 c G a M => ?_
    obtain ⟨c8, c9, d0, d1, rfl, q⟩ := M
    obtain rfl := aH (i := 0) q z
    refine ⟨St w g [_, _, _, _], a.comp [] z z q, (tk 2 z), ?_⟩
    refine bE H fun x a8 H => aq z CD z z z z (fun c a => tg c a8 (a.carve [] z z) (au (e := af eI 3) (r := 2) z c a) (au (e := af eI 3) (r := 3) z c a)) fun d2 c G a P => ?_
    obtain ⟨A, d3, C, a9, rfl, s⟩ := P
    obtain rfl := aH (i := 0) s z
    refine ⟨St w g [_, _, _, _, _], a.comp [] z z s, (tk 2 z), ?_⟩
    refine aa [.p, .p, .p, .p] z <| aJ <| iY <| oP z <| nR <| aa [.p, .fa 186 1 1 lJ] z <| o1 z (r1 1 0 z ty3 z) <| aa [.fa 186 1 1 lJ] z <| o1 z (r1 1 1 z ty3 z) <| bE H fun D b0 H => aq z sZ z z z z (fun c a => gk c b0 (a.carve [] z z)) fun d4 c G a Q => ?_
    obtain ⟨E, d5, F, b1, rfl, t⟩ := Q
    obtain rfl := aH (i := 0) t z
    refine ⟨St w g [_, _, _, _, _, _], a.comp [] z z t, fun _ _ => Y, ?_⟩
    exact aa [.p, .p, .p] z <| nT <| aY (rs := [.tmp 4, .tmp 5, .tmp 6]) (vs := [S A x.1.length C, S E D.length F, B y]) z ⟨z, z, z, Y⟩ (fun w' hw' => by
     obtain rfl := ai H
     exact ⟨_, z, A, x.1.length, C, a9, E, D.length, F, b1, z, hw'.sel [4, 5] z z⟩)
  ·clear H
   have H := k
   clear k
   generalize h = b2 at H key ⊢
   cases b2
   ·have H := ba z H
    refine o1 z (rx 0 0 _ z cq z) <| o1 z (rx 0 1 _ z cq z) <| bE H fun d6 b3 H => oq z (qc z vJ (fun c a => jo c (p0 := p0) (p1 := p1) b3)) tt2 <| oP z <| oP z <| ?_
    obtain rfl := ai H
    exact OW.sub key (sb z)
   ·have H := bb z H
    refine aa [.p, .p, .p, .p, .p] z ?_
    obtain rfl := ai H
    exact OW.sub key (sb z)
 ·clear H
  have H := j
  clear j
  generalize (!u) = b4 at H key ⊢
  cases b4
  ·have H := ba z H
   refine o1 z (rx 0 1 _ z cq z) <| bE H fun d7 b5 H => oq z (qc z tW (fun c a => iT c (p0 := p1) b5)) tt2 <| oP z <| oP z <| ?_
   obtain rfl := ai H
   exact OW.sub key (sb z)
  ·have H := bb z H
   refine aa [.p, .p, .p, .p] z ?_
   obtain rfl := ai H
   exact OW.sub key (sb z)
theorem qL (w : World) {p0 : Int} {r : Int} (H : mD p0 = U r)   :
    Calls Tryz.prog 191 #[I J p0] w (fun en w' => en = .returned (I J r) ∧ Ext [] w w') := by
 unfold mD at H
 refine aG Tryz.func191 z Tryz.ntmps191 z (St.init w []) <| sR <| oP z <| nQ <| ak <| sR <| oP z <| bE H fun d a H => oq z (qc z gK (fun c e => bf c a)) tt2 <| oP z <| nQ <| cI H z (fun H => ?_) (fun H => ?_)
 ·exact sR <| oP z <| nT <| ap <| xr 2 z (by cases H; exact q1)
 ·exact aw <| az <| sR <| aa [.p, .p, .p, .p, .p] z <| nT <| xr 2 z (by cases H; exact q1)
theorem sq (w : World) {p0 : aZ} {p1 : aZ} {p2 : Int} {p3 : Int} {r : Bool} (H : lW p0 p1 p2 p3 = U r)   :
    Calls Tryz.prog 173 #[.agg #[I J p0.C_, I J p0.B_], .agg #[I J p1.C_, I J p1.B_], I J p2, I J p3] w (fun en w' => en = .returned (B r) ∧ Ext [] w w') := by
 unfold lW at H
 refine aG Tryz.func173 z Tryz.ntmps173 z (St.init w []) <| sR <| ob _ z fun d => ob _ z fun f => oP z <| nQ <| ak <| sR <| o1 z (rx 0 0 _ z cq z) <| bE H fun D Z H => oq z (qc z wN (fun c a => jL c (p0 := p0) Z)) tt2 <| oPP z <| bE H fun j k H => aQ [(23, B j), (2, I J p2), (3, I J p3), (4, O (U ⟨d, 0, N⟩)), (5, O (U ⟨f, 0, N⟩))] 4 ?_ (fun key => OW.sub (R := [(2, I J p2), (3, I J p3), (4, O (U ⟨d, 0, N⟩)), (5, O (U ⟨f, 0, N⟩)), (19, B (!D))]) ?_ (sb z))
 ·refine oP z <| bE H fun l m H => aQ [(29, B l), (2, I J p2), (3, I J p3), (4, O (U ⟨d, 0, N⟩)), (5, O (U ⟨f, 0, N⟩))] 5 ?_ (fun key => OW.sub (R := [(2, I J p2), (3, I J p3), (4, O (U ⟨d, 0, N⟩)), (5, O (U ⟨f, 0, N⟩)), (24, B j)]) ?_ (sb z))
  ·refine oP z <| bE H fun o q H => aQ [(34, B o), (2, I J p2), (3, I J p3), (4, O (U ⟨d, 0, N⟩)), (5, O (U ⟨f, 0, N⟩))] 4 ?_ (fun key => OW.sub (R := [(2, I J p2), (3, I J p3), (4, O (U ⟨d, 0, N⟩)), (5, O (U ⟨f, 0, N⟩)), (30, B l)]) ?_ (sb z))
   ·refine oP z <| bE H fun a0 s H => aQ [(39, B a0), (2, I J p2), (3, I J p3), (4, O (U ⟨d, 0, N⟩)), (5, O (U ⟨f, 0, N⟩))] 4 ?_ (fun key => OW.sub (R := [(2, I J p2), (3, I J p3), (4, O (U ⟨d, 0, N⟩)), (5, O (U ⟨f, 0, N⟩)), (35, B o)]) ?_ (sb z))
    ·refine nQ <| cI H z (fun H => ?_) (fun H => ?_)
     ·exact sR <| oP z <| nT <| ap <| xr 8 z (by cases H; exact q1)
     ·refine aw <| az <| sR <| o1 z (rx 0 0 _ z cq z) <| o1 z (rx 0 1 _ z cq z) <| bE H fun c1 a1 H => aq z Cn z z z z (fun c a => rS c (p0 := p0) (p1 := p1) a1 (a.carve [] z z)) fun c2 c h a E => ?_
      obtain ⟨c3, c4, c5, c6, c7, c8, c9, d0, rfl, g⟩ := E
      obtain rfl := aH (i := 0) g z
      obtain rfl := aH (i := 1) g z
      refine ⟨St w [] [_, _, _, _], a.comp [] z z g, fun _ _ => Y, ?_⟩
      refine aa [.p, .p, .p, .p, .p, .p, .p] z <| nR <| oPP z <| bE H fun d1 a2 H => aq z vG z z z z (fun c a => jz c a2 (a.carve [] z z) (au (e := af eI 3) (r := 2) z c a) (au (e := af eI 3) (r := 2) z c a)) fun d2 c h a F => ?_
      obtain ⟨d3, d4, d5, d6, rfl, t⟩ := F
      obtain rfl := aH (i := 0) t z
      refine ⟨St w [] [_, _, _, _, _], a.comp [] z z t, fun _ _ => Y, ?_⟩
      refine aa [.p, .p, .p, .p, .p] z <| nR <| oPP z <| bE H fun d7 a3 H => aq z sZ z z z z (fun c a => gk c a3 (a.carve [] z z)) fun d8 c h a G => ?_
      obtain ⟨d9, e0, e1, e2, rfl, u⟩ := G
      obtain rfl := aH (i := 0) u z
      refine ⟨St w [] [_, _, _, _, _, _], a.comp [] z z u, fun _ _ => Y, ?_⟩
      refine bE H fun e3 a4 H => aq z vG z z z z (fun c a => jz c a4 (a.carve [] z z) (au (e := af eI 3) (r := 4) z c a) (au (e := af eI 3) (r := 5) z c a)) fun e4 c h a L => ?_
      obtain ⟨e5, e6, e7, e9, rfl, v⟩ := L
      obtain rfl := aH (i := 0) v z
      refine ⟨St w [] [_, _, _, _, _, _, _], a.comp [] z z v, fun _ _ => Y, ?_⟩
      refine aa [.p, .p, .p, .p] z <| nR <| oPP z <| bE H fun f0 a5 H => aq z vG z z z z (fun c a => jz c a5 (a.carve [] z z) (au (e := af eI 3) (r := 3) z c a) (au (e := af eI 3) (r := 3) z c a)) fun f1 c h a M => ?_
      obtain ⟨f2, f3, f4, f5, rfl, x⟩ := M
      obtain rfl := aH (i := 0) x z
      refine ⟨St w [] [_, _, _, _, _, _, _, _], a.comp [] z z x, fun _ _ => Y, ?_⟩
      refine aa [.p, .p, .p, .p, .p] z <| nR <| oPP z <| bE H fun f6 a6 H => oq z (qc z AJ (fun c a => qL c a6)) tt2 <| bE H fun f7 a7 H => aq z sZ z z z z (fun c a => gk c a7 (a.carve [] z z)) fun f8 c h a P => ?_
      obtain ⟨f9, g0, g1, g2, rfl, A⟩ := P
      obtain rfl := aH (i := 0) A z
      refine ⟨St w [] [_, _, _, _, _, _, _, _, _], a.comp [] z z A, fun _ _ => Y, ?_⟩
      refine bE H fun g3 a8 H => aq z vG z z z z (fun c a => jz c a8 (a.carve [] z z) (au (e := af eI 3) (r := 7) z c a) (au (e := af eI 3) (r := 8) z c a)) fun g4 c h a Q => ?_
      obtain ⟨g5, b7, b8, b9, rfl, C⟩ := Q
      obtain rfl := aH (i := 0) C z
      refine ⟨St w [] [_, _, _, _, _, _, _, _, _, _], a.comp [] z z C, fun _ _ => Y, ?_⟩
      exact aa [.p, .p, .p, .p] z <| nR <| oPP z <| bE H fun c0 X H => oq z (qc z yc (fun c a => na c X (au (e := af eI 3) (r := 6) z c a) (au (e := af eI 3) (r := 9) z c a))) tt2 <| oPP z <| nT <| xr 8 z (by cases H; exact q1)
    ·clear H
     have H := s
     clear s
     generalize o = a9 at H key ⊢
     cases a9
     ·have H := ba z H
      refine oP z <| bE H fun g6 b0 H => oq z (qc z gK (fun c a => bf c b0)) tt2 <| oP z <| oP z <| ?_
      obtain rfl := ai H
      exact OW.sub key (sb z)
     ·have H := bb z H
      refine aa [.p, .p, .p, .p] z ?_
      obtain rfl := ai H
      exact OW.sub key (sb z)
   ·clear H
    have H := q
    clear q
    generalize l = b1 at H key ⊢
    cases b1
    ·have H := ba z H
     refine oP z <| bE H fun g7 b2 H => oq z (qc z gK (fun c a => bf c b2)) tt2 <| oP z <| oP z <| ?_
     obtain rfl := ai H
     exact OW.sub key (sb z)
    ·have H := bb z H
     refine aa [.p, .p, .p, .p] z ?_
     obtain rfl := ai H
     exact OW.sub key (sb z)
  ·clear H
   have H := m
   clear m
   generalize j = b3 at H key ⊢
   cases b3
   ·have H := ba z H
    refine o1 z (rx 0 0 _ z cq z) <| o1 z (rx 0 1 _ z cq z) <| bE H fun g8 b4 H => oq z (qc z vJ (fun c a => jo c (p0 := p0) (p1 := p1) b4)) tt2 <| oP z <| oP z <| ?_
    obtain rfl := ai H
    exact OW.sub key (sb z)
   ·have H := bb z H
    refine aa [.p, .p, .p, .p, .p] z ?_
    obtain rfl := ai H
    exact OW.sub key (sb z)
 ·clear H
  have H := k
  clear k
  generalize (!D) = b5 at H key ⊢
  cases b5
  ·have H := ba z H
   refine o1 z (rx 0 1 _ z cq z) <| bE H fun g9 b6 H => oq z (qc z wN (fun c a => jL c (p0 := p1) b6)) tt2 <| oP z <| oP z <| ?_
   obtain rfl := ai H
   exact OW.sub key (sb z)
  ·have H := bb z H
   refine aa [.p, .p, .p, .p] z ?_
   obtain rfl := ai H
   exact OW.sub key (sb z)
theorem uc (w : World) {p0 : cA} {p1 : Int} {r : Bool} (H : nH p0 p1 = U r)   :
    Calls Tryz.prog 174 #[.agg #[I J p0.F_, I J p0.G_, I J p0.H_, I J p0.m_, I J p0.a_, I J p0.D_, B p0.E_], I J p1] w (fun en w' => en = .returned (B r) ∧ Ext [] w w') := by
 unfold nH at H
 refine aG Tryz.func174 z Tryz.ntmps174 z (St.init w []) <| sR <| ob _ z fun a => oP z <| nQ <| ak <| dJ bT (by kernel_rfl) <| o1 z (rx 0 0 _ z mY z) <| bE H fun g i H => oq z (qc z ye (fun c h => mP c (p0 := p0) i)) tt2 <| oP z <| bE H fun d e H => aQ [(10, B d), (1, I J p1), (2, O (U ⟨a, 0, N⟩)), (4, B n)] 3 ?_ (fun key => OW.sub (R := [(1, I J p1), (2, O (U ⟨a, 0, N⟩)), (4, B n), (7, B g)]) ?_ (sb z))
 ·refine oP z <| bE H fun j f H => aQ [(25, B j), (4, B n)] 14 ?_ (fun key => OW.sub (R := [(1, I J p1), (2, O (U ⟨a, 0, N⟩)), (4, B n), (11, B d)]) ?_ (sb z))
  ·exact oP z <| cx <| az <| pT <| xr 4 z (by cases H; exact q1)
  ·clear H
   have H := f
   clear f
   generalize d = k at H key ⊢
   cases k
   ·have H := ba z H
    refine aa [.p, .p, .p, .p, .p, .p, .p, .p, .p, .p, .p, .p, .p, .p] z ?_
    obtain rfl := ai H
    exact OW.sub key (sb z)
   ·have H := bb z H
    refine aa [.fa 130 0 0 ud] z <| o1 z (r1 0 0 z ty3 z) <| bE H fun q l H => oq z (qc z AJ (fun c h => qL c l)) tt2 <| aa [.p, .p, .p, .fa 130 1 1 uH] z <| o1 z (r1 1 0 z ty3 z) <| aa [.p, .fa 130 1 1 uH] z <| o1 z (r1 1 0 z ty3 z) <| oPP z <| oP z <| ?_
    obtain rfl := ai H
    exact OW.sub key (sb z)
 ·clear H
  have H := e
  clear e
  generalize g = m at H key ⊢
  cases m
  ·have H := ba z H
   refine aa [.p, .p, .p] z ?_
   obtain rfl := ai H
   exact OW.sub key (sb z)
  ·have H := bb z H
   refine oP z <| bE H fun s o H => oq z (qc z gK (fun c h => bf c o)) tt2 <| oP z <| ?_
   obtain rfl := ai H
   exact OW.sub key (sb z)
theorem rV (w : World) {p0 : cA} {p1 : aZ} {p2 : aZ} {p3 : Int} {r : Int} (H : kW p0 p1 p2 p3 = U r)   :
    Calls Tryz.prog 157 #[.agg #[I J p0.F_, I J p0.G_, I J p0.H_, I J p0.m_, I J p0.a_, I J p0.D_, B p0.E_], .agg #[I J p1.C_, I J p1.B_], .agg #[I J p2.C_, I J p2.B_], I J p3] w (fun en w' => en = .returned (I J r) ∧ Ext [] w w') := by
 unfold kW at H
 refine aG Tryz.func157 z Tryz.ntmps157 z (St.init w []) <| sR <| ob _ z fun c => ob _ z fun d => ob _ z fun e => oP z <| nQ <| ak <| aB <| sR <| o1 z (rx 0 0 _ z mY z) <| bE H fun o q H => oq z (qc z ye (fun a f => mP a (p0 := p0) q)) tt2 <| oPP z <| bE H fun g h H => aQ [(17, B g), (3, I J p3), (4, O (U ⟨c, 0, N⟩)), (5, O (U ⟨d, 0, N⟩)), (6, O (U ⟨e, 0, N⟩))] 4 ?_ (fun key => OW.sub (R := [(3, I J p3), (4, O (U ⟨c, 0, N⟩)), (5, O (U ⟨d, 0, N⟩)), (6, O (U ⟨e, 0, N⟩)), (13, B (!o))]) ?_ (sb z))
 ·refine oP z <| bE H fun i j H => aQ [(22, B i), (3, I J p3), (4, O (U ⟨c, 0, N⟩)), (5, O (U ⟨d, 0, N⟩)), (6, O (U ⟨e, 0, N⟩))] 4 ?_ (fun key => OW.sub (R := [(3, I J p3), (4, O (U ⟨c, 0, N⟩)), (5, O (U ⟨d, 0, N⟩)), (6, O (U ⟨e, 0, N⟩)), (18, B g)]) ?_ (sb z))
  ·refine oP z <| bE H fun k l H => aQ [(27, B k), (3, I J p3), (4, O (U ⟨c, 0, N⟩)), (5, O (U ⟨d, 0, N⟩)), (6, O (U ⟨e, 0, N⟩))] 4 ?_ (fun key => OW.sub (R := [(3, I J p3), (4, O (U ⟨c, 0, N⟩)), (5, O (U ⟨d, 0, N⟩)), (6, O (U ⟨e, 0, N⟩)), (23, B i)]) ?_ (sb z))
   ·refine oP z <| bE H fun s m H => aQ [(33, B s), (3, I J p3), (4, O (U ⟨c, 0, N⟩)), (5, O (U ⟨d, 0, N⟩)), (6, O (U ⟨e, 0, N⟩))] 5 ?_ (fun key => OW.sub (R := [(3, I J p3), (4, O (U ⟨c, 0, N⟩)), (5, O (U ⟨d, 0, N⟩)), (6, O (U ⟨e, 0, N⟩)), (28, B k)]) ?_ (sb z))
    ·refine oP z <| nQ <| cI H z (fun H => ?_) (fun H => ?_)
     ·exact sR <| oP z <| nT <| aP <| ap <| xr 8 z (by cases H; exact q1)
     ·refine sR <| aa [.fa 186 0 0 mu] z <| o1 z (r1 0 1 z ty3 z) <| oPP z <| nQ <| cI H z (fun H => ?_) (fun H => ?_)
      ·exact sR <| oP z <| nT <| aP <| ap <| xr 8 z (by cases H; exact q1)
      ·refine sR <| o1 z (rx 0 1 _ z cq z) <| o1 z (rx 0 2 _ z cq z) <| aa [.p, .fa 130 0 0 ud] z <| o1 z (r1 0 0 z ty3 z) <| bE H fun L t H => oq z (qc z CT (fun a f => sq a (p0 := p1) (p1 := p2) t)) tt2 <| oP z <| nQ <| cI H z (fun H => ?_) (fun H => ?_)
       ·exact sR <| oP z <| nT <| aP <| ap <| xr 8 z (by cases H; exact q1)
       ·refine sR <| o1 z (rx 0 0 _ z mY z) <| oP z <| bE H fun M u H => oq z (qc z Cg (fun a f => uc a (p0 := p0) u)) tt2 <| oP z <| nQ <| cI H z (fun H => ?_) (fun H => ?_)
        ·exact sR <| oP z <| nT <| aP <| ap <| xr 8 z (by cases H; exact q1)
        ·exact aw <| ca <| az <| sR <| oP z <| nT <| xr 8 z (by cases H; exact q1)
    ·clear H
     have H := m
     clear m
     generalize k = v at H key ⊢
     cases v
     ·have H := ba z H
      refine o1 z (rx 0 1 _ z cq z) <| o1 z (rx 0 2 _ z cq z) <| bE H fun P x H => oq z (qc z vJ (fun a f => jo a (p0 := p1) (p1 := p2) x)) tt2 <| oP z <| oP z <| ?_
      obtain rfl := ai H
      exact OW.sub key (sb z)
     ·have H := bb z H
      refine aa [.p, .p, .p, .p, .p] z ?_
      obtain rfl := ai H
      exact OW.sub key (sb z)
   ·clear H
    have H := l
    clear l
    generalize i = A at H key ⊢
    cases A
    ·have H := ba z H
     refine o1 z (rx 0 2 _ z cq z) <| bE H fun Q C H => oq z (qc z wN (fun a f => jL a (p0 := p2) C)) tt2 <| oP z <| oP z <| ?_
     obtain rfl := ai H
     exact OW.sub key (sb z)
    ·have H := bb z H
     refine aa [.p, .p, .p, .p] z ?_
     obtain rfl := ai H
     exact OW.sub key (sb z)
  ·clear H
   have H := j
   clear j
   generalize g = D at H key ⊢
   cases D
   ·have H := ba z H
    refine o1 z (rx 0 1 _ z cq z) <| bE H fun X E H => oq z (qc z wN (fun a f => jL a (p0 := p1) E)) tt2 <| oP z <| oP z <| ?_
    obtain rfl := ai H
    exact OW.sub key (sb z)
   ·have H := bb z H
    refine aa [.p, .p, .p, .p] z ?_
    obtain rfl := ai H
    exact OW.sub key (sb z)
 ·clear H
  have H := h
  clear h
  generalize (!o) = F at H key ⊢
  cases F
  ·have H := ba z H
   refine oP z <| bE H fun Z G H => oq z (qc z gK (fun a f => bf a G)) tt2 <| oP z <| oP z <| ?_
   obtain rfl := ai H
   exact OW.sub key (sb z)
  ·have H := bb z H
   refine aa [.p, .p, .p, .p] z ?_
   obtain rfl := ai H
   exact OW.sub key (sb z)
theorem tn (w : World) {p0 : ae} {p1 : cA} {p2 : aR} {m : List Value} {o : List Value} {r : ar × Int} (H : mM p0 p1 p2 = U r) (g0 : (aX).rd w [] p0 m) (g2 : (aD).rd w [] p2 o) :
    Calls Tryz.prog 143 #[.agg m.toArray, .agg #[I J p1.F_, I J p1.G_, I J p1.H_, I J p1.m_, I J p1.a_, I J p1.D_, B p1.E_], .agg o.toArray] w (fun en w' => en = .returned (.tuple #[.agg #[I J r.1.g_, I J r.1.c_], I J r.2]) ∧ Ext [] w w') := by
 obtain ⟨a3, a4, rfl, h, j⟩ := aI g0
 obtain ⟨a5, a6, rfl⟩ := am h
 obtain ⟨a7, a8, rfl⟩ := am j
 obtain ⟨a9, b0, b1, b2, b3, b4, b5, b6, b7, b8, rfl, x, A, C, D, E, F, q, G, L, M⟩ := bn g2
 obtain rfl := x
 obtain rfl := A
 obtain ⟨b9, c0, rfl⟩ := am C
 obtain rfl := D
 obtain ⟨c1, c2, rfl, k, l⟩ := aL E
 obtain ⟨c3, c4, rfl⟩ := am k
 obtain ⟨c5, c6, rfl⟩ := am l
 obtain rfl := F
 obtain ⟨c7, c8, rfl⟩ := am q
 obtain rfl := G
 obtain rfl := L
 obtain rfl := M
 unfold mM at H
 refine aG Tryz.func143 z Tryz.ntmps143 z (St.init w []) <| sR <| ob _ z fun s => ob _ z fun t => ob _ z fun u => aC z z z z cH (fun _ => kp) fun f => oP z <| nR <| o1 z (rx 0 0 _ z bU z) <| aa [.fa 71 4 5 eR] z <| o1 z (rx 5 2 _ z cP z) <| aa [.fa 71 6 8 oX] z <| o1 z (r1 8 2 z cw z) <| aa [.fa 130 6 6 Ar] z <| o1 z (r1 6 1 z ty4 z) <| bE H fun a P H => oq z (qc z Ck (fun d c => rf d P (ah (ab h d c) (ab j d c)) (aE (ab k d c) (ab l d c)) (ab q d c))) tt2 <| aa [.p, .p, .p, .p] z <| aC z z z z jc (fun _ => kp) fun g => aC z z z z cq (fun _ => kp) fun v => sC 0 [I J a.1.l_.g_, I J a.1.l_.c_, I J a.1.A_.C_, I J a.1.A_.B_] [_, _, _, _] 4 z jc z <| sC 0 [I J a.2.1.C_, I J a.2.1.B_] [_, _] 5 z cq z <| oP z <| nQ <| ak <| sR <| aa [.fa 71 0 0 ls] z <| o1 z (r1 0 2 z ty4 z) <| oPP z <| aQ [(30, B ((!p2.s_) || (!a.2.2))), (3, O (U ⟨s, 0, N⟩)), (4, O (U ⟨t, 0, N⟩)), (5, O (U ⟨u, 0, N⟩)), (6, O (U ⟨f, 0, N⟩)), (8, O (U ⟨g, 0, N⟩)), (9, O (U ⟨v, 0, N⟩))] 3 ?_ (fun key => OW.sub (R := [(3, O (U ⟨s, 0, N⟩)), (4, O (U ⟨t, 0, N⟩)), (5, O (U ⟨u, 0, N⟩)), (6, O (U ⟨f, 0, N⟩)), (8, O (U ⟨g, 0, N⟩)), (9, O (U ⟨v, 0, N⟩)), (10, B a.2.2), (27, B (!p2.s_))]) ?_ (sb z))
 ·refine nQ <| cI H z (fun H => ?_) (fun H => ?_)
  ·exact sR <| o1 z (bI [] [I J 0, I J 0] z z cH un z Y z) <| sC 0 [I J 0, I J 0] [_, _] 3 z cH z <| oP z <| nT <| ap <| aY (rs := [.cell 6 66, .tmp 7]) (vs := [.agg #[I J 0, I J 0], I J 4]) z ⟨⟨_, [I J 0, I J 0], _, _, _, z, cH, (bl (T := 66) 0 (bK (i := 3) z) z), z, z⟩, z, Y⟩ (fun w' hw' => by
    obtain rfl := ai H
    exact ⟨z, hw'.ext⟩)
  ·refine aw <| az <| ak <| dJ bT (by kernel_rfl) <| o1 z (rx 0 1 _ z mY z) <| aa [.fa 188 1 2 si] z <| o1 z (rx 2 4 _ z cq z) <| o1 z (rx 0 5 _ z cq z) <| o1 z (rx 0 0 _ z bU z) <| aa [.fa 71 4 5 eR] z <| o1 z (rx 5 2 _ z cP z) <| bE H fun c9 Q H => oq z (qc z ym (fun d c => gZ d Q (ah (ab h d c) (ab j d c)) (aE (ab k d c) (ab l d c)))) tt2 <| bE H fun e X H => oq z (qc z BW (fun d c => rV d (p0 := p1) (p1 := a.1.A_) (p2 := a.2.1) X)) tt2 <| oP z <| cx <| az <| ak <| sR <| aa [.p, .p, .p] z <| aQ [(46, B ((e == 1) || (e == 2))), (6, O (U ⟨f, 0, N⟩)), (8, O (U ⟨g, 0, N⟩)), (11, I J e)] 3 ?_ (fun key => OW.sub (R := [(6, O (U ⟨f, 0, N⟩)), (8, O (U ⟨g, 0, N⟩)), (11, I J e), (43, B (e == 1))]) ?_ (sb z))
   ·refine nQ <| cI H z (fun H => ?_) (fun H => ?_)
    ·exact sR <| aa [.fa 188 0 0 Ap] z <| o1 z (rx 0 4 _ z cH z) <| oP z <| sC 0 [I J a.1.l_.g_, I J a.1.l_.c_] [_, _] 3 z cH z <| oP z <| nT <| ap <| aY (rs := [.cell 6 66, .tmp 7]) (vs := [.agg #[I J a.1.l_.g_, I J a.1.l_.c_], I J e]) z ⟨⟨_, [I J a.1.l_.g_, I J a.1.l_.c_], _, _, _, z, cH, (bl (T := 66) 0 (bK (i := 3) z) z), z, z⟩, z, Y⟩ (fun w' hw' => by
      obtain rfl := ai H
      exact ⟨z, hw'.ext⟩)
    ·exact aw <| az <| sR <| o1 z (bI [] [I J 0, I J 0] z z cH un z Y z) <| oP z <| sC 0 [I J 0, I J 0] [_, _] 3 z cH z <| oP z <| nT <| aY (rs := [.cell 6 66, .tmp 7]) (vs := [.agg #[I J 0, I J 0], I J e]) z ⟨⟨_, [I J 0, I J 0], _, _, _, z, cH, (bl (T := 66) 0 (bK (i := 3) z) z), z, z⟩, z, Y⟩ (fun w' hw' => by
      obtain rfl := ai H
      exact ⟨z, hw'.ext⟩)
   ·generalize (e == 1) = Z at key ⊢
    cases Z
    ·exact oPP z <| oP z <| OW.sub key (sb z)
    ·exact aa [.p, .p, .p] z <| OW.sub key (sb z)
 ·generalize (!p2.s_) = a0 at key ⊢
  cases a0
  ·exact oPP z <| oP z <| OW.sub key (sb z)
  ·exact aa [.p, .p, .p] z <| OW.sub key (sb z)
theorem jS (w : World) {p0 : Int} {p1 : Int} {r : Int} (H : iB p0 p1 = U r)   :
    Calls Tryz.prog 159 #[I J p0, I J p1] w (fun en w' => en = .returned (I J r) ∧ Ext [] w w') := by
 unfold iB at H
 refine aG Tryz.func159 z Tryz.ntmps159 z (St.init w []) <| sR <| oP z <| nQ <| ak <| sR <| oP z <| bE H fun M a7 H => oq z (qc z gK (fun u q => bf u a7)) tt2 <| oPP z <| bE H fun a8 v H => aQ [(17, B a8), (0, I J p0), (1, I J p1)] 5 ?_ (fun key => OW.sub (R := [(0, I J p0), (1, I J p1), (12, B (!M))]) ?_ (sb z))
 ·refine nQ <| cI H z (fun H => ?_) (fun H => ?_)
  ·exact sR <| oP z <| nT <| ap <| xr 4 z (by cases H; exact q1)
  ·refine aw <| az <| sR <| bA (val := I J) (h1 := fun _ => z) [1] [(0, [I J 1])] z z z z z aO ty3 z z z ⟨z, z, nl z, Y⟩ z z (fun _ => kp) fun P => oP z <| nQ <| ak <| sR <| oP z <| nQ <| aB <| CW.at (iz (fun (a : List Int) (k : Option Addr) (d : Nat) (l : List Nat) (f : Int) => St w [] [W (af eI 3) l a [S k a.length d]]) (fun a k d l f => [(0, I J p0), (1, I J p1), (5, S k a.length d), (6, I J f)]) (fun kk => fun a k d l f => k.isNone = n ∧ cS p0 p1 kk a f = U r) (fun _ _ _ _ _ H => ?_) (fun k1 Q a k d l f ⟨b1, H⟩ => ?_) bh (([1] : List Int)) ((U ⟨P, 0, N⟩)) (1) ([P]) (0) (⟨z, H⟩)) (ss [0] z z) (sb z)
   ·unfold cS at H
    exact absurd H (by simp)
   ·unfold cS at H
    refine ak <| sR <| aa [.p, .p, .p] z <| nQ <| cI H z (fun H => ?_) (fun H => ?_)
    ·refine aw <| az <| ak <| aB <| sR <| bA (val := I J) (h1 := fun _ => z) [1] [(0, [I J 1])] z z z z z aO ty3 z z z ⟨z, z, nl z, Y⟩ z z (fun _ => kp) fun x => oP z <| nQ <| ak <| sR <| oP z <| nQ <| aB <| CW.at (iz (fun (c : List Int) (h : Option Addr) (m : Nat) (o : List Nat) (g : Int) => St w [] [W (af eI 3) l a [S k a.length d], W (af eI 3) o c [S h c.length m]]) (fun c h m o g => [(0, I J p0), (1, I J p1), (5, S k a.length d), (6, I J f), (7, S h c.length m), (8, I J g)]) (fun kk => fun c h m o g => h.isNone = n ∧ fk a (cS p0 p1 k1) f kk c g = U r) (fun _ _ _ _ _ H => ?_) (fun k2 X c h m o g ⟨b2, H⟩ => ?_) bh (([1] : List Int)) ((U ⟨x, 0, N⟩)) (1) ([x]) (1) (⟨z, H⟩)) (ss [0, 1] z z) (sb z)
     ·unfold fk at H
      exact absurd H (by simp)
     ·unfold fk at H
      refine ak <| sR <| aa [.p, .p, .lenS 31 3 aO, .p] z <| nQ <| cI H z (fun H => ?_) (fun H => ?_)
      ·exact aw <| az <| ak <| aB <| cW 12 [(0, y), (1, y), (2, y), (3, y), (4, y), (5, y), (6, y), (7, y), (8, y), (9, y), (10, y), (11, n)] (St w [] [W (af eI 3) l a [S k a.length d], W (af eI 3) o c [S h c.length m]]) bT (by kernel_rfl) (bF (aV (fe (bF (aV (bF (aV (fe (bF (aV be)))))))))) (tk 2 z) <| aa [.p, .p, .p, .p] z <| bE H fun s A H => bq (e := eI) (xs := a) (j := J.wrap (g - 1)) z z z z z aO ty3 z (au (e := af eI 3) (r := 0) z) A (by rw [Nat.mul_one]) <| br z (ax z) (aF z z ty3 (bC (au (e := af eI 3) (r := 0) z) A)) <| oPP z <| bE H fun t C H => bq (e := eI) (xs := a) (j := g) z z z z z aO ty3 z (au (e := af eI 3) (r := 0) z) C (by rw [Nat.mul_one]) <| br z (ax z) (aF z z ty3 (bC (au (e := af eI 3) (r := 0) z) C)) <| oP z <| bA (val := I J) (h1 := fun _ => z) [J.wrap (s + t)] [(0, [I J (J.wrap (s + t))])] z z z z z aO ty3 z z z ⟨z, z, nl z, Y⟩ z z (fun _ => (tk 2 z)) fun b4 => aJ <| iY <| bE H fun Z D H => bY (r := 1) (ys := ([J.wrap (s + t)] : List Int)) z z z z z z aO ty3 z z z (au (e := af eI 3) (r := 2) z) D (fun _ _ _ => kp) fun a0 a1 a2 => cg z (fun u q => eD (i := 1) q z (eG D)) fun G => oP z <| ay <| ca <| az <| aT <| aa [.p, .p, .p] z <| ay <| cQ (RW.at (X (Z) (a0) (a1) (a2) (J.wrap (g + 1)) (⟨G, H⟩)) (ss [0, 1] z z) (sb z))
      ·exact bH <| aN <| aS <| aM <| az <| aT <| oP z <| bA (val := I J) (h1 := fun _ => z) [1] [(0, [I J 1])] z z z z z aO ty3 z z z ⟨z, z, nl z, Y⟩ z z (fun _ => kp) fun b5 => bE H fun a3 E H => bY (r := 1) (ys := ([1] : List Int)) z z z z z z aO ty3 z z z (au (e := af eI 3) (r := 2) z) E (fun _ _ _ => kp) fun a4 a5 a6 => cg z (fun u q => eD (i := 1) q z (eG E)) fun L => oP z <| ay <| ca <| az <| aT <| aa [.p, .p, .p] z <| ay <| cQ (RW.at (Q (a3) (a4) (a5) (a6) (J.wrap (f + 1)) (⟨L, H⟩)) (ss [1] z z) (sb z))
    ·exact bH <| aN <| aS <| aM <| az <| sR <| oPP z <| bE H fun b6 F H => bq (e := eI) (xs := a) (j := p1) z z z z z aO ty3 z (au (e := af eI 3) (r := 0) z) F (by rw [Nat.mul_one]) <| o1 z (aF z z ty3 (bC (au (e := af eI 3) (r := 0) z) F)) <| oP z <| nT <| xr 4 z (by cases H; exact q1)
 ·clear H
  have H := v
  clear v
  generalize (!M) = a9 at H key ⊢
  cases a9
  ·have H := ba z H
   refine oPP z <| bE H fun b7 b0 H => oq z (qc z gK (fun u q => bf u b0)) tt2 <| oP z <| oP z <| ?_
   obtain rfl := ai H
   exact OW.sub key (sb z)
  ·have H := bb z H
   refine aa [.p, .p, .p, .p, .p] z ?_
   obtain rfl := ai H
   exact OW.sub key (sb z)
theorem rv (w : World) {p0 : bd} {a : List Value} {r : Int} (H : lL p0 = U r) (h : (iq).rd w [] p0 a) :
    Calls Tryz.prog 192 #[.agg a.toArray] w (fun en w' => en = .returned (I J r) ∧ Ext [] w w') := by
 obtain ⟨i, j, rfl, c, d⟩ := hY h
 obtain ⟨k, l, rfl⟩ := am c
 obtain rfl := d
 unfold lL at H
 refine aG Tryz.func192 z Tryz.ntmps192 z (St.init w []) <| sR <| ob _ z fun m => oP z <| nQ <| ak <| sR <| o1 z (rx 0 0 _ z bN z) <| bE H fun o e H => oq z (qc z AM (fun f g => pn f e (bm (ab c f g) z))) tt2 <| oP z <| nQ <| cI H z (fun H => ?_) (fun H => ?_)
 ·exact sR <| oP z <| nT <| ap <| xr 2 z (by cases H; exact q1)
 ·exact aw <| az <| sR <| aa [.fa 152 0 0 pH] z <| o1 z (r1 0 0 z vv z) <| aa [.lenS 22 5 lB, .fa 152 1 1 oz] z <| o1 z (r1 1 0 z ty3 z) <| oPP z <| nT <| xr 2 z (by cases H; exact q1)
theorem uJ (w : World) {k : List Nat} {p0 : bd} {o : List Value} {r : bd × Int × Bool} (H : nW p0 = U r) (HS : St w k [] w) (Q : (iq).rd w k p0 o) :
    Calls Tryz.prog 175 #[.agg o.toArray] w (fun en w' => ∃ v, en = .returned v ∧ ∃ (u : Option Addr), ∃ (x : Nat), ∃ (c0 : Nat), ∃ (R : List Nat), v = .tuple #[.agg #[S u x c0, I J r.1.c_], I J r.2.1, B r.2.2] ∧ St w k [W (af e8 5) R r.1.q_ [S u x c0]] w') := by
 obtain ⟨X, Z, rfl, f, A⟩ := hY Q
 obtain ⟨C, D, rfl⟩ := am f
 obtain rfl := A
 unfold nW at H
 refine aG Tryz.func175 z Tryz.ntmps175 z (HS) <| sR <| ob _ z fun E => aC z z z z bN (fun _ => kp) fun a1 => oPP z <| nR <| o1 z (rx 0 0 _ z bN z) <| bE H fun a F H => aq z qv z z z z (fun h g => eX h F (g.carve [] z z) (bm (ab f h g) z)) fun a2 h w2 g t => ?_
 obtain ⟨c, a3, d, l, rfl, m⟩ := t
 obtain rfl := aH (i := 0) m z
 refine ⟨St w k [_, _, _], g.comp [] z z m, fun _ _ => Y, ?_⟩
 refine aC z z z z bN (fun _ => kp) fun G => sC 0 [S c a.q_.length d, I J a.c_] [_, _] 3 z bN z <| nQ <| ak <| sR <| o1 z (rx 0 0 _ z bN z) <| bE H fun a4 L H => oq z (qc z Dq (fun h g => rv h L (bm (ab f h g) z))) tt2 <| oP z <| nQ <| cI H z (fun H => ?_) (fun H => ?_)
 ·exact sR <| o1 z (rx 0 3 _ z bN z) <| sC 0 [S c a.q_.length d, I J a.c_] [_, _] 1 z bN z <| oPP z <| nT <| ap <| aY (rs := [.cell 2 152, .tmp 3, .tmp 4]) (vs := [.agg #[S c a.q_.length d, I J a.c_], I J 0, B n]) z ⟨⟨_, [S c a.q_.length d, I J a.c_], _, _, _, z, bN, (bl (T := 152) 0 (bK (i := 1) z) z), z, z⟩, z, z, Y⟩ (fun w' hw' => by
   obtain rfl := ai H
   exact ⟨_, z, c, a.q_.length, d, l, z, hw'.sel [2] z z⟩)
 ·exact aw <| az <| sR <| aa [.fa 152 1 1 oz] z <| o1 z (r1 1 0 z ty3 z) <| aa [.p, .fa 152 1 1 oz] z <| sC 1 [I J (J.wrap (p0.c_ + 2))] [_, _] 3 z ty3 z <| nQ <| ak <| cW 19 [(0, y), (1, y), (2, y), (3, y), (4, y), (5, y), (6, y), (7, y), (8, y), (9, y), (10, y), (11, y), (12, y), (13, y), (14, y), (15, y), (16, y), (17, y), (18, n)] (St w k [b E 152 [S C p0.q_.length D, I J p0.c_], Res.nil, W (af e8 5) l a.q_ [S c a.q_.length d], b G 152 [S c a.q_.length d, I J (J.wrap (p0.c_ + 2))]]) bT (by kernel_rfl) (aV be) (sm [y, n, y, y] z) <| br z (ax z) (rx 0 3 _ z bN z) <| aa [.fa 152 0 0 pH] z <| br z (ax z) (r1 0 0 z vv z) <| aa [.fa 152 1 1 oz] z <| br z (ax z) (r1 1 0 z ty3 z) <| bE H fun M q H => bq (e := e8) (xs := p0.q_) (j := p0.c_) z z z z z lB ty5 z (ab f) q (by rw [Nat.mul_one]) <| br z (ax z) (aF z z ty5 (bC (ab f) q)) <| aa [.cv 5 3 J us5 in3, .p, .fa 152 0 0 pH] z <| br z (ax z) (r1 0 0 z vv z) <| aa [.fa 152 1 1 oz] z <| br z (ax z) (r1 1 0 z ty3 z) <| oP z <| bE H fun P s H => bq (e := e8) (xs := p0.q_) (j := J.wrap (p0.c_ + 1)) z z z z z lB ty5 z (ab f) s (by rw [Nat.mul_one]) <| br z (ax z) (aF z z ty5 (bC (ab f) s)) <| aa [.cv 5 3 J us5 in3, .p] z <| bo (off := 0) [S c a.q_.length d, I J (J.wrap (p0.c_ + 2))] [_, _] (i := 1) z z z z z z bN z z (al z) z z z (sm [y, n, y, y] z) <| aJ <| iY <| oPP z <| nT <| aY (rs := [.cell 2 152, .tmp 3, .tmp 4]) (vs := [.agg #[S c a.q_.length d, I J (J.wrap (p0.c_ + 2))], I J (J.wrap ((J.wrap ((J.wrap M) * 256)) + (J.wrap P))), B y]) z ⟨⟨_, [S c a.q_.length d, I J (J.wrap (p0.c_ + 2))], _, _, _, z, bN, (bl (T := 152) 0 (bK (i := 1) z) z), z, z⟩, z, z, Y⟩ (fun w' hw' => by
   obtain rfl := ai H
   exact ⟨_, z, c, a.q_.length, d, l, z, hw'.sel [2] z z⟩)
theorem lr (w : World) {k : List Nat} {p0 : bd} {p1 : Int} {u : List Value} {r : bd × Int × Bool} (H : kS p0 p1 = U r) (HS : St w k [] w) (g0 : (iq).rd w k p0 u) :
    Calls Tryz.prog 158 #[.agg u.toArray, I J p1] w (fun en w' => ∃ v, en = .returned v ∧ ∃ (E : Option Addr), ∃ (F : Nat), ∃ (c0 : Nat), ∃ (F0 : List Nat), v = .tuple #[.agg #[S E F c0, I J r.1.c_], I J r.2.1, B r.2.2] ∧ St w k [W (af e8 5) F0 r.1.q_ [S E F c0]] w') := by
 obtain ⟨a8, a9, rfl, l, G⟩ := hY g0
 obtain ⟨L, M, rfl⟩ := am l
 obtain rfl := G
 unfold kS at H
 refine aG Tryz.func158 z Tryz.ntmps158 z (HS) <| sR <| ob _ z fun m => aC z z z z bN (fun _ => kp) fun x => oPP z <| nR <| o1 z (rx 0 0 _ z bN z) <| bE H fun a P H => aq z CN z z z z (fun g c => uJ g P (c.carve [] z z) (bm (ab l g c) z)) fun b0 g w2 c C => ?_
 obtain ⟨d, b1, e, A, rfl, o⟩ := C
 obtain rfl := aH (i := 0) o z
 refine ⟨St w k [_, _, _], c.comp [] z z o, fun _ _ => Y, ?_⟩
 refine aa [.p, .p, .p, .p] z <| aC z z z z bN (fun _ => kp) fun q => sC 0 [S d a.1.q_.length e, I J a.1.c_] [_, _] 3 z bN z <| oPP z <| nQ <| ak <| sR <| aa [.p, .p, .p] z <| bE H fun Q s H => aQ [(22, B Q), (1, I J p1), (2, O (U ⟨m, 0, N⟩)), (4, O (U ⟨x, 0, N⟩)), (7, O (U ⟨q, 0, N⟩)), (8, I J a.2.1)] 4 ?_ (fun key => OW.sub (R := [(1, I J p1), (2, O (U ⟨m, 0, N⟩)), (4, O (U ⟨x, 0, N⟩)), (7, O (U ⟨q, 0, N⟩)), (8, I J a.2.1), (18, B (!a.2.2))]) ?_ (sb z))
 ·refine nQ <| cI H z (fun H => ?_) (fun H => ?_)
  ·refine sR <| o1 z (rx 0 0 _ z bN z) <| bE H fun f X H => aq z qv z z z z (fun g c => eX g X (c.carve [] z z) (bm (ab l g c) z)) fun b2 g w2 c D => ?_
   obtain ⟨h, b3, j, Z, rfl, t⟩ := D
   obtain rfl := aH (i := 0) t z
   refine ⟨St w k [_, _, _, _, _], c.comp [] z z t, fun _ _ => Y, ?_⟩
   exact sC 0 [S h f.q_.length j, I J f.c_] [_, _] 1 z bN z <| oPP z <| nT <| ap <| aY (rs := [.cell 4 152, .tmp 5, .tmp 6]) (vs := [.agg #[S h f.q_.length j, I J f.c_], I J 0, B n]) z ⟨⟨_, [S h f.q_.length j, I J f.c_], _, _, _, z, bN, (bl (T := 152) 0 (bK (i := 1) z) z), z, z⟩, z, z, Y⟩ (fun w' hw' => by
    obtain rfl := ai H
    exact ⟨_, z, h, f.q_.length, j, Z, z, hw'.sel [4] z z⟩)
  ·exact aw <| az <| ak <| cW 5 [(0, y), (1, y), (2, y), (3, y), (4, n)] (St w k [b m 152 [S L p0.q_.length M, I J p0.c_], Res.nil, W (af e8 5) A a.1.q_ [S d a.1.q_.length e], b q 152 [S d a.1.q_.length e, I J a.1.c_]]) bT (by kernel_rfl) (aV be) (sm [y, n, y, y] z) <| br z (ax z) (rx 0 3 _ z bN z) <| oPP z <| bE H fun a1 a2 H => br z (ax z) (pA z z z a2) <| bo (off := 0) [S d a.1.q_.length e, I J a.1.c_] [_, _] (i := 1) z z z z z z bN z z (al z) z z z (sm [y, n, y, y] z) <| aJ <| iY <| oPP z <| nT <| aY (rs := [.cell 4 152, .tmp 5, .tmp 6]) (vs := [.agg #[S d a.1.q_.length e, I J a.1.c_], I J a1, B y]) z ⟨⟨_, [S d a.1.q_.length e, I J a.1.c_], _, _, _, z, bN, (bl (T := 152) 0 (bK (i := 1) z) z), z, z⟩, z, z, Y⟩ (fun w' hw' => by
    obtain rfl := ai H
    exact ⟨_, z, d, a.1.q_.length, e, A, z, hw'.sel [2] z z⟩)
 ·clear H
  have H := s
  clear s
  generalize (!a.2.2) = a3 at H key ⊢
  cases a3
  ·have H := ba z H
   refine oP z <| bE H fun b4 a4 H => oq z (qc z gK (fun g c => bf g a4)) tt2 <| oP z <| oP z <| ?_
   obtain rfl := ai H
   exact OW.sub key (sb z)
  ·have H := bb z H
   refine aa [.p, .p, .p, .p] z ?_
   obtain rfl := ai H
   exact OW.sub key (sb z)
theorem rj (w : World) {q : List Nat} {p0 : Int} {p1 : Int} {p2 : Int} {r : List Int} (H : iC p0 p1 p2 = U r) (HS : St w q [] w) :
    Calls Tryz.prog 160 #[I J p0, I J p1, I J p2] w (fun en w' => ∃ v, en = .returned v ∧ ∃ (u : Option Addr), ∃ (x : Nat), ∃ (c0 : Nat), ∃ (P : List Nat), v = S u x c0 ∧ St w q [W (af eI 3) P r [S u x c0]] w') := by
 unfold iC at H
 refine aG Tryz.func160 z Tryz.ntmps160 z (HS) <| sR <| oP z <| nR <| bM (e := eI) z z z z aO ty3 (fun _ => kp) fun j => oP z <| nQ <| ak <| sR <| aa [.p, .p, .p] z <| bE H fun Q A H => oq z (qc z wS (fun l k => jS l A)) tt2 <| oP z <| bE H fun R C H => oq z (qc z gK (fun l k => bf l C)) tt2 <| oP z <| nQ <| cI H z (fun H => ?_) (fun H => ?_)
 ·exact sR <| oPP z <| nT <| ap <| aY (rs := [.tmp 6]) (vs := [S (U ⟨j, 0, N⟩) 0 0]) z ⟨z, Y⟩ (fun w' hw' => by
   obtain rfl := ai H
   exact ⟨_, z, (U ⟨j, 0, N⟩), 0, 0, [j], z, hw'.sel [0] z z⟩)
 ·refine aw <| az <| sR <| oP z <| nQ <| ak <| aB <| CW.at (uN (fun (g : Int) (a : List Int) (d : Option Addr) (f : Nat) (h : List Nat) (c : Int) => St w q [W (af eI 3) h a [S d a.length f]]) (fun g a d f h c => [(0, I J p0), (1, I J p1), (2, I J g), (7, S d a.length f), (8, I J c)]) (fun kk => fun g a d f h c => d.isNone = n ∧ eF p1 p0 kk g a c = U r) (fun _ _ _ _ _ _ H => ?_) (fun Z m g a d f h c ⟨s, H⟩ => ?_) bh (p2) (([] : List Int)) ((U ⟨j, 0, N⟩)) (0) ([j]) (0) (⟨z, H⟩)) (ss [0] z z) (sb z)
  ·unfold eF at H
   exact absurd H (by simp)
  ·unfold eF at H
   refine ak <| sR <| aa [.p, .lenS 31 3 aO, .p, .p] z <| nQ <| cI H z (fun H => ?_) (fun H => ?_)
   ·refine aw <| az <| aB <| sR <| aa [.p, .p, .p, .p, .p, .p, .lenS 31 3 aO, .p, .p] z <| bE H fun D E H => oq z (qc z wS (fun l k => jS l E)) tt2 <| oP z <| nQ <| ak <| sR <| aa [.p, .p, .p] z <| nQ <| cI H z (fun H => ?_) (fun H => ?_)
    ·exact aT <| oPP z <| bA (val := I J) (h1 := fun _ => z) [c] [(0, [I J c])] z z z z z aO ty3 z z z ⟨z, z, nl z, Y⟩ z z (fun _ => kp) fun X => bE H fun F o H => bY (r := 0) (ys := ([c] : List Int)) z z z z z z aO ty3 z z z (au (e := af eI 3) (r := 1) z) o (fun _ _ _ => kp) fun G L M => cg z (fun l k => eD (i := 0) k z (eG o)) fun t => oP z <| nQ <| aT <| aa [.p, .p, .p] z <| ay <| ca <| cQ (RW.at (m (g) (F) (G) (L) (M) (J.wrap (c + 1)) (⟨t, H⟩)) (ss [0] z z) (sb z))
    ·exact aT <| aa [.p, .p, .p, .p] z <| nQ <| aT <| aa [.p, .p, .p] z <| ay <| ca <| cQ (RW.at (m (J.wrap (g - D)) (a) (d) (f) (h) (J.wrap (c + 1)) (⟨s, H⟩)) (ss [0] z z) (sb z))
   ·exact bH <| aN <| aS <| aM <| az <| sR <| oPP z <| nT <| aY (rs := [.tmp 6]) (vs := [S d a.length f]) z ⟨z, Y⟩ (fun w' hw' => by
     obtain rfl := ai H
     exact ⟨_, z, d, a.length, f, h, z, hw'.sel [0] z z⟩)
theorem ql (w : World) {k : List Nat} {p0 : bd} {p1 : Int} {p2 : Int} {b1 : List Value} {r : bd × (List Int) × Bool} (H : jp p0 p1 p2 = U r) (HS : St w k [] w) (g0 : (iq).rd w k p0 b1) :
    Calls Tryz.prog 144 #[.agg b1.toArray, I J p1, I J p2] w (fun en w' => ∃ v, en = .returned v ∧ ∃ (a0 : Option Addr), ∃ (n0 : Nat), ∃ (c0 : Nat), ∃ (F0 : List Nat), ∃ (a1 : Option Addr), ∃ (n1 : Nat), ∃ (c1 : Nat), ∃ (F1 : List Nat), v = .tuple #[.agg #[S a0 n0 c0, I J r.1.c_], S a1 n1 c1, B r.2.2] ∧ St w k [W (af e8 5) F0 r.1.q_ [S a0 n0 c0], W (af eI 3) F1 r.2.1 [S a1 n1 c1]] w') := by
 obtain ⟨e5, e6, rfl, q, d0⟩ := hY g0
 obtain ⟨L, M, rfl⟩ := am q
 obtain rfl := d0
 unfold jp at H
 refine aG Tryz.func144 z Tryz.ntmps144 z (HS) <| sR <| ob _ z fun x => aC z z z z bN (fun _ => kp) fun A => oPP z <| nQ <| wz (fun (s : Int) (t : Bool) (m : Nat) (f : List Int) (g : Option Addr) (h : Nat) (o : List Nat) (j : Int) => St w k [b x 152 [S L p0.q_.length M, I J p0.c_], b A 152 [S N 0 0, I J 0], b m 152 [S g f.length h, I J j], W (af e8 5) o f [S g f.length h]]) (fun s t m f g h o j => [(1, I J p1), (2, I J p2), (3, O (U ⟨x, 0, N⟩)), (6, O (U ⟨A, 0, N⟩)), (9, O (U ⟨m, 0, N⟩)), (10, I J s), (11, B t)]) (fun s t m f g h o j => hI p0 p1 p2 s t f j = U r) (fun s t m f g h o j H => ?_) (fun J1 => ?_)
 ·unfold hI at H
  refine ak <| sR <| oPP z <| nQ <| cI H z (fun H => ?_) (fun H => ?_)
  ·refine sR <| o1 z (rx 0 0 _ z bN z) <| bE H fun l d1 H => aq z qv z z z z (fun d a => eX d d1 (a.carve [] z z) (bm (ab q d a) z)) fun e7 d w2 a b6 => ?_
   obtain ⟨C, e9, D, d2, rfl, P⟩ := b6
   obtain rfl := aH (i := 0) P z
   refine ⟨St w k [_, _, _, _, _], a.comp [] z z P, fun _ _ => Y, ?_⟩
   exact bM (e := eI) z z z z aO ty3 (fun _ => kp) fun Q => sC 0 [S C l.q_.length D, I J l.c_] [_, _] 1 z bN z <| oPP z <| nT <| ap <| aY (rs := [.cell 6 152, .tmp 7, .tmp 8]) (vs := [.agg #[S C l.q_.length D, I J l.c_], S (U ⟨Q, 0, N⟩) 0 0, B n]) z ⟨⟨_, [S C l.q_.length D, I J l.c_], _, _, _, z, bN, (bl (T := 152) 0 (bK (i := 1) z) z), z, z⟩, z, z, Y⟩ (fun w' hw' => by
    obtain rfl := ai H
    exact ⟨_, z, C, l.q_.length, D, d2, (U ⟨Q, 0, N⟩), 0, 0, [Q], z, hw'.sel [4, 5] z z⟩)
  ·refine aw <| az <| ak <| cW 5 [(0, y), (1, y), (2, y), (3, y), (4, n)] (St w k [b x 152 [S L p0.q_.length M, I J p0.c_], b A 152 [S N 0 0, I J 0], b m 152 [S g f.length h, I J j], W (af e8 5) o f [S g f.length h]]) bT (by kernel_rfl) (aV be) (tk 4 z) <| br z (ax z) (rx 0 2 _ z bN z) <| aa [.p, .p, .p] z <| bE H fun b2 d3 H => aq z Do z z z z (fun d a => rj d d3 (a.carve [] z z)) fun f0 d w2 a b7 => ?_
   obtain ⟨b3, f1, b4, d4, rfl, R⟩ := b7
   obtain rfl := aH (i := 0) R z
   refine ⟨St w k [_, _, _, _, _], a.comp [] z z R, (tk 4 z), ?_⟩
   exact aJ <| iY <| sC 0 [S g f.length h, I J j] [_, _] 1 z bN z <| oPP z <| nT <| aY (rs := [.cell 6 152, .tmp 7, .tmp 8]) (vs := [.agg #[S g f.length h, I J j], S b3 b2.length b4, B y]) z ⟨⟨_, [S g f.length h, I J j], _, _, _, z, bN, (bl (T := 152) 0 (bK (i := 1) z) z), z, z⟩, z, z, Y⟩ (fun w' hw' => by
    obtain rfl := ai H
    exact ⟨_, z, g, f.length, h, o, b3, b2.length, b4, d4, z, hw'.sel [3, 4] z z⟩)
 ·refine bE H fun d8 X H => bE H fun c u H => om 12 [(0, y), (1, y), (2, y)] (Br.alt 3 (Br.pre [] (Br.alt 4 (Br.pre [(5, y), (6, y), (7, y), (8, y), (9, n), (10, n), (11, y)] Br.done) (Br.pre [(9, n), (4, n), (5, y), (6, y), (7, y), (8, y), (10, n), (11, y)] Br.done))) (Br.pre [(9, n), (3, n), (4, n), (5, y), (6, y), (7, y), (8, y), (10, n), (11, y)] Br.done)) (St w k [b x 152 [S L p0.q_.length M, I J p0.c_], b A 152 [S N 0 0, I J 0]]) bT (by kernel_rfl) (aV be) (tk 2 z) <| br z (ax z) (rx 0 0 _ z bN z) <| oPP z <| aJ <| ei (tk 2 z) z ?_ ?_
  ·refine oq z (qc z wS (fun d a => jS d X)) (tk 2 z) <| aJ <| ei (tk 2 z) z ?_ ?_
   ·refine aq z yh z z z z (fun d a => lr d u (a.carve [] z z) (bm (ab q d a) z)) (fun d9 d w2 a a8 => ?_)
    obtain ⟨Z, e0, a2, b8, rfl, E⟩ := a8
    obtain rfl := aH (i := 0) E z
    refine ⟨St w k [_, _, _], a.comp [] z z E, (tk 2 z), ?_⟩
    exact aa [.p, .p, .p, .p] z <| aC z z z z bN (fun _ => (tk 2 z)) fun b9 => bo (off := 0) [S Z c.1.q_.length a2, I J c.1.c_] [_, _] (i := 3) z z z z z z bN z z (al z) z z z (tk 2 z) <| oP z <| aJ <| cK <| oP z <| ay <| XW.at (J1 (c.2.1) (c.2.2) (b9) (c.1.q_) (Z) (a2) (b8) (c.1.c_) (H)) (ss [0, 1, 3, 2] z z) (sb z)
   refine dB (tk 2 z) z <| aC z z z z bN (fun _ => (tk 2 z)) fun c2 => aq z yh z z z z (fun d a => lr d u (a.carve [] z z) (bm (ab q d a) z)) fun e1 d w2 a a9 => ?_
   obtain ⟨a3, e2, a4, c3, rfl, F⟩ := a9
   obtain rfl := aH (i := 0) F z
   refine ⟨St w k [_, _, _, _], a.comp [] z z F, (tk 2 z), ?_⟩
   exact aa [.p, .p, .p, .p] z <| bo (off := 0) [S a3 c.1.q_.length a4, I J c.1.c_] [_, _] (i := 2) z z z z z z bN z z (al z) z z z (tk 2 z) <| oP z <| aJ <| cK <| oP z <| ay <| XW.at (J1 (c.2.1) (c.2.2) (c2) (c.1.q_) (a3) (a4) (c3) (c.1.c_) (H)) (ss [0, 1, 2, 3] z z) (sb z)
  refine dB (tk 2 z) z <| aC z z z z bN (fun _ => (tk 2 z)) fun c4 => oq z (qc z wS (fun d a => jS d X)) (tk 2 z) <| aq z yh z z z z (fun d a => lr d u (a.carve [] z z) (bm (ab q d a) z)) fun e3 d w2 a b0 => ?_
  obtain ⟨a5, e4, a6, c5, rfl, G⟩ := b0
  obtain rfl := aH (i := 0) G z
  refine ⟨St w k [_, _, _, _], a.comp [] z z G, (tk 2 z), ?_⟩
  exact aa [.p, .p, .p, .p] z <| bo (off := 0) [S a5 c.1.q_.length a6, I J c.1.c_] [_, _] (i := 2) z z z z z z bN z z (al z) z z z (tk 2 z) <| oP z <| aJ <| cK <| oP z <| ay <| XW.at (J1 (c.2.1) (c.2.2) (c4) (c.1.q_) (a5) (a6) (c5) (c.1.c_) (H)) (ss [0, 1, 2, 3] z z) (sb z)
theorem pW (w : World) {p0 : List Int} {a_0 : Option Addr} {n_0 c_0 : Nat} {r : Int} (H : jg p0 = U r) (d : (af eI 3).rd w [] p0 [S a_0 n_0 c_0]) :
    Calls Tryz.prog 178 #[S a_0 n_0 c_0] w (fun en w' => en = .returned (I J r) ∧ Ext [] w w') := by
 obtain rfl := ee d
 unfold jg at H
 refine aG Tryz.func178 z Tryz.ntmps178 z (St.init w []) <| sR <| oP z <| nR <| oP z <| nQ <| ak <| sR <| oP z <| nQ <| aB <| CW.at (ic (fun (a : Int) (c : Int) => St w [] []) (fun a c => [(0, S a_0 p0.length c_0), (3, I J a), (4, I J c)]) (fun kk => fun a c => eo p0 kk a c = U r) (fun _ _ H => ?_) (fun q f a c H => ?_) bh ((-1)) (0) (H)) (ss [] z z) (sb z)
 ·unfold eo at H
  exact absurd H (by simp)
 ·unfold eo at H
  refine ak <| sR <| aa [.p, .p, .lenS 31 3 aO, .p] z <| nQ <| cI H z (fun H => ?_) (fun H => ?_)
  ·refine aw <| az <| ak <| aB <| ak <| dJ bT (by kernel_rfl) <| aa [.p, .p, .p] z <| bE H fun k g H => aQ [(23, B k), (0, S a_0 p0.length c_0), (3, I J a), (4, I J c)] 10 ?_ (fun key => OW.sub (R := [(0, S a_0 p0.length c_0), (3, I J a), (4, I J c), (13, B (decide (a < 0)))]) ?_ (sb z))
   ·refine cx <| az <| cI H z (fun H => ?_) (fun H => ?_)
    ·exact aT <| oPP z <| ay <| ca <| az <| aT <| aa [.p, .p, .p] z <| ay <| cQ (RW.at (f (c) (J.wrap (c + 1)) (H)) (ss [] z z) (sb z))
    ·exact aw <| ca <| az <| aT <| aa [.p, .p, .p] z <| ay <| cQ (RW.at (f (a) (J.wrap (c + 1)) (H)) (ss [] z z) (sb z))
   ·clear H
    have H := g
    clear g
    generalize (decide (a < 0)) = l at H key ⊢
    cases l
    ·have H := ba z H
     refine oPP z <| bE H fun m h H => bq (e := eI) (xs := p0) (j := c) z z z z z aO ty3 z (ab d) h (by rw [Nat.mul_one]) <| o1 z (aF z z ty3 (bC (ab d) h)) <| oPP z <| bE H fun o i H => bq (e := eI) (xs := p0) (j := a) z z z z z aO ty3 z (ab d) i (by rw [Nat.mul_one]) <| o1 z (aF z z ty3 (bC (ab d) i)) <| oP z <| oP z <| ?_
     obtain rfl := ai H
     exact OW.sub key (sb z)
    ·have H := bb z H
     refine aa [.p, .p, .p, .p, .p, .p, .p, .p, .p, .p] z ?_
     obtain rfl := ai H
     exact OW.sub key (sb z)
  ·exact bH <| aN <| aS <| aM <| az <| sR <| oPP z <| nT <| xr 2 z (by cases H; exact q1)
theorem iL (w : World) {p0 : ae} {p1 : av} {p2 : ar} {t : List Value} {u : List Value} {r : Int} (H : kh p0 p1 p2 = U r) (g0 : (aX).rd w [] p0 t) (g1 : (cn).rd w [] p1 u) :
    Calls Tryz.prog 161 #[.agg t.toArray, .agg u.toArray, .agg #[I J p2.g_, I J p2.c_]] w (fun en w' => en = .returned (I J r) ∧ Ext [] w w') := by
 obtain ⟨b4, b5, rfl, k, l⟩ := aI g0
 obtain ⟨Z, a0, rfl⟩ := am k
 obtain ⟨a1, a2, rfl⟩ := am l
 obtain ⟨b6, b7, rfl, v, x⟩ := aL g1
 obtain ⟨a3, a4, rfl⟩ := am v
 obtain ⟨a5, a6, rfl⟩ := am x
 unfold kh at H
 refine aG Tryz.func161 z Tryz.ntmps161 z (St.init w []) <| sR <| ob _ z fun A => ob _ z fun C => ob _ z fun D => oP z <| nR <| bM (e := eI) z z z z aO ty3 (fun _ => kp) fun E => oP z <| nQ <| ak <| sR <| oP z <| nQ <| aB <| CW.at (iz (fun (d : List Int) (f : Option Addr) (h : Nat) (j : List Nat) (g : Int) => St w [] [b A 27 [S Z p0.b_.length a0, S a1 p0.k_.length a2], b C 69 [S a3 p1.e_.length a4, S a5 p1.d_.length a6], b D 66 [I J p2.g_, I J p2.c_], W (af eI 3) j d [S f d.length h]]) (fun d f h j g => [(3, O (U ⟨A, 0, N⟩)), (4, O (U ⟨C, 0, N⟩)), (5, O (U ⟨D, 0, N⟩)), (7, S f d.length h), (8, I J g)]) (fun kk => fun d f h j g => f.isNone = n ∧ dS p0 p2 p1 kk d g = U r) (fun _ _ _ _ _ H => ?_) (fun k1 F d f h j g ⟨b1, H⟩ => ?_) bh (([] : List Int)) ((U ⟨E, 0, N⟩)) (0) ([E]) (0) (⟨z, H⟩)) (ss [0, 1, 2, 3] z z) (sb z)
 ·unfold dS at H
  exact absurd H (by simp)
 ·unfold dS at H
  refine ak <| sR <| oP z <| o1 z (rx 0 0 _ z bU z) <| o1 z (rx 0 2 _ z cH z) <| bE H fun b8 a7 H => oq z (qc z wq (fun c a => fP c (p1 := p2) a7 (ah (ab k c a) (ab l c a)))) tt2 <| oP z <| nQ <| cI H z (fun H => ?_) (fun H => ?_)
  ·refine aw <| az <| ak <| aB <| sR <| o1 z (rx 0 0 _ z bU z) <| o1 z (rx 0 1 _ z cP z) <| o1 z (rx 0 2 _ z cH z) <| oP z <| bE H fun b9 a8 H => aq z Bf z z z z (fun c a => lX c (p2 := p2) a8 (a.carve [] z z) (ah (ab k c a) (ab l c a)) (aE (ab v c a) (ab x c a))) fun c0 c w2 a G => ?_
   obtain ⟨c1, c2, c3, c4, rfl, m⟩ := G
   obtain rfl := aH (i := 0) m z
   refine ⟨St w [] [_, _, _, _, _], a.comp [] z z m, fun _ _ => Y, ?_⟩
   refine oP z <| nQ <| ak <| sR <| aa [.p, .lenS 31 3 aO, .p] z <| nQ <| cI H z (fun H => ?_) (fun H => ?_)
   ·exact sR <| oP z <| nT <| ap <| aP <| ap <| bZ <| aP <| ap <| xr 6 z (by cases H; exact q1)
   ·exact aw <| az <| aT <| oPP z <| bE H fun o L H => oq z (qc z xd (fun c a => lj c L (au (e := af eI 3) (r := 4) z c a))) tt2 <| bA (val := I J) (h1 := fun _ => z) [o] [(0, [I J o])] z z z z z aO ty3 z z z ⟨z, z, nl z, Y⟩ z z (fun _ => kp) fun b2 => bE H fun M q H => bY (r := 3) (ys := ([o] : List Int)) z z z z z z aO ty3 z z z (au (e := af eI 3) (r := 5) z) q (fun _ _ _ => kp) fun P Q R => cg z (fun c a => eD (i := 3) a z (eG q)) fun s => oP z <| ay <| ca <| az <| aT <| aa [.p, .p, .p] z <| ay <| cQ (RW.at (F (M) (P) (Q) (R) (J.wrap (g + 1)) (⟨s, H⟩)) (ss [0, 1, 2, 3] z z) (sb z))
  ·exact bH <| aN <| aS <| aM <| az <| sR <| oP z <| bE H fun b3 X H => oq z (qc z Bc (fun c a => pW c X (au (e := af eI 3) (r := 3) z c a))) tt2 <| oP z <| nT <| xr 6 z (by cases H; exact q1)
theorem eA (w : World) {j : List Nat} {p0 : av} {f : List Value} {r : av} (H : lG p0 = U r) (HS : St w j [] w) (t : (cn).rd w j p0 f) :
    Calls Tryz.prog 128 #[.agg f.toArray] w (fun en w' => ∃ v, en = .returned v ∧ ∃ (k : Option Addr), ∃ (l : Nat), ∃ (c0 : Nat), ∃ (u : List Nat), ∃ (m : Option Addr), ∃ (o : Nat), ∃ (c1 : Nat), ∃ (x : List Nat), v = .agg #[S k l c0, S m o c1] ∧ St w j [W (af eI 3) u r.e_ [S k l c0], W (af (af eI 3) 31) x r.d_ [S m o c1]] w') := by
 obtain ⟨A, C, rfl, g, p⟩ := aL t
 obtain ⟨D, E, rfl⟩ := am g
 obtain ⟨F, G, rfl⟩ := am p
 unfold lG at H
 exact aG Tryz.func128 z Tryz.ntmps128 z (HS) <| sR <| ob _ z fun L => aC z z z z cP (fun _ => kp) fun M => nR <| bM (e := eI) z z z z aO ty3 (fun _ => kp) fun P => aa [.fa 69 0 0 hG] z <| o1 z (r1 0 0 z cw z) <| bE H fun a q H => bY (r := 2) (ys := p0.e_) z z z z z z aO ty3 z z z (ab g) q (fun _ _ _ => kp) fun c d s => o1 z (bI [(0, [S c a.length d])] [S c a.length d, S N 0 0] z z cP zH z ⟨z, z, nl z, Y⟩ z) <| sC 0 [S c a.length d, S N 0 0] [_, _] 1 z cP z <| nT <| fo (fun _ h => St.pushNil (e := af eI 3) (T := 31) h) <| aY (rs := [.cell 2 69]) (vs := [.agg #[S c a.length d, S N 0 0]]) z ⟨⟨_, [S c a.length d, S N 0 0], _, _, _, z, cP, (bl (T := 69) 0 (bK (i := 1) z) z), z, z⟩, Y⟩ (fun w' hw' => by
  obtain rfl := ai H
  exact ⟨_, z, c, a.length, d, s, N, 0, 0, [], z, hw'.sel [2, 3] z z⟩)
end Go.Vk
