/- The code does what the functions of data say. Printed by program. -/
import Derived.Test.YtdckhcfbccnjiaaGreatDoorWTlC
namespace Go.Vk
open Value renaming int → I, slice → S, pointer → O, bool → B
open IntKind renaming i64 → J, u8 → K
open Bool renaming true → y, false → n
open Option renaming some → U, none → N
open Res renaming box → b, own → W
open Go.Proofs Go.RowKit
set_option maxHeartbeats 4000000
set_option maxRecDepth 100000
theorem rP (w : World) {D : List Nat} {p0 : ae} {p1 : aj} {p2 : Int} {p3 : ar} {p4 : List (List Int)} {L1 : List Value} {L2 : List Value} {a_4 : Option Addr} {n_4 c_4 : Nat} {r : aj × Bool} (H : kU p0 p1 p2 p3 p4 = U r) (HS : St w D [] w) (g0 : (aX).rd w D p0 L1) (g1 : (cU).rd w D p1 L2) (g4 : (af (af eI 3) 31).rd w D p4 [S a_4 n_4 c_4]) :
    Calls Tryz.prog 145 #[.agg L1.toArray, .agg L2.toArray, I J p2, .agg #[I J p3.g_, I J p3.c_], S a_4 n_4 c_4] w (fun en w' => ∃ v, en = .returned v ∧ ∃ (a0 : Option Addr), ∃ (n0 : Nat), ∃ (c0 : Nat), ∃ (F0 : List Nat), v = .tuple #[.agg #[S a0 n0 c0, I J r.1.j_], B r.2] ∧ St w D [W (af (aD) 71) F0 r.1.a_ [S a0 n0 c0]] w') := by
 obtain ⟨Fi, Fj, rfl, d3, d4⟩ := aI g0
 obtain ⟨q0, q2, rfl⟩ := am d3
 obtain ⟨q3, q4, rfl⟩ := am d4
 obtain ⟨Fk, Fl, rfl, d5, P8⟩ := cr g1
 obtain ⟨q5, q6, rfl⟩ := am d5
 obtain rfl := P8
 obtain rfl := ee g4
 unfold kU at H
 refine aG Tryz.func145 z Tryz.ntmps145 z (HS) <| sR <| ob _ z fun a1 => ob _ z fun a2 => ob _ z fun b0 => aC z z z z bv (fun _ => kp) fun a3 => oP z <| nR <| o1 z (rx 0 1 _ z bv z) <| bE H fun o P9 H => aq z tY z z z z (fun m c => ik m P9 (c.carve [] z z) (aU (ab d5 m c) z)) fun Fm m w2 c L5 => ?_
 obtain ⟨a4, Fn, a5, n5, rfl, t5⟩ := L5
 obtain rfl := aH (i := 0) t5 z
 refine ⟨St w D [_, _, _, _, _], c.comp [] z z t5, fun _ _ => Y, ?_⟩
 refine aC z z z z bv (fun _ => kp) fun a6 => sC 0 [S a4 o.a_.length a5, I J o.j_] [_, _] 5 z bv z <| nQ <| ak <| sR <| o1 z (rx 0 0 _ z bU z) <| o1 z (rx 0 1 _ z bv z) <| bE H fun L3 Q0 H => oq z (qc z fn8 (fun m c => iN m Q0 (ah (ab d3 m c) (ab d4 m c)) (aU (ab d5 m c) z))) tt2 <| oPP z <| bE H fun t6 t7 H => aQ [(30, B t6), (2, I J p2), (4, S a_4 p4.length c_4), (5, O (U ⟨a1, 0, N⟩)), (6, O (U ⟨a2, 0, N⟩)), (8, O (U ⟨b0, 0, N⟩)), (10, O (U ⟨a3, 0, N⟩)), (12, O (U ⟨a6, 0, N⟩))] 8 ?_ (fun key => OW.sub (R := [(2, I J p2), (4, S a_4 p4.length c_4), (5, O (U ⟨a1, 0, N⟩)), (6, O (U ⟨a2, 0, N⟩)), (8, O (U ⟨b0, 0, N⟩)), (10, O (U ⟨a3, 0, N⟩)), (12, O (U ⟨a6, 0, N⟩)), (22, B (!L3))]) ?_ (sb z))
 ·refine oP z <| bE H fun t8 t9 H => aQ [(39, B t8), (2, I J p2), (4, S a_4 p4.length c_4), (5, O (U ⟨a1, 0, N⟩)), (6, O (U ⟨a2, 0, N⟩)), (8, O (U ⟨b0, 0, N⟩)), (10, O (U ⟨a3, 0, N⟩)), (12, O (U ⟨a6, 0, N⟩))] 8 ?_ (fun key => OW.sub (R := [(2, I J p2), (4, S a_4 p4.length c_4), (5, O (U ⟨a1, 0, N⟩)), (6, O (U ⟨a2, 0, N⟩)), (8, O (U ⟨b0, 0, N⟩)), (10, O (U ⟨a3, 0, N⟩)), (12, O (U ⟨a6, 0, N⟩)), (31, B t6)]) ?_ (sb z))
  ·refine oP z <| bE H fun u0 r2 H => aQ [(50, B u0), (2, I J p2), (4, S a_4 p4.length c_4), (5, O (U ⟨a1, 0, N⟩)), (6, O (U ⟨a2, 0, N⟩)), (8, O (U ⟨b0, 0, N⟩)), (10, O (U ⟨a3, 0, N⟩)), (12, O (U ⟨a6, 0, N⟩))] 10 ?_ (fun key => OW.sub (R := [(2, I J p2), (4, S a_4 p4.length c_4), (5, O (U ⟨a1, 0, N⟩)), (6, O (U ⟨a2, 0, N⟩)), (8, O (U ⟨b0, 0, N⟩)), (10, O (U ⟨a3, 0, N⟩)), (12, O (U ⟨a6, 0, N⟩)), (40, B t8)]) ?_ (sb z))
   ·refine oP z <| bE H fun q9 r3 H => aQ [(56, B q9), (2, I J p2), (4, S a_4 p4.length c_4), (5, O (U ⟨a1, 0, N⟩)), (6, O (U ⟨a2, 0, N⟩)), (8, O (U ⟨b0, 0, N⟩)), (10, O (U ⟨a3, 0, N⟩)), (12, O (U ⟨a6, 0, N⟩))] 5 ?_ (fun key => OW.sub (R := [(2, I J p2), (4, S a_4 p4.length c_4), (5, O (U ⟨a1, 0, N⟩)), (6, O (U ⟨a2, 0, N⟩)), (8, O (U ⟨b0, 0, N⟩)), (10, O (U ⟨a3, 0, N⟩)), (12, O (U ⟨a6, 0, N⟩)), (51, B u0)]) ?_ (sb z))
    ·refine oP z <| bE H fun L6 r4 H => aQ [(64, B L6), (2, I J p2), (4, S a_4 p4.length c_4), (5, O (U ⟨a1, 0, N⟩)), (6, O (U ⟨a2, 0, N⟩)), (8, O (U ⟨b0, 0, N⟩)), (10, O (U ⟨a3, 0, N⟩)), (12, O (U ⟨a6, 0, N⟩))] 7 ?_ (fun key => OW.sub (R := [(2, I J p2), (4, S a_4 p4.length c_4), (5, O (U ⟨a1, 0, N⟩)), (6, O (U ⟨a2, 0, N⟩)), (8, O (U ⟨b0, 0, N⟩)), (10, O (U ⟨a3, 0, N⟩)), (12, O (U ⟨a6, 0, N⟩)), (57, B q9)]) ?_ (sb z))
     ·refine nQ <| cI H z (fun H => ?_) (fun H => ?_)
      ·exact sR <| o1 z (rx 0 5 _ z bv z) <| sC 0 [S a4 o.a_.length a5, I J o.j_] [_, _] 3 z bv z <| oP z <| nT <| ap <| aY (rs := [.cell 10 30, .tmp 11]) (vs := [.agg #[S a4 o.a_.length a5, I J o.j_], B n]) z ⟨⟨_, [S a4 o.a_.length a5, I J o.j_], _, _, _, z, bv, (bl (T := 30) 0 (bK (i := 3) z) z), z, z⟩, z, Y⟩ (fun w' hw' => by
        obtain rfl := ai H
        exact ⟨_, z, a4, o.a_.length, a5, n5, z, hw'.sel [4] z z⟩)
      ·refine aw <| az <| ak <| sR <| oP z <| nQ <| aB <| CW.at (fL (fun (e9 : Int) => St w D [b a3 30 [S N 0 0, I J 0], b a6 30 [S a4 o.a_.length a5, I J o.j_], W (af (aD) 71) n5 o.a_ [S a4 o.a_.length a5], b a1 27 [S q0 p0.b_.length q2, S q3 p0.k_.length q4], b a2 30 [S q5 p1.a_.length q6, I J p1.j_], b b0 66 [I J p3.g_, I J p3.c_]]) (fun e9 => [(2, I J p2), (4, S a_4 p4.length c_4), (5, O (U ⟨a1, 0, N⟩)), (6, O (U ⟨a2, 0, N⟩)), (8, O (U ⟨b0, 0, N⟩)), (10, O (U ⟨a3, 0, N⟩)), (12, O (U ⟨a6, 0, N⟩)), (13, I J e9)]) (fun kk => fun e9 => ex p4 p0 o p1 p2 p3 kk e9 = U r) (fun _ H => ?_) (fun k1 L7 e9 H => ?_) bh (0) (H)) (ss [3, 5, 4, 0, 1, 2] z z) (sb z)
       ·unfold ex at H
        exact absurd H (by simp)
       ·unfold ex at H
        refine ak <| sR <| aa [.p, .p, .lenS 67 31 gL, .p] z <| nQ <| cI H z (fun H => ?_) (fun H => ?_)
        ·refine aw <| az <| ak <| aB <| ak <| dJ bT (by kernel_rfl) <| o1 z (rx 0 3 _ z bU z) <| oPP z <| bE H fun Er L8 H => cB z z z z z gL cw z g4 L8 fun Es Et r5 x3 => ?_
         obtain ⟨Eu, Ev, rfl⟩ := am r5
         refine o1 z (aF z z cw (co bor x3)) <| bE H fun Ew L9 H => oq z (qc z xE (fun m c => im m L9 (ah (ab d3 m c) (ab d4 m c)) (ab r5 m c))) tt2 <| oP z <| cx <| az <| cI H z (fun H => ?_) (fun H => ?_)
         ·exact sR <| o1 z (rx 0 1 _ z bv z) <| sC 0 [S a4 o.a_.length a5, I J o.j_] [_, _] 0 z bv z <| oP z <| nT <| aP <| ap <| bZ <| aP <| ap <| aY (rs := [.cell 10 30, .tmp 11]) (vs := [.agg #[S a4 o.a_.length a5, I J o.j_], B n]) z ⟨⟨_, [S a4 o.a_.length a5, I J o.j_], _, _, _, z, bv, (bl (T := 30) 0 (bK (i := 0) z) z), z, z⟩, z, Y⟩ (fun w' hw' => by
           obtain rfl := ai H
           exact ⟨_, z, a4, o.a_.length, a5, n5, z, hw'.sel [2] z z⟩)
         ·exact aw <| ca <| az <| aT <| aa [.p, .p, .p] z <| ay <| cQ (RW.at (L7 (J.wrap (e9 + 1)) (H)) (ss [0, 1, 2, 3, 4, 5] z z) (sb z))
        ·refine bH <| aN <| aS <| aM <| az <| ak <| sR <| aa [.fa 30 0 0 cb] z <| o1 z (r1 0 4 z ef z) <| oP z <| bE H fun r0 M1 H => cB z z z z z dZ cc z d5 M1 fun Ex Ey x5 x6 => ?_
         obtain ⟨Ez, EA, EB, EC, ED, EE, EF, EG, EH, EI, rfl, M2, M3, M4, M5, M6, M7, M8, M9, N0, N1⟩ := bn x5
         obtain rfl := M2
         obtain rfl := M3
         obtain ⟨EJ, EK, rfl⟩ := am M4
         obtain rfl := M5
         obtain ⟨EL, EM, rfl, N2, N3⟩ := aL M6
         obtain ⟨EN, EO, rfl⟩ := am N2
         obtain ⟨EP, EQ, rfl⟩ := am N3
         obtain rfl := M7
         obtain ⟨ER, ES, rfl⟩ := am M8
         obtain rfl := M9
         obtain rfl := N0
         obtain rfl := N1
         refine aa [.fa 71 7 9 ke] z <| o1 z (aF z z ty3 (co bor (lk x6 9 1))) <| oPP z <| aQ [(95, B ((r0.m_ == 6) || (decide ((J.wrap ((p1.a_.length : Int) + (p4.length : Int))) > 31)))), (2, I J p2), (4, S a_4 p4.length c_4), (5, O (U ⟨a1, 0, N⟩)), (6, O (U ⟨a2, 0, N⟩)), (8, O (U ⟨b0, 0, N⟩)), (10, O (U ⟨a3, 0, N⟩)), (12, O (U ⟨a6, 0, N⟩))] 8 ?_ (fun key => OW.sub (R := [(2, I J p2), (4, S a_4 p4.length c_4), (5, O (U ⟨a1, 0, N⟩)), (6, O (U ⟨a2, 0, N⟩)), (8, O (U ⟨b0, 0, N⟩)), (10, O (U ⟨a3, 0, N⟩)), (12, O (U ⟨a6, 0, N⟩)), (87, B (r0.m_ == 6))]) ?_ (sb z))
         ·refine nQ <| cI H z (fun H => ?_) (fun H => ?_)
          ·exact sR <| o1 z (rx 0 1 _ z bv z) <| sC 0 [S a4 o.a_.length a5, I J o.j_] [_, _] 0 z bv z <| oP z <| nT <| ap <| aY (rs := [.cell 10 30, .tmp 11]) (vs := [.agg #[S a4 o.a_.length a5, I J o.j_], B n]) z ⟨⟨_, [S a4 o.a_.length a5, I J o.j_], _, _, _, z, bv, (bl (T := 30) 0 (bK (i := 0) z) z), z, z⟩, z, Y⟩ (fun w' hw' => by
            obtain rfl := ai H
            exact ⟨_, z, a4, o.a_.length, a5, n5, z, hw'.sel [2] z z⟩)
          ·refine aw <| az <| yO (fun (d6 : Nat) (c3 : Int) (Q : List Int) (c4 : Option Addr) (c5 : Nat) (f0 : List Nat) (X : List (List Int)) (c6 : Option Addr) (c7 : Nat) (f1 : List Nat) (Z : List Int) (c8 : Option Addr) (c9 : Nat) (f2 : List Nat) (x : Int) (d0 : Int) (d1 : Int) => St w D [b a3 30 [S N 0 0, I J 0], b a6 30 [S a4 o.a_.length a5, I J o.j_], W (af (aD) 71) n5 o.a_ [S a4 o.a_.length a5], b d6 71 [B n, I J p3.g_, I J p3.c_, S N 0 0, I J c3, S c4 Q.length c5, S c6 X.length c7, I J 0, S c8 Z.length c9, I J x, I J d0, I J d1], W (af eI 3) f0 Q [S c4 Q.length c5], W (af (af eI 3) 31) f1 X [S c6 X.length c7], W (af eI 3) f2 Z [S c8 Z.length c9], b a1 27 [S q0 p0.b_.length q2, S q3 p0.k_.length q4], b a2 30 [S q5 p1.a_.length q6, I J p1.j_]]) (fun d6 c3 Q c4 c5 f0 X c6 c7 f1 Z c8 c9 f2 x d0 d1 => [(2, I J p2), (4, S a_4 p4.length c_4), (5, O (U ⟨a1, 0, N⟩)), (6, O (U ⟨a2, 0, N⟩)), (10, O (U ⟨a3, 0, N⟩)), (12, O (U ⟨a6, 0, N⟩)), (14, O (U ⟨d6, 0, N⟩))]) (fun d6 c3 Q c4 c5 f0 X c6 c7 f1 Z c8 c9 f2 x d0 d1 => kt p4 p0 p2 p1 p3 o c3 Q X Z x d0 d1 = U r) (fun d6 c3 Q c4 c5 f0 X c6 c7 f1 Z c8 c9 f2 x d0 d1 H => ?_) (fun J1 => ?_)
           ·unfold kt at H
            refine ak <| sR <| oP z <| nQ <| aB <| CW.weak ?_ (fun _ h => St.pushNil (e := eI) (T := 3) h)
            refine CW.at (BV (fun (s : List aR) (a7 : Option Addr) (a8 : Nat) (e3 : List Nat) (b1 : List Int) (d7 : Option Addr) (d8 : Nat) (f3 : List Nat) (d2 : Int) => St w D [b a3 30 [S N 0 0, I J 0], b a6 30 [S a7 s.length a8, I J o.j_], W (af (aD) 71) e3 s [S a7 s.length a8], b d6 71 [B n, I J p3.g_, I J p3.c_, S d7 b1.length d8, I J c3, S c4 Q.length c5, S c6 X.length c7, I J 0, S c8 Z.length c9, I J x, I J d0, I J d1], W (af eI 3) f3 b1 [S d7 b1.length d8], W (af eI 3) f0 Q [S c4 Q.length c5], W (af (af eI 3) 31) f1 X [S c6 X.length c7], W (af eI 3) f2 Z [S c8 Z.length c9], b a1 27 [S q0 p0.b_.length q2, S q3 p0.k_.length q4], b a2 30 [S q5 p1.a_.length q6, I J p1.j_]]) (fun s a7 a8 e3 b1 d7 d8 f3 d2 => [(2, I J p2), (4, S a_4 p4.length c_4), (5, O (U ⟨a1, 0, N⟩)), (6, O (U ⟨a2, 0, N⟩)), (10, O (U ⟨a3, 0, N⟩)), (12, O (U ⟨a6, 0, N⟩)), (14, O (U ⟨d6, 0, N⟩)), (15, I J d2)]) (fun kk => fun s a7 a8 e3 b1 d7 d8 f3 d2 => er p4 p0 x p2 p1 p3 c3 Q X Z d0 d1 o kk s b1 d2 = U r) (fun _ _ _ _ _ _ _ _ _ H => ?_) (fun k2 u1 s a7 a8 e3 b1 d7 d8 f3 d2 H => ?_) bh (o.a_) (a4) (a5) (n5) (([] : List Int)) (N) (0) ([]) (0) (H)) (ss [0, 1, 2, 3, 9, 4, 5, 6, 7, 8] z z) (sb z)
            ·unfold er at H
             exact absurd H (by simp)
            ·unfold er at H
             refine ak <| sR <| aa [.p, .p, .lenS 67 31 gL, .p] z <| nQ <| cI H z (fun H => ?_) (fun H => ?_)
             ·refine aw <| az <| ak <| aB <| sR <| aa [.fa 71 2 3 gV] z <| o1 z (r1 3 3 z cw z) <| aa [.fa 30 0 0 cb] z <| o1 z (r1 0 1 z ef z) <| aa [.lenS 28 71 dZ] z <| bA (val := I J) (h1 := fun _ => z) [(s.length : Int)] [(0, [I J (s.length : Int)])] z z z z z aO ty3 z z z ⟨z, z, nl z, Y⟩ z z (fun _ => kp) fun r6 => bE H fun d9 r7 H => bY (r := 4) (ys := ([(s.length : Int)] : List Int)) z z z z z z aO ty3 z z z (au (e := af eI 3) (r := 10) z) r7 (fun _ _ _ => kp) fun e4 e5 p6 => cg z (fun m c => eD (i := 4) c z (eG r7)) fun Q1 => aa [.fa 71 2 3 gV] z <| sC 3 [S e4 d9.length e5] [_, _, _, _, _, _, _, _, _, _, _, _] 3 z cw z <| nQ <| bE H fun r8 x8 H => bE H fun t r9 H => bE H fun b2 s0 H => om 18 [(0, y), (1, y), (2, y), (5, y), (6, y), (7, y), (8, y), (10, y), (11, y), (12, y), (13, y), (14, y), (15, y)] (Br.alt 3 (Br.pre [(4, n), (9, n), (16, y), (17, n)] Br.done) (Br.pre [(4, n), (3, n), (9, n), (16, y), (17, n)] Br.done)) (St w D [b a3 30 [S N 0 0, I J 0], b a6 30 [S a7 s.length a8, I J o.j_], W (af (aD) 71) e3 s [S a7 s.length a8], b d6 71 [B n, I J p3.g_, I J p3.c_, S e4 d9.length e5, I J c3, S c4 Q.length c5, S c6 X.length c7, I J 0, S c8 Z.length c9, I J x, I J d0, I J d1], W (af eI 3) p6 d9 [S e4 d9.length e5], W (af eI 3) f0 Q [S c4 Q.length c5], W (af (af eI 3) 31) f1 X [S c6 X.length c7], W (af eI 3) f2 Z [S c8 Z.length c9], b a1 27 [S q0 p0.b_.length q2, S q3 p0.k_.length q4], b a2 30 [S q5 p1.a_.length q6, I J p1.j_], W (af eI 3) [r6] ([(s.length : Int)] : List Int) [S (U ⟨r6, 0, N⟩) (([(s.length : Int)] : List Int).length) 1]]) bT (by kernel_rfl) (bF (aV (fe (bF (aV be))))) (tk 11 z) <| aa [.fa 30 0 0 cb] z <| br z (ax z) (r1 0 1 z ef z) <| br z (ax z) (rx 0 8 _ z bU z) <| oPP z <| cB z z z z z gL cw z g4 x8 fun R9 S0 n6 u2 => ?_
              obtain ⟨S1, S2, rfl⟩ := am n6
              refine br z (ax z) (aF z z cw (co (fun _ h => h.ext) u2)) <| aa [.fa 71 7 9 ke] z <| br z (ax z) (r1 9 3 z ty3 z) <| aa [.p, .p, .fa 30 1 1 mo] z <| br z (ax z) (r1 1 9 z ty3 z) <| aJ <| ei (tk 11 z) z ?_ ?_
              ·refine aq z wR z z z z (fun m c => jZ m r9 (c.carve [] z z) (ah (ab d3 m c) (ab d4 m c))) (fun S3 m w2 c u3 => ?_)
               obtain ⟨f4, S4, f5, S5, f6, S6, f7, S7, rfl, n7⟩ := u3
               obtain rfl := aH (i := 0) n7 z
               obtain rfl := aH (i := 1) n7 z
               refine ⟨St w D [_, _, _, _, _, _, _, _, _, _, _, _, _], c.comp [] z z n7, (tk 11 z), ?_⟩
               refine bM (e := eI) z z z z aO ty3 (fun _ => (tk 11 z)) fun S8 => bY (r := 13) (ys := r8) z z z z z z aO ty3 z z z (ab n6) s0 (fun _ _ _ => (tk 11 z)) fun f8 f9 S9 => br z (ax z) (bI [(0, [B y]), (5, [S f4 t.e_.length f5, S f6 t.d_.length f7]), (8, [S f8 b2.length f9]), (9, [I J (J.wrap (x + 1))]), (10, [I J p2]), (11, [I J p1.j_])] [B y, I J 0, I J 0, S N 0 0, I J 0, S f4 t.e_.length f5, S f6 t.d_.length f7, I J 0, S f8 b2.length f9, I J (J.wrap (x + 1)), I J p2, I J p1.j_] z z cc oQ z ⟨z, z, nl z, z, z, nl z, z, z, nl z, z, z, nl z, z, z, nl z, z, z, nl z, Y⟩ z) <| eU z (fun _ h => St.pushNil (e := eI) (T := 3) h) <| qB z (fun m c => cz (x0 := y) (x1 := 0) (x2 := 0) (x4 := 0) (x7 := 0) (x9 := J.wrap (x + 1)) (x10 := p2) (x11 := p1.j_) [14, 11, 12, 13] c z z) fun T0 => eU (C' := St w D [_, _, _, _, _, _, _, _, _, _, _, _, _, _, _, _]) z (fun _ h => h) <| il [(0, [B y, I J 0, I J 0, S N 0 0, I J 0, S f4 t.e_.length f5, S f6 t.d_.length f7, I J 0, S f8 b2.length f9, I J (J.wrap (x + 1)), I J p2, I J p1.j_])] z z z z z dZ cc z z ⟨z, z, nl z, Y⟩ [B y, I J 0, I J 0, S N 0 0, I J 0, S f4 t.e_.length f5, S f6 t.d_.length f7, I J 0, S f8 b2.length f9, I J (J.wrap (x + 1)), I J p2, I J p1.j_] z (fun _ => (tk 11 z)) fun T1 => eU z (fun _ h => tz (p := 16) (q := 15) h z z z) <| aJ <| cK <| bE H fun s1 y0 H => mz (r := 2) (j := 17) z z z z z z dZ cc z z z z z z z y0 (fun _ _ _ => kp) fun s2 s3 y1 => aa [.fa 30 0 0 cb] z <| sC 0 [S s2 s1.length s3] [_, _] 1 z ef z <| ay <| ca <| az <| CW.weak (C' := St w D [_, _, _, _, _, _, _, _, _, _, _]) ?_ (ss [0, 1, 3, 4, 5, 6, 7, 8, 9, 10, 18] z z)
               exact aT <| aa [.p, .p, .p] z <| ay <| cQ (RW.at (u1 (s1) (s2) (s3) (y1) (d9) (e4) (e5) (p6) (J.wrap (d2 + 1)) (H)) (ss [0, 1, 10, 2, 3, 4, 5, 6, 7, 8] z z) (sb z))
              refine dB (tk 11 z) z <| bM (e := eI) z z z z aO ty3 (fun _ => (tk 11 z)) fun T2 => aq z wR z z z z (fun m c => jZ m r9 (c.carve [] z z) (ah (ab d3 m c) (ab d4 m c))) fun T3 m w2 c u4 => ?_
              obtain ⟨g2, T4, g3, T5, g5, T6, g6, T7, rfl, n8⟩ := u4
              obtain rfl := aH (i := 0) n8 z
              obtain rfl := aH (i := 1) n8 z
              refine ⟨St w D [_, _, _, _, _, _, _, _, _, _, _, _, _, _], c.comp [] z z n8, (tk 11 z), ?_⟩
              refine bY (r := 11) (ys := r8) z z z z z z aO ty3 z z z (ab n6) s0 (fun _ _ _ => (tk 11 z)) fun g7 g8 T8 => br z (ax z) (bI [(0, [B y]), (5, [S g2 t.e_.length g3, S g5 t.d_.length g6]), (8, [S g7 b2.length g8]), (9, [I J (J.wrap (x + 1))]), (10, [I J p2]), (11, [I J p1.j_])] [B y, I J 0, I J 0, S N 0 0, I J 0, S g2 t.e_.length g3, S g5 t.d_.length g6, I J 0, S g7 b2.length g8, I J (J.wrap (x + 1)), I J p2, I J p1.j_] z z cc oQ z ⟨z, z, nl z, z, z, nl z, z, z, nl z, z, z, nl z, z, z, nl z, z, z, nl z, Y⟩ z) <| eU z (fun _ h => St.pushNil (e := eI) (T := 3) h) <| qB z (fun m c => cz (x0 := y) (x1 := 0) (x2 := 0) (x4 := 0) (x7 := 0) (x9 := J.wrap (x + 1)) (x10 := p2) (x11 := p1.j_) [14, 12, 13, 11] c z z) fun T9 => eU (C' := St w D [_, _, _, _, _, _, _, _, _, _, _, _, _, _, _, _]) z (fun _ h => h) <| il [(0, [B y, I J 0, I J 0, S N 0 0, I J 0, S g2 t.e_.length g3, S g5 t.d_.length g6, I J 0, S g7 b2.length g8, I J (J.wrap (x + 1)), I J p2, I J p1.j_])] z z z z z dZ cc z z ⟨z, z, nl z, Y⟩ [B y, I J 0, I J 0, S N 0 0, I J 0, S g2 t.e_.length g3, S g5 t.d_.length g6, I J 0, S g7 b2.length g8, I J (J.wrap (x + 1)), I J p2, I J p1.j_] z (fun _ => (tk 11 z)) fun U0 => eU z (fun _ h => tz (p := 16) (q := 15) h z z z) <| aJ <| cK <| bE H fun s4 y2 H => mz (r := 2) (j := 17) z z z z z z dZ cc z z z z z z z y2 (fun _ _ _ => kp) fun s5 s6 y3 => aa [.fa 30 0 0 cb] z <| sC 0 [S s5 s4.length s6] [_, _] 1 z ef z <| ay <| ca <| az <| CW.weak (C' := St w D [_, _, _, _, _, _, _, _, _, _, _]) ?_ (ss [0, 1, 3, 4, 5, 6, 7, 8, 9, 10, 18] z z)
              exact aT <| aa [.p, .p, .p] z <| ay <| cQ (RW.at (u1 (s4) (s5) (s6) (y3) (d9) (e4) (e5) (p6) (J.wrap (d2 + 1)) (H)) (ss [0, 1, 10, 2, 3, 4, 5, 6, 7, 8] z z) (sb z))
             ·refine bH <| aN <| aS <| aM <| az <| sR <| aa [.fa 30 0 0 cb] z <| o1 z (r1 0 1 z ef z) <| oP z <| o1 z (rx 0 3 _ z cc z) <| bE H fun U1 s7 H => nB z (fun m c => foc (r := 2) c z s7) fun U2 U3 U4 U5 => cg z (fun m c => c.1) fun y4 => ?_
              obtain ⟨q7, q8⟩ := y4
              refine eU (C' := St w D [_, _, _, _, _, _, _, _, _, _, _, _]) z (fun m c => c.2) <| dH z (fun m c => dy (i := 11) c z) fun U6 U7 U8 => dH z (fun _ h => h) fun U9 V0 V1 => dH z (fun _ h => h) fun V2 V3 V4 => dH z (fun _ h => h) fun V5 V6 V7 => cg z (fun m c => c.1) fun y5 => ?_
              subst y5
              refine eU (C' := St w D [_, _, _, _, _, _, _, _, _, _, _, _, _, _, _, _]) z (fun m c => c.2) <| ii z z z z z dZ cc z (gp (p := 10) z) q8 q7 (dg s7).1 <| fQ (off := 0) [B n, I J p3.g_, I J p3.c_, S d7 b1.length d8, I J c3, S c4 Q.length c5, S c6 X.length c7, I J 0, S c8 Z.length c9, I J x, I J d0, I J d1] (p := 10) (c' := [_, _, _, _, _, _, _, _, _, _, _, _]) z z z z z (by first | rfl | simp only [dG, eg, dD]) z cc z z (al z) z z z kp <| nQ <| ak <| CW.weak (C' := St w D [_, _, _, _, _, _, _, _, _, _, _, _, _, _]) ?_ (ss [0, 1, 3, 4, 5, 6, 7, 8, 9, 10, 12, 13, 14, 15] z z)
              exact aT <| o1 z (rx 0 1 _ z bv z) <| sC 0 [S a7 s.length a8, I J o.j_] [_, _] 0 z bv z <| oP z <| nT <| gW (fun m c => cz (x0 := n) (x1 := p3.g_) (x2 := p3.c_) (x4 := c3) (x7 := 0) (x9 := x) (x10 := d0) (x11 := d1) [3, 4, 5, 6] c z z) fun V8 => fo (C' := St w D [_, _, _, _, _, _, _, _, _, _, _, _, _, _, _]) (fun _ h => h) <| gW (fun m c => unf (p := 9) (q := 14) c z z z q8 q7) fun y6 => fo (C' := St w D [_, _, _, _, _, _, _, _, _, _, _, _, _, _, _, _]) (fun _ h => h) <| aY (rs := [.cell 10 30, .tmp 11]) (vs := [.agg #[S a7 s.length a8, I J o.j_], B y]) z ⟨⟨_, [S a7 s.length a8, I J o.j_], _, _, _, z, bv, (bl (T := 30) 0 (bK (i := 0) z) z), z, z⟩, z, Y⟩ (fun w' hw' => by
               obtain rfl := ai H
               exact ⟨_, z, a7, s.length, a8, y6, z, hw'.sel [15] z z⟩)
           ·refine bE H fun s8 y7 H => bE H fun s9 y8 H => bE H fun A y9 H => bE H fun d z0 H => bE H fun f z1 H => bE H fun g z2 H => bE H fun k e6 H => bE H fun a a9 H => bE H fun l C H => om 45 [(0, y), (1, y), (2, y), (3, y), (4, y), (5, y), (6, y), (7, y), (8, y), (10, y), (11, y), (12, y), (13, y), (14, y), (15, y), (18, y), (19, y), (20, y), (21, y), (22, y), (23, y), (25, y), (26, y), (27, y), (28, y), (29, y), (30, y), (31, y), (32, y), (33, y), (34, y), (35, y), (36, y), (37, y), (38, y), (39, y), (40, y), (41, y), (42, y)] (Br.alt 9 (Br.pre [] (Br.alt 16 (Br.pre [] (Br.alt 17 (Br.pre [] (Br.alt 24 (Br.pre [(43, y), (44, n)] Br.done) (Br.pre [(44, n), (24, n), (43, y)] Br.done))) (Br.pre [(44, n), (17, n), (24, n), (43, y)] Br.done))) (Br.alt 17 (Br.pre [] (Br.alt 16 (Br.pre [] (Br.alt 24 (Br.pre [(43, y), (44, n)] Br.done) (Br.pre [(44, n), (24, n), (43, y)] Br.done))) (Br.pre [(44, n), (16, n), (24, n), (43, y)] Br.done))) (Br.pre [(44, n)] (Br.alt 16 (Br.pre [(17, n), (24, n), (43, y)] Br.done) (Br.pre [(17, n), (16, n), (24, n), (43, y)] Br.done)))))) (Br.alt 17 (Br.pre [] (Br.alt 9 (Br.pre [] (Br.alt 16 (Br.pre [] (Br.alt 24 (Br.pre [(43, y), (44, n)] Br.done) (Br.pre [(44, n), (24, n), (43, y)] Br.done))) (Br.pre [(44, n), (16, n), (24, n), (43, y)] Br.done))) (Br.pre [(44, n), (9, n), (16, n), (24, n), (43, y)] Br.done))) (Br.pre [(44, n)] (Br.alt 9 (Br.pre [] (Br.alt 16 (Br.pre [(17, n), (24, n), (43, y)] Br.done) (Br.pre [(17, n), (16, n), (24, n), (43, y)] Br.done))) (Br.pre [(17, n), (9, n), (16, n), (24, n), (43, y)] Br.done))))) (St w D [b a3 30 [S N 0 0, I J 0], b a6 30 [S a4 o.a_.length a5, I J o.j_], W (af (aD) 71) n5 o.a_ [S a4 o.a_.length a5], b a1 27 [S q0 p0.b_.length q2, S q3 p0.k_.length q4], b a2 30 [S q5 p1.a_.length q6, I J p1.j_], b b0 66 [I J p3.g_, I J p3.c_]]) bT (by kernel_rfl) (aV be) (tk 6 z) <| br z (ax z) (rx 0 5 _ z cH z) <| br z (ax z) (rx 0 3 _ z bU z) <| aa [.fa 30 0 0 cb] z <| br z (ax z) (r1 0 4 z ef z) <| oP z <| cB z z z z z dZ cc z d5 y7 fun V9 W0 u5 u6 => ?_
            obtain ⟨W1, W2, W3, W4, W5, W6, W7, W8, W9, X0, rfl, z3, z4, z5, z6, z7, z8, z9, A0, A1, A2⟩ := bn u5
            obtain rfl := z3
            obtain rfl := z4
            obtain ⟨X1, X2, rfl⟩ := am z5
            obtain rfl := z6
            obtain ⟨X3, X4, rfl, e0, e1⟩ := aL z7
            obtain ⟨A3, A4, rfl⟩ := am e0
            obtain ⟨A5, A6, rfl⟩ := am e1
            obtain rfl := z8
            obtain ⟨X5, X6, rfl⟩ := am z9
            obtain rfl := A0
            obtain rfl := A1
            obtain rfl := A2
            refine aa [.fa 71 4 5 eR] z <| br z (ax z) (cV (cs := [S A3 s8.n_.e_.length A4, S A5 s8.n_.d_.length A6]) z z cP (co (fun _ h => h.ext) (lk u6 5 2)) z) <| br z (ax z) (rx 0 5 _ z cH z) <| aa [.fa 30 0 0 cb] z <| br z (ax z) (r1 0 4 z ef z) <| oP z <| cB z z z z z dZ cc z d5 y8 fun X7 X8 u7 u8 => ?_
            obtain ⟨X9, Y0, Y1, Y2, Y3, Y4, Y5, Y6, Y7, Y8, rfl, A7, A8, A9, B0, B1, B2, B3, B4, B5, B6⟩ := bn u7
            obtain rfl := A7
            obtain rfl := A8
            obtain ⟨Y9, Z0, rfl⟩ := am A9
            obtain rfl := B0
            obtain ⟨Z1, Z2, rfl, E, F⟩ := aL B1
            obtain ⟨B7, B8, rfl⟩ := am E
            obtain ⟨B9, C0, rfl⟩ := am F
            obtain rfl := B2
            obtain ⟨Z3, Z4, rfl⟩ := am B3
            obtain rfl := B4
            obtain rfl := B5
            obtain rfl := B6
            refine aa [.fa 71 4 5 eR] z <| br z (ax z) (cV (cs := [S B7 s9.n_.e_.length B8, S B9 s9.n_.d_.length C0]) z z cP (co (fun _ h => h.ext) (lk u8 5 2)) z) <| aa [.fa 30 0 0 cb] z <| br z (ax z) (r1 0 4 z ef z) <| oP z <| cB z z z z z dZ cc z d5 y9 fun Z5 Z6 u9 v0 => ?_
            obtain ⟨Z7, Z8, Z9, ad, ag, an, bk, bs, ci, cp, rfl, C1, C2, C3, C4, C5, C6, u, C7, C8, C9⟩ := bn u9
            obtain rfl := C1
            obtain rfl := C2
            obtain ⟨cv, df, rfl⟩ := am C3
            obtain rfl := C4
            obtain ⟨di, ds, rfl, D0, D1⟩ := aL C5
            obtain ⟨ea, ej, rfl⟩ := am D0
            obtain ⟨el, es, rfl⟩ := am D1
            obtain rfl := C6
            obtain ⟨et, eu, rfl⟩ := am u
            obtain rfl := C7
            obtain rfl := C8
            obtain rfl := C9
            refine aa [.fa 71 6 8 oX] z <| br z (ax z) (aF z z cw (co (fun _ h => h.ext) (lk v0 8 1))) <| aa [.fa 30 0 0 cb] z <| br z (ax z) (r1 0 4 z ef z) <| oP z <| cB z z z z z dZ cc z d5 z0 fun ey eB v1 v2 => ?_
            obtain ⟨eP, eT, fd, fl, fn, fr, fs, gs, gu, gT, rfl, D2, D3, D4, D5, D6, D7, D8, D9, E0, E1⟩ := bn v1
            obtain rfl := D2
            obtain rfl := D3
            obtain ⟨ha, hb, rfl⟩ := am D4
            obtain rfl := D5
            obtain ⟨hc, hd, rfl, E2, E3⟩ := aL D6
            obtain ⟨he, hf, rfl⟩ := am E2
            obtain ⟨hg, hh, rfl⟩ := am E3
            obtain rfl := D7
            obtain ⟨hi, hj, rfl⟩ := am D8
            obtain rfl := D9
            obtain rfl := E0
            obtain rfl := E1
            refine aa [.fa 71 7 9 ke] z <| br z (ax z) (aF z z ty3 (co (fun _ h => h.ext) (lk v2 9 1))) <| aa [.fa 30 0 0 cb] z <| br z (ax z) (r1 0 4 z ef z) <| oP z <| cB z z z z z dZ cc z d5 z1 fun hk hl v3 v4 => ?_
            obtain ⟨hm, hn, ho, hp, hq, hr, hs, ht, hu, hv, rfl, E4, E5, E6, E7, E8, E9, F1, F2, F3, F4⟩ := bn v3
            obtain rfl := E4
            obtain rfl := E5
            obtain ⟨hw, hy, rfl⟩ := am E6
            obtain rfl := E7
            obtain ⟨hz, hA, rfl, F5, F6⟩ := aL E8
            obtain ⟨hB, hC, rfl⟩ := am F5
            obtain ⟨hD, hE, rfl⟩ := am F6
            obtain rfl := E9
            obtain ⟨hF, hJ, rfl⟩ := am F1
            obtain rfl := F2
            obtain rfl := F3
            obtain rfl := F4
            refine aa [.fa 71 8 10 nA] z <| br z (ax z) (aF z z ty3 (co (fun _ h => h.ext) (lk v4 10 1))) <| aa [.fa 30 0 0 cb] z <| br z (ax z) (r1 0 4 z ef z) <| oP z <| cB z z z z z dZ cc z d5 z2 fun hK hL v5 v6 => ?_
            obtain ⟨hM, hN, hO, hP, hQ, hR, hS, hT, hU, hV, rfl, F7, F8, F9, G0, G1, G2, G3, G4, G5, G6⟩ := bn v5
            obtain rfl := F7
            obtain rfl := F8
            obtain ⟨hW, hX, rfl⟩ := am F9
            obtain rfl := G0
            obtain ⟨ih, it, rfl, G7, G8⟩ := aL G1
            obtain ⟨jj, lo, rfl⟩ := am G7
            obtain ⟨md, mm, rfl⟩ := am G8
            obtain rfl := G2
            obtain ⟨nd, nn, rfl⟩ := am G3
            obtain rfl := G4
            obtain rfl := G5
            obtain rfl := G6
            refine aa [.fa 71 9 11 nx] z <| br z (ax z) (aF z z ty3 (co (fun _ h => h.ext) (lk v6 11 1))) <| aJ <| ei (tk 6 z) z ?_ ?_
            ·refine oq z (qc z vF (fun m c => iL m (p2 := p3) e6 (ah (ab d3 m c) (ab d4 m c)) (aE (ab e0 m c) (ab e1 m c)))) (tk 6 z) <| aJ <| ei (tk 6 z) z ?_ ?_
             ·refine aq z nY z z z z (fun m c => eA m a9 (c.carve [] z z) (aE (ab E m c) (ab F m c))) (fun oi m w2 c v7 => ?_)
              obtain ⟨G, oj, L, p7, M, ok, P, p8, rfl, n9⟩ := v7
              obtain rfl := aH (i := 0) n9 z
              obtain rfl := aH (i := 1) n9 z
              refine ⟨St w D [_, _, _, _, _, _, _, _], c.comp [] z z n9, (tk 6 z), ?_⟩
              refine aJ <| ei (tk 6 z) z ?_ ?_
              ·refine bM (e := eI) z z z z aO ty3 (fun _ => (tk 6 z)) fun op => aJ <| ei (tk 6 z) z ?_ ?_
               ·exact bY (r := 8) (ys := A.b_) z z z z z z aO ty3 z z z (ab u) C (fun _ _ _ => (tk 6 z)) fun g9 h0 G9 => br z (ax z) (bI [(1, [I J p3.g_, I J p3.c_]), (4, [I J k]), (5, [S G a.e_.length L, S M a.d_.length P]), (8, [S g9 l.length h0]), (9, [I J d.m_]), (10, [I J f.o_]), (11, [I J g.p_])] [B n, I J p3.g_, I J p3.c_, S N 0 0, I J k, S G a.e_.length L, S M a.d_.length P, I J 0, S g9 l.length h0, I J d.m_, I J f.o_, I J g.p_] z z cc oQ z ⟨z, z, nl z, z, z, nl z, z, z, nl z, z, z, nl z, z, z, nl z, z, z, nl z, z, z, nl z, Y⟩ z) <| aC z z z z cc (fun _ => (tk 6 z)) fun H0 => aJ <| cK <| sC 0 [B n, I J p3.g_, I J p3.c_, S N 0 0, I J k, S G a.e_.length L, S M a.d_.length P, I J 0, S g9 l.length h0, I J d.m_, I J f.o_, I J g.p_] [_, _, _, _, _, _, _, _, _, _, _, _] 9 z cc z <| ay <| XW.at (J1 (H0) (k) (a.e_) (G) (L) (p7) (a.d_) (M) (P) (p8) (l) (g9) (h0) (G9) (d.m_) (f.o_) (g.p_) (H)) (ss [0, 1, 2, 9, 6, 7, 8, 3, 4] z z) (sb z)
               exact dB (tk 6 z) z <| aC z z z z cc (fun _ => (tk 6 z)) fun H1 => bY (r := 8) (ys := A.b_) z z z z z z aO ty3 z z z (ab u) C (fun _ _ _ => (tk 6 z)) fun h2 h3 H2 => br z (ax z) (bI [(1, [I J p3.g_, I J p3.c_]), (4, [I J k]), (5, [S G a.e_.length L, S M a.d_.length P]), (8, [S h2 l.length h3]), (9, [I J d.m_]), (10, [I J f.o_]), (11, [I J g.p_])] [B n, I J p3.g_, I J p3.c_, S N 0 0, I J k, S G a.e_.length L, S M a.d_.length P, I J 0, S h2 l.length h3, I J d.m_, I J f.o_, I J g.p_] z z cc oQ z ⟨z, z, nl z, z, z, nl z, z, z, nl z, z, z, nl z, z, z, nl z, z, z, nl z, z, z, nl z, Y⟩ z) <| aJ <| cK <| sC 0 [B n, I J p3.g_, I J p3.c_, S N 0 0, I J k, S G a.e_.length L, S M a.d_.length P, I J 0, S h2 l.length h3, I J d.m_, I J f.o_, I J g.p_] [_, _, _, _, _, _, _, _, _, _, _, _] 9 z cc z <| ay <| XW.at (J1 (H1) (k) (a.e_) (G) (L) (p7) (a.d_) (M) (P) (p8) (l) (h2) (h3) (H2) (d.m_) (f.o_) (g.p_) (H)) (ss [0, 1, 2, 9, 6, 7, 8, 3, 4] z z) (sb z)
              exact dB (tk 6 z) z <| aC z z z z cc (fun _ => (tk 6 z)) fun H3 => bM (e := eI) z z z z aO ty3 (fun _ => (tk 6 z)) fun os => bY (r := 9) (ys := A.b_) z z z z z z aO ty3 z z z (ab u) C (fun _ _ _ => (tk 6 z)) fun h4 h5 H4 => br z (ax z) (bI [(1, [I J p3.g_, I J p3.c_]), (4, [I J k]), (5, [S G a.e_.length L, S M a.d_.length P]), (8, [S h4 l.length h5]), (9, [I J d.m_]), (10, [I J f.o_]), (11, [I J g.p_])] [B n, I J p3.g_, I J p3.c_, S N 0 0, I J k, S G a.e_.length L, S M a.d_.length P, I J 0, S h4 l.length h5, I J d.m_, I J f.o_, I J g.p_] z z cc oQ z ⟨z, z, nl z, z, z, nl z, z, z, nl z, z, z, nl z, z, z, nl z, z, z, nl z, z, z, nl z, Y⟩ z) <| aJ <| cK <| sC 0 [B n, I J p3.g_, I J p3.c_, S N 0 0, I J k, S G a.e_.length L, S M a.d_.length P, I J 0, S h4 l.length h5, I J d.m_, I J f.o_, I J g.p_] [_, _, _, _, _, _, _, _, _, _, _, _] 8 z cc z <| ay <| XW.at (J1 (H3) (k) (a.e_) (G) (L) (p7) (a.d_) (M) (P) (p8) (l) (h4) (h5) (H4) (d.m_) (f.o_) (g.p_) (H)) (ss [0, 1, 2, 8, 6, 7, 9, 3, 4] z z) (sb z)
             refine ei (tk 6 z) z ?_ ?_
             ·refine bM (e := eI) z z z z aO ty3 (fun _ => (tk 6 z)) fun pa => aJ <| ei (tk 6 z) z ?_ ?_
              ·refine aq z nY z z z z (fun m c => eA m a9 (c.carve [] z z) (aE (ab E m c) (ab F m c))) (fun ps m w2 c v8 => ?_)
               obtain ⟨b3, pv, b4, t0, b5, px, b6, t1, rfl, o0⟩ := v8
               obtain rfl := aH (i := 0) o0 z
               obtain rfl := aH (i := 1) o0 z
               refine ⟨St w D [_, _, _, _, _, _, _, _, _], c.comp [] z z o0, (tk 6 z), ?_⟩
               refine aJ <| ei (tk 6 z) z ?_ ?_
               ·exact bY (r := 6) (ys := A.b_) z z z z z z aO ty3 z z z (ab u) C (fun _ _ _ => (tk 6 z)) fun h6 h7 H5 => br z (ax z) (bI [(1, [I J p3.g_, I J p3.c_]), (4, [I J k]), (5, [S b3 a.e_.length b4, S b5 a.d_.length b6]), (8, [S h6 l.length h7]), (9, [I J d.m_]), (10, [I J f.o_]), (11, [I J g.p_])] [B n, I J p3.g_, I J p3.c_, S N 0 0, I J k, S b3 a.e_.length b4, S b5 a.d_.length b6, I J 0, S h6 l.length h7, I J d.m_, I J f.o_, I J g.p_] z z cc oQ z ⟨z, z, nl z, z, z, nl z, z, z, nl z, z, z, nl z, z, z, nl z, z, z, nl z, z, z, nl z, Y⟩ z) <| aC z z z z cc (fun _ => (tk 6 z)) fun H6 => aJ <| cK <| sC 0 [B n, I J p3.g_, I J p3.c_, S N 0 0, I J k, S b3 a.e_.length b4, S b5 a.d_.length b6, I J 0, S h6 l.length h7, I J d.m_, I J f.o_, I J g.p_] [_, _, _, _, _, _, _, _, _, _, _, _] 9 z cc z <| ay <| XW.at (J1 (H6) (k) (a.e_) (b3) (b4) (t0) (a.d_) (b5) (b6) (t1) (l) (h6) (h7) (H5) (d.m_) (f.o_) (g.p_) (H)) (ss [0, 1, 2, 9, 7, 8, 6, 3, 4] z z) (sb z)
               exact dB (tk 6 z) z <| aC z z z z cc (fun _ => (tk 6 z)) fun H7 => bY (r := 6) (ys := A.b_) z z z z z z aO ty3 z z z (ab u) C (fun _ _ _ => (tk 6 z)) fun h8 h9 H8 => br z (ax z) (bI [(1, [I J p3.g_, I J p3.c_]), (4, [I J k]), (5, [S b3 a.e_.length b4, S b5 a.d_.length b6]), (8, [S h8 l.length h9]), (9, [I J d.m_]), (10, [I J f.o_]), (11, [I J g.p_])] [B n, I J p3.g_, I J p3.c_, S N 0 0, I J k, S b3 a.e_.length b4, S b5 a.d_.length b6, I J 0, S h8 l.length h9, I J d.m_, I J f.o_, I J g.p_] z z cc oQ z ⟨z, z, nl z, z, z, nl z, z, z, nl z, z, z, nl z, z, z, nl z, z, z, nl z, z, z, nl z, Y⟩ z) <| aJ <| cK <| sC 0 [B n, I J p3.g_, I J p3.c_, S N 0 0, I J k, S b3 a.e_.length b4, S b5 a.d_.length b6, I J 0, S h8 l.length h9, I J d.m_, I J f.o_, I J g.p_] [_, _, _, _, _, _, _, _, _, _, _, _] 9 z cc z <| ay <| XW.at (J1 (H7) (k) (a.e_) (b3) (b4) (t0) (a.d_) (b5) (b6) (t1) (l) (h8) (h9) (H8) (d.m_) (f.o_) (g.p_) (H)) (ss [0, 1, 2, 9, 7, 8, 6, 3, 4] z z) (sb z)
              refine dB (tk 6 z) z <| aC z z z z cc (fun _ => (tk 6 z)) fun H9 => aq z nY z z z z (fun m c => eA m a9 (c.carve [] z z) (aE (ab E m c) (ab F m c))) fun py m w2 c v9 => ?_
              obtain ⟨i0, qs, i1, I0, i2, qy, i3, I1, rfl, o2⟩ := v9
              obtain rfl := aH (i := 0) o2 z
              obtain rfl := aH (i := 1) o2 z
              refine ⟨St w D [_, _, _, _, _, _, _, _, _, _], c.comp [] z z o2, (tk 6 z), ?_⟩
              exact bY (r := 6) (ys := A.b_) z z z z z z aO ty3 z z z (ab u) C (fun _ _ _ => (tk 6 z)) fun i4 i5 I2 => br z (ax z) (bI [(1, [I J p3.g_, I J p3.c_]), (4, [I J k]), (5, [S i0 a.e_.length i1, S i2 a.d_.length i3]), (8, [S i4 l.length i5]), (9, [I J d.m_]), (10, [I J f.o_]), (11, [I J g.p_])] [B n, I J p3.g_, I J p3.c_, S N 0 0, I J k, S i0 a.e_.length i1, S i2 a.d_.length i3, I J 0, S i4 l.length i5, I J d.m_, I J f.o_, I J g.p_] z z cc oQ z ⟨z, z, nl z, z, z, nl z, z, z, nl z, z, z, nl z, z, z, nl z, z, z, nl z, z, z, nl z, Y⟩ z) <| aJ <| cK <| sC 0 [B n, I J p3.g_, I J p3.c_, S N 0 0, I J k, S i0 a.e_.length i1, S i2 a.d_.length i3, I J 0, S i4 l.length i5, I J d.m_, I J f.o_, I J g.p_] [_, _, _, _, _, _, _, _, _, _, _, _] 7 z cc z <| ay <| XW.at (J1 (H9) (k) (a.e_) (i0) (i1) (I0) (a.d_) (i2) (i3) (I1) (l) (i4) (i5) (I2) (d.m_) (f.o_) (g.p_) (H)) (ss [0, 1, 2, 7, 8, 9, 6, 3, 4] z z) (sb z)
             refine dB (tk 6 z) z <| aC z z z z cc (fun _ => (tk 6 z)) fun t2 => aJ <| ei (tk 6 z) z ?_ ?_
             ·refine aq z nY z z z z (fun m c => eA m a9 (c.carve [] z z) (aE (ab E m c) (ab F m c))) (fun re m w2 c w0 => ?_)
              obtain ⟨i6, sp, i7, I3, i8, sz, i9, I4, rfl, o3⟩ := w0
              obtain rfl := aH (i := 0) o3 z
              obtain rfl := aH (i := 1) o3 z
              refine ⟨St w D [_, _, _, _, _, _, _, _, _], c.comp [] z z o3, (tk 6 z), ?_⟩
              exact bM (e := eI) z z z z aO ty3 (fun _ => (tk 6 z)) fun tb => bY (r := 9) (ys := A.b_) z z z z z z aO ty3 z z z (ab u) C (fun _ _ _ => (tk 6 z)) fun j0 j1 I5 => br z (ax z) (bI [(1, [I J p3.g_, I J p3.c_]), (4, [I J k]), (5, [S i6 a.e_.length i7, S i8 a.d_.length i9]), (8, [S j0 l.length j1]), (9, [I J d.m_]), (10, [I J f.o_]), (11, [I J g.p_])] [B n, I J p3.g_, I J p3.c_, S N 0 0, I J k, S i6 a.e_.length i7, S i8 a.d_.length i9, I J 0, S j0 l.length j1, I J d.m_, I J f.o_, I J g.p_] z z cc oQ z ⟨z, z, nl z, z, z, nl z, z, z, nl z, z, z, nl z, z, z, nl z, z, z, nl z, z, z, nl z, Y⟩ z) <| aJ <| cK <| sC 0 [B n, I J p3.g_, I J p3.c_, S N 0 0, I J k, S i6 a.e_.length i7, S i8 a.d_.length i9, I J 0, S j0 l.length j1, I J d.m_, I J f.o_, I J g.p_] [_, _, _, _, _, _, _, _, _, _, _, _] 6 z cc z <| ay <| XW.at (J1 (t2) (k) (a.e_) (i6) (i7) (I3) (a.d_) (i8) (i9) (I4) (l) (j0) (j1) (I5) (d.m_) (f.o_) (g.p_) (H)) (ss [0, 1, 2, 6, 7, 8, 9, 3, 4] z z) (sb z)
             refine dB (tk 6 z) z <| bM (e := eI) z z z z aO ty3 (fun _ => (tk 6 z)) fun td => aq z nY z z z z (fun m c => eA m a9 (c.carve [] z z) (aE (ab E m c) (ab F m c))) fun ti m w2 c w3 => ?_
             obtain ⟨j2, ts, j3, I6, j4, ty, j5, I7, rfl, o4⟩ := w3
             obtain rfl := aH (i := 0) o4 z
             obtain rfl := aH (i := 1) o4 z
             refine ⟨St w D [_, _, _, _, _, _, _, _, _, _], c.comp [] z z o4, (tk 6 z), ?_⟩
             exact bY (r := 7) (ys := A.b_) z z z z z z aO ty3 z z z (ab u) C (fun _ _ _ => (tk 6 z)) fun j6 j7 I8 => br z (ax z) (bI [(1, [I J p3.g_, I J p3.c_]), (4, [I J k]), (5, [S j2 a.e_.length j3, S j4 a.d_.length j5]), (8, [S j6 l.length j7]), (9, [I J d.m_]), (10, [I J f.o_]), (11, [I J g.p_])] [B n, I J p3.g_, I J p3.c_, S N 0 0, I J k, S j2 a.e_.length j3, S j4 a.d_.length j5, I J 0, S j6 l.length j7, I J d.m_, I J f.o_, I J g.p_] z z cc oQ z ⟨z, z, nl z, z, z, nl z, z, z, nl z, z, z, nl z, z, z, nl z, z, z, nl z, z, z, nl z, Y⟩ z) <| aJ <| cK <| sC 0 [B n, I J p3.g_, I J p3.c_, S N 0 0, I J k, S j2 a.e_.length j3, S j4 a.d_.length j5, I J 0, S j6 l.length j7, I J d.m_, I J f.o_, I J g.p_] [_, _, _, _, _, _, _, _, _, _, _, _] 6 z cc z <| ay <| XW.at (J1 (t2) (k) (a.e_) (j2) (j3) (I6) (a.d_) (j4) (j5) (I7) (l) (j6) (j7) (I8) (d.m_) (f.o_) (g.p_) (H)) (ss [0, 1, 2, 6, 8, 9, 7, 3, 4] z z) (sb z)
            refine ei (tk 6 z) z ?_ ?_
            ·refine bM (e := eI) z z z z aO ty3 (fun _ => (tk 6 z)) fun up => aJ <| ei (tk 6 z) z ?_ ?_
             ·refine oq z (qc z vF (fun m c => iL m (p2 := p3) e6 (ah (ab d3 m c) (ab d4 m c)) (aE (ab e0 m c) (ab e1 m c)))) (tk 6 z) <| aJ <| ei (tk 6 z) z ?_ ?_
              ·refine aq z nY z z z z (fun m c => eA m a9 (c.carve [] z z) (aE (ab E m c) (ab F m c))) (fun vj m w2 c w4 => ?_)
               obtain ⟨b7, vA, b8, t3, b9, wf, c1, t4, rfl, o5⟩ := w4
               obtain rfl := aH (i := 0) o5 z
               obtain rfl := aH (i := 1) o5 z
               refine ⟨St w D [_, _, _, _, _, _, _, _, _], c.comp [] z z o5, (tk 6 z), ?_⟩
               refine aJ <| ei (tk 6 z) z ?_ ?_
               ·exact bY (r := 6) (ys := A.b_) z z z z z z aO ty3 z z z (ab u) C (fun _ _ _ => (tk 6 z)) fun j8 j9 I9 => br z (ax z) (bI [(1, [I J p3.g_, I J p3.c_]), (4, [I J k]), (5, [S b7 a.e_.length b8, S b9 a.d_.length c1]), (8, [S j8 l.length j9]), (9, [I J d.m_]), (10, [I J f.o_]), (11, [I J g.p_])] [B n, I J p3.g_, I J p3.c_, S N 0 0, I J k, S b7 a.e_.length b8, S b9 a.d_.length c1, I J 0, S j8 l.length j9, I J d.m_, I J f.o_, I J g.p_] z z cc oQ z ⟨z, z, nl z, z, z, nl z, z, z, nl z, z, z, nl z, z, z, nl z, z, z, nl z, z, z, nl z, Y⟩ z) <| aC z z z z cc (fun _ => (tk 6 z)) fun J0 => aJ <| cK <| sC 0 [B n, I J p3.g_, I J p3.c_, S N 0 0, I J k, S b7 a.e_.length b8, S b9 a.d_.length c1, I J 0, S j8 l.length j9, I J d.m_, I J f.o_, I J g.p_] [_, _, _, _, _, _, _, _, _, _, _, _] 9 z cc z <| ay <| XW.at (J1 (J0) (k) (a.e_) (b7) (b8) (t3) (a.d_) (b9) (c1) (t4) (l) (j8) (j9) (I9) (d.m_) (f.o_) (g.p_) (H)) (ss [0, 1, 2, 9, 7, 8, 6, 3, 4] z z) (sb z)
               exact dB (tk 6 z) z <| aC z z z z cc (fun _ => (tk 6 z)) fun J2 => bY (r := 6) (ys := A.b_) z z z z z z aO ty3 z z z (ab u) C (fun _ _ _ => (tk 6 z)) fun k0 k3 J3 => br z (ax z) (bI [(1, [I J p3.g_, I J p3.c_]), (4, [I J k]), (5, [S b7 a.e_.length b8, S b9 a.d_.length c1]), (8, [S k0 l.length k3]), (9, [I J d.m_]), (10, [I J f.o_]), (11, [I J g.p_])] [B n, I J p3.g_, I J p3.c_, S N 0 0, I J k, S b7 a.e_.length b8, S b9 a.d_.length c1, I J 0, S k0 l.length k3, I J d.m_, I J f.o_, I J g.p_] z z cc oQ z ⟨z, z, nl z, z, z, nl z, z, z, nl z, z, z, nl z, z, z, nl z, z, z, nl z, z, z, nl z, Y⟩ z) <| aJ <| cK <| sC 0 [B n, I J p3.g_, I J p3.c_, S N 0 0, I J k, S b7 a.e_.length b8, S b9 a.d_.length c1, I J 0, S k0 l.length k3, I J d.m_, I J f.o_, I J g.p_] [_, _, _, _, _, _, _, _, _, _, _, _] 9 z cc z <| ay <| XW.at (J1 (J2) (k) (a.e_) (b7) (b8) (t3) (a.d_) (b9) (c1) (t4) (l) (k0) (k3) (J3) (d.m_) (f.o_) (g.p_) (H)) (ss [0, 1, 2, 9, 7, 8, 6, 3, 4] z z) (sb z)
              refine dB (tk 6 z) z <| aC z z z z cc (fun _ => (tk 6 z)) fun J4 => aq z nY z z z z (fun m c => eA m a9 (c.carve [] z z) (aE (ab E m c) (ab F m c))) fun wp m w2 c w5 => ?_
              obtain ⟨k4, ws, k5, J5, k6, xs, k7, J6, rfl, o6⟩ := w5
              obtain rfl := aH (i := 0) o6 z
              obtain rfl := aH (i := 1) o6 z
              refine ⟨St w D [_, _, _, _, _, _, _, _, _, _], c.comp [] z z o6, (tk 6 z), ?_⟩
              exact bY (r := 6) (ys := A.b_) z z z z z z aO ty3 z z z (ab u) C (fun _ _ _ => (tk 6 z)) fun k8 k9 J7 => br z (ax z) (bI [(1, [I J p3.g_, I J p3.c_]), (4, [I J k]), (5, [S k4 a.e_.length k5, S k6 a.d_.length k7]), (8, [S k8 l.length k9]), (9, [I J d.m_]), (10, [I J f.o_]), (11, [I J g.p_])] [B n, I J p3.g_, I J p3.c_, S N 0 0, I J k, S k4 a.e_.length k5, S k6 a.d_.length k7, I J 0, S k8 l.length k9, I J d.m_, I J f.o_, I J g.p_] z z cc oQ z ⟨z, z, nl z, z, z, nl z, z, z, nl z, z, z, nl z, z, z, nl z, z, z, nl z, z, z, nl z, Y⟩ z) <| aJ <| cK <| sC 0 [B n, I J p3.g_, I J p3.c_, S N 0 0, I J k, S k4 a.e_.length k5, S k6 a.d_.length k7, I J 0, S k8 l.length k9, I J d.m_, I J f.o_, I J g.p_] [_, _, _, _, _, _, _, _, _, _, _, _] 7 z cc z <| ay <| XW.at (J1 (J4) (k) (a.e_) (k4) (k5) (J5) (a.d_) (k6) (k7) (J6) (l) (k8) (k9) (J7) (d.m_) (f.o_) (g.p_) (H)) (ss [0, 1, 2, 7, 8, 9, 6, 3, 4] z z) (sb z)
             refine dB (tk 6 z) z <| aC z z z z cc (fun _ => (tk 6 z)) fun J8 => oq z (qc z vF (fun m c => iL m (p2 := p3) e6 (ah (ab d3 m c) (ab d4 m c)) (aE (ab e0 m c) (ab e1 m c)))) (tk 6 z) <| aq z nY z z z z (fun m c => eA m a9 (c.carve [] z z) (aE (ab E m c) (ab F m c))) fun zs m w2 c w6 => ?_
             obtain ⟨l0, zv, l1, J9, l2, An, l3, K0, rfl, o7⟩ := w6
             obtain rfl := aH (i := 0) o7 z
             obtain rfl := aH (i := 1) o7 z
             refine ⟨St w D [_, _, _, _, _, _, _, _, _, _], c.comp [] z z o7, (tk 6 z), ?_⟩
             exact bY (r := 6) (ys := A.b_) z z z z z z aO ty3 z z z (ab u) C (fun _ _ _ => (tk 6 z)) fun l4 l5 K1 => br z (ax z) (bI [(1, [I J p3.g_, I J p3.c_]), (4, [I J k]), (5, [S l0 a.e_.length l1, S l2 a.d_.length l3]), (8, [S l4 l.length l5]), (9, [I J d.m_]), (10, [I J f.o_]), (11, [I J g.p_])] [B n, I J p3.g_, I J p3.c_, S N 0 0, I J k, S l0 a.e_.length l1, S l2 a.d_.length l3, I J 0, S l4 l.length l5, I J d.m_, I J f.o_, I J g.p_] z z cc oQ z ⟨z, z, nl z, z, z, nl z, z, z, nl z, z, z, nl z, z, z, nl z, z, z, nl z, z, z, nl z, Y⟩ z) <| aJ <| cK <| sC 0 [B n, I J p3.g_, I J p3.c_, S N 0 0, I J k, S l0 a.e_.length l1, S l2 a.d_.length l3, I J 0, S l4 l.length l5, I J d.m_, I J f.o_, I J g.p_] [_, _, _, _, _, _, _, _, _, _, _, _] 7 z cc z <| ay <| XW.at (J1 (J8) (k) (a.e_) (l0) (l1) (J9) (a.d_) (l2) (l3) (K0) (l) (l4) (l5) (K1) (d.m_) (f.o_) (g.p_) (H)) (ss [0, 1, 2, 7, 8, 9, 6, 3, 4] z z) (sb z)
            refine dB (tk 6 z) z <| aC z z z z cc (fun _ => (tk 6 z)) fun p9 => aJ <| ei (tk 6 z) z ?_ ?_
            ·refine oq z (qc z vF (fun m c => iL m (p2 := p3) e6 (ah (ab d3 m c) (ab d4 m c)) (aE (ab e0 m c) (ab e1 m c)))) (tk 6 z) <| aJ <| ei (tk 6 z) z ?_ ?_
             ·refine aq z nY z z z z (fun m c => eA m a9 (c.carve [] z z) (aE (ab E m c) (ab F m c))) (fun AT m w2 c w7 => ?_)
              obtain ⟨l6, Cf, l7, K2, l8, Ed, l9, K3, rfl, o8⟩ := w7
              obtain rfl := aH (i := 0) o8 z
              obtain rfl := aH (i := 1) o8 z
              refine ⟨St w D [_, _, _, _, _, _, _, _, _], c.comp [] z z o8, (tk 6 z), ?_⟩
              exact bM (e := eI) z z z z aO ty3 (fun _ => (tk 6 z)) fun Ee => bY (r := 9) (ys := A.b_) z z z z z z aO ty3 z z z (ab u) C (fun _ _ _ => (tk 6 z)) fun m0 m1 K4 => br z (ax z) (bI [(1, [I J p3.g_, I J p3.c_]), (4, [I J k]), (5, [S l6 a.e_.length l7, S l8 a.d_.length l9]), (8, [S m0 l.length m1]), (9, [I J d.m_]), (10, [I J f.o_]), (11, [I J g.p_])] [B n, I J p3.g_, I J p3.c_, S N 0 0, I J k, S l6 a.e_.length l7, S l8 a.d_.length l9, I J 0, S m0 l.length m1, I J d.m_, I J f.o_, I J g.p_] z z cc oQ z ⟨z, z, nl z, z, z, nl z, z, z, nl z, z, z, nl z, z, z, nl z, z, z, nl z, z, z, nl z, Y⟩ z) <| aJ <| cK <| sC 0 [B n, I J p3.g_, I J p3.c_, S N 0 0, I J k, S l6 a.e_.length l7, S l8 a.d_.length l9, I J 0, S m0 l.length m1, I J d.m_, I J f.o_, I J g.p_] [_, _, _, _, _, _, _, _, _, _, _, _] 6 z cc z <| ay <| XW.at (J1 (p9) (k) (a.e_) (l6) (l7) (K2) (a.d_) (l8) (l9) (K3) (l) (m0) (m1) (K4) (d.m_) (f.o_) (g.p_) (H)) (ss [0, 1, 2, 6, 7, 8, 9, 3, 4] z z) (sb z)
             refine dB (tk 6 z) z <| bM (e := eI) z z z z aO ty3 (fun _ => (tk 6 z)) fun Ef => aq z nY z z z z (fun m c => eA m a9 (c.carve [] z z) (aE (ab E m c) (ab F m c))) fun Eg m w2 c w8 => ?_
             obtain ⟨m2, Eh, m3, K5, m4, Ei, m5, K6, rfl, o9⟩ := w8
             obtain rfl := aH (i := 0) o9 z
             obtain rfl := aH (i := 1) o9 z
             refine ⟨St w D [_, _, _, _, _, _, _, _, _, _], c.comp [] z z o9, (tk 6 z), ?_⟩
             exact bY (r := 7) (ys := A.b_) z z z z z z aO ty3 z z z (ab u) C (fun _ _ _ => (tk 6 z)) fun m6 m7 K7 => br z (ax z) (bI [(1, [I J p3.g_, I J p3.c_]), (4, [I J k]), (5, [S m2 a.e_.length m3, S m4 a.d_.length m5]), (8, [S m6 l.length m7]), (9, [I J d.m_]), (10, [I J f.o_]), (11, [I J g.p_])] [B n, I J p3.g_, I J p3.c_, S N 0 0, I J k, S m2 a.e_.length m3, S m4 a.d_.length m5, I J 0, S m6 l.length m7, I J d.m_, I J f.o_, I J g.p_] z z cc oQ z ⟨z, z, nl z, z, z, nl z, z, z, nl z, z, z, nl z, z, z, nl z, z, z, nl z, z, z, nl z, Y⟩ z) <| aJ <| cK <| sC 0 [B n, I J p3.g_, I J p3.c_, S N 0 0, I J k, S m2 a.e_.length m3, S m4 a.d_.length m5, I J 0, S m6 l.length m7, I J d.m_, I J f.o_, I J g.p_] [_, _, _, _, _, _, _, _, _, _, _, _] 6 z cc z <| ay <| XW.at (J1 (p9) (k) (a.e_) (m2) (m3) (K5) (a.d_) (m4) (m5) (K6) (l) (m6) (m7) (K7) (d.m_) (f.o_) (g.p_) (H)) (ss [0, 1, 2, 6, 8, 9, 7, 3, 4] z z) (sb z)
            refine dB (tk 6 z) z <| bM (e := eI) z z z z aO ty3 (fun _ => (tk 6 z)) fun Ej => oq z (qc z vF (fun m c => iL m (p2 := p3) e6 (ah (ab d3 m c) (ab d4 m c)) (aE (ab e0 m c) (ab e1 m c)))) (tk 6 z) <| aq z nY z z z z (fun m c => eA m a9 (c.carve [] z z) (aE (ab E m c) (ab F m c))) fun Ek m w2 c w9 => ?_
            obtain ⟨m8, El, m9, K8, n1, Em, n2, K9, rfl, p5⟩ := w9
            obtain rfl := aH (i := 0) p5 z
            obtain rfl := aH (i := 1) p5 z
            refine ⟨St w D [_, _, _, _, _, _, _, _, _, _], c.comp [] z z p5, (tk 6 z), ?_⟩
            exact bY (r := 7) (ys := A.b_) z z z z z z aO ty3 z z z (ab u) C (fun _ _ _ => (tk 6 z)) fun n3 n4 L0 => br z (ax z) (bI [(1, [I J p3.g_, I J p3.c_]), (4, [I J k]), (5, [S m8 a.e_.length m9, S n1 a.d_.length n2]), (8, [S n3 l.length n4]), (9, [I J d.m_]), (10, [I J f.o_]), (11, [I J g.p_])] [B n, I J p3.g_, I J p3.c_, S N 0 0, I J k, S m8 a.e_.length m9, S n1 a.d_.length n2, I J 0, S n3 l.length n4, I J d.m_, I J f.o_, I J g.p_] z z cc oQ z ⟨z, z, nl z, z, z, nl z, z, z, nl z, z, z, nl z, z, z, nl z, z, z, nl z, z, z, nl z, Y⟩ z) <| aJ <| cK <| sC 0 [B n, I J p3.g_, I J p3.c_, S N 0 0, I J k, S m8 a.e_.length m9, S n1 a.d_.length n2, I J 0, S n3 l.length n4, I J d.m_, I J f.o_, I J g.p_] [_, _, _, _, _, _, _, _, _, _, _, _] 6 z cc z <| ay <| XW.at (J1 (p9) (k) (a.e_) (m8) (m9) (K8) (a.d_) (n1) (n2) (K9) (l) (n3) (n4) (L0) (d.m_) (f.o_) (g.p_) (H)) (ss [0, 1, 2, 6, 8, 9, 7, 3, 4] z z) (sb z)
         ·generalize (r0.m_ == 6) = N4 at key ⊢
          cases N4
          ·exact aa [.fa 30 0 0 cb] z <| o1 z (r1 0 4 z ef z) <| aa [.lenS 28 71 dZ, .p, .lenS 67 31 gL, .p, .p] z <| oP z <| OW.sub key (sb z)
          ·exact aa [.p, .p, .p, .p, .p, .p, .p, .p] z <| OW.sub key (sb z)
     ·clear H
      have H := r4
      clear r4
      generalize q9 = N5 at H key ⊢
      cases N5
      ·have H := ba z H
       refine aa [.p, .lenS 67 31 gL] z <| o1 z (rx 0 0 _ z bU z) <| o1 z (rx 0 2 _ z cH z) <| bE H fun ET N6 H => oq z (qc z wq (fun m c => fP m (p1 := p3) N6 (ah (ab d3 m c) (ab d4 m c)))) tt2 <| oP z <| oP z <| ?_
       obtain rfl := ai H
       exact OW.sub key (sb z)
      ·have H := bb z H
       refine aa [.p, .p, .p, .p, .p, .p, .p] z ?_
       obtain rfl := ai H
       exact OW.sub key (sb z)
    ·clear H
     have H := r3
     clear r3
     generalize u0 = N7 at H key ⊢
     cases N7
     ·have H := ba z H
      refine o1 z (rx 0 0 _ z bU z) <| o1 z (rx 0 2 _ z cH z) <| bE H fun EU N8 H => oq z (qc z vy (fun m c => fX m (p1 := p3) N8 (ah (ab d3 m c) (ab d4 m c)))) tt2 <| oP z <| oP z <| ?_
      obtain rfl := ai H
      exact OW.sub key (sb z)
     ·have H := bb z H
      refine aa [.p, .p, .p, .p, .p] z ?_
      obtain rfl := ai H
      exact OW.sub key (sb z)
   ·clear H
    have H := r2
    clear r2
    generalize t8 = N9 at H key ⊢
    cases N9
    ·have H := ba z H
     refine aa [.fa 30 0 0 cb] z <| o1 z (r1 0 1 z ef z) <| oP z <| bE H fun Fo Q2 H => cB z z z z z dZ cc z d5 Q2 fun Fp Fq O0 O1 => ?_
     obtain ⟨Fs, Ft, Fu, Fv, Fw, Fx, Fy, EV, EW, EX, rfl, O2, O3, O4, O5, O6, O7, O8, O9, P0, P1⟩ := bn O0
     obtain rfl := O2
     obtain rfl := O3
     obtain ⟨EY, EZ, rfl⟩ := am O4
     obtain rfl := O5
     obtain ⟨Fa, Fb, rfl, P2, P3⟩ := aL O6
     obtain ⟨Fc, Fd, rfl⟩ := am P2
     obtain ⟨Fe, Ff, rfl⟩ := am P3
     obtain rfl := O7
     obtain ⟨Fg, Fh, rfl⟩ := am O8
     obtain rfl := O9
     obtain rfl := P0
     obtain rfl := P1
     refine aa [.fa 71 4 5 eR, .fa 69 1 1 dL] z <| o1 z (aF z z jm (co bor (lk (lk O1 5 2) 1 1))) <| aa [.lenS 67 31 gL, .p] z <| oP z <| ?_
     obtain rfl := ai H
     exact OW.sub key (sb z)
    ·have H := bb z H
     refine aa [.p, .p, .p, .p, .p, .p, .p, .p, .p, .p] z ?_
     obtain rfl := ai H
     exact OW.sub key (sb z)
  ·clear H
   have H := t9
   clear t9
   generalize t6 = Q3 at H key ⊢
   cases Q3
   ·have H := ba z H
    refine aa [.fa 30 0 0 cb] z <| o1 z (r1 0 1 z ef z) <| oP z <| bE H fun Fz Q4 H => cB z z z z z dZ cc z d5 Q4 fun FA FB P4 P5 => ?_
    obtain ⟨FC, FD, FE, FF, FG, FH, FI, FJ, FK, FL, rfl, Q5, Q6, Q7, Q8, Q9, R0, R1, R2, R3, R4⟩ := bn P4
    obtain rfl := Q5
    obtain rfl := Q6
    obtain ⟨FM, FN, rfl⟩ := am Q7
    obtain rfl := Q8
    obtain ⟨FO, FP, rfl, R5, R6⟩ := aL Q9
    obtain ⟨FQ, FR, rfl⟩ := am R5
    obtain ⟨Fs9, FT, rfl⟩ := am R6
    obtain rfl := R0
    obtain ⟨FU, FV, rfl⟩ := am R1
    obtain rfl := R2
    obtain rfl := R3
    obtain rfl := R4
    refine aa [.fa 71 0 0 ls] z <| o1 z (aF z z ty4 (co bor (lk P5 0 1))) <| oP z <| oP z <| ?_
    obtain rfl := ai H
    exact OW.sub key (sb z)
   ·have H := bb z H
    refine aa [.p, .p, .p, .p, .p, .p, .p, .p] z ?_
    obtain rfl := ai H
    exact OW.sub key (sb z)
 ·clear H
  have H := t7
  clear t7
  generalize (!L3) = R7 at H key ⊢
  cases R7
  ·have H := ba z H
   refine aa [.p, .fa 30 0 0 cb] z <| o1 z (r1 0 1 z ef z) <| aa [.lenS 28 71 dZ, .p] z <| bE H fun FW R8 H => oq z (qc z gK (fun m c => bf m R8)) tt2 <| oP z <| oP z <| ?_
   obtain rfl := ai H
   exact OW.sub key (sb z)
  ·have H := bb z H
   refine aa [.p, .p, .p, .p, .p, .p, .p, .p] z ?_
   obtain rfl := ai H
   exact OW.sub key (sb z)
theorem pq (w : World) {q : List Nat} {p0 : aj} {D : List Value} {r : List Int} (H : ix p0 = U r) (HS : St w q [] w) (g0 : (cU).rd w q p0 D) :
    Calls Tryz.prog 179 #[.agg D.toArray] w (fun en w' => ∃ v, en = .returned v ∧ ∃ (a0 : Option Addr), ∃ (n0 : Nat), ∃ (c0 : Nat), ∃ (F0 : List Nat), v = S a0 n0 c0 ∧ St w q [W (af eI 3) F0 r [S a0 n0 c0]] w') := by
 obtain ⟨i3, i4, rfl, k, c8⟩ := cr g0
 obtain ⟨c9, d0, rfl⟩ := am k
 obtain rfl := c8
 unfold ix at H
 refine aG Tryz.func179 z Tryz.ntmps179 z (HS) <| sR <| ob _ z fun h => oP z <| nR <| bM (e := eI) z z z z aO ty3 (fun _ => kp) fun E => oP z <| nQ <| ak <| sR <| oP z <| nQ <| aB <| CW.at (iz (fun (a : List Int) (d : Option Addr) (f : Nat) (g : List Nat) (c : Int) => St w q [b h 30 [S c9 p0.a_.length d0, I J p0.j_], W (af eI 3) g a [S d a.length f]]) (fun a d f g c => [(1, O (U ⟨h, 0, N⟩)), (3, S d a.length f), (4, I J c)]) (fun kk => fun a d f g c => d.isNone = n ∧ dp p0 kk a c = U r) (fun _ _ _ _ _ H => ?_) (fun k1 l a d f g c ⟨s, H⟩ => ?_) bh (([] : List Int)) ((U ⟨E, 0, N⟩)) (0) ([E]) (0) (⟨z, H⟩)) (ss [0, 1] z z) (sb z)
 ·unfold dp at H
  exact absurd H (by simp)
 ·unfold dp at H
  refine ak <| sR <| aa [.p, .fa 30 0 0 cb] z <| o1 z (r1 0 0 z ef z) <| aa [.lenS 28 71 dZ, .p] z <| nQ <| cI H z (fun H => ?_) (fun H => ?_)
  ·refine aw <| az <| ak <| aB <| sR <| aa [.fa 30 0 0 cb] z <| o1 z (r1 0 0 z ef z) <| oP z <| bE H fun m F H => cB z z z z z dZ cc z k F fun d4 d5 t u => ?_
   obtain ⟨d6, d7, d8, d9, e0, e1, e2, e3, e4, e5, rfl, G, L, M, P, Q, X, Z, a1, a2, a3⟩ := bn t
   obtain rfl := G
   obtain rfl := L
   obtain ⟨e6, e7, rfl⟩ := am M
   obtain rfl := P
   obtain ⟨e9, f0, rfl, a4, a5⟩ := aL Q
   obtain ⟨f1, f2, rfl⟩ := am a4
   obtain ⟨f3, f4, rfl⟩ := am a5
   obtain rfl := X
   obtain ⟨f5, f6, rfl⟩ := am Z
   obtain rfl := a1
   obtain rfl := a2
   obtain rfl := a3
   refine aa [.fa 71 0 0 ls] z <| o1 z (aF z z ty4 (co bor (lk u 0 1))) <| oP z <| bE H fun a6 j H => aQ [(29, B a6), (1, O (U ⟨h, 0, N⟩)), (3, S d a.length f), (4, I J c)] 10 ?_ (fun key => OW.sub (R := [(1, O (U ⟨h, 0, N⟩)), (3, S d a.length f), (4, I J c), (19, B m.s_)]) ?_ (sb z))
   ·refine nQ <| cI H z (fun H => ?_) (fun H => ?_)
    ·exact aT <| oPP z <| bA (val := I J) (h1 := fun _ => z) [c] [(0, [I J c])] z z z z z aO ty3 z z z ⟨z, z, nl z, Y⟩ z z (fun _ => kp) fun f7 => bE H fun a7 o H => bY (r := 1) (ys := ([c] : List Int)) z z z z z z aO ty3 z z z (au (e := af eI 3) (r := 2) z) o (fun _ _ _ => kp) fun a8 a9 b0 => cg z (fun w1 d1 => eD (i := 1) d1 z (eG o)) fun x => oP z <| ay <| ca <| az <| aT <| aa [.p, .p, .p] z <| ay <| cQ (RW.at (l (a7) (a8) (a9) (b0) (J.wrap (c + 1)) (⟨x, H⟩)) (ss [0, 1] z z) (sb z))
    ·exact aw <| ca <| az <| aT <| aa [.p, .p, .p] z <| ay <| cQ (RW.at (l (a) (d) (f) (g) (J.wrap (c + 1)) (⟨s, H⟩)) (ss [0, 1] z z) (sb z))
   ·clear H
    have H := j
    clear j
    generalize m.s_ = b1 at H key ⊢
    cases b1
    ·have H := ba z H
     refine aa [.p, .p, .p, .p, .p, .p, .p, .p, .p, .p] z ?_
     obtain rfl := ai H
     exact OW.sub key (sb z)
    ·have H := bb z H
     refine aa [.fa 30 0 0 cb] z <| o1 z (r1 0 0 z ef z) <| oP z <| bE H fun f8 b2 H => cB z z z z z dZ cc z k b2 fun f9 g1 A C => ?_
     obtain ⟨g2, g3, g4, g5, g6, g7, g8, g9, h0, h2, rfl, b3, b4, b5, b6, b7, b8, b9, c1, c2, c3⟩ := bn A
     obtain rfl := b3
     obtain rfl := b4
     obtain ⟨h3, h4, rfl⟩ := am b5
     obtain rfl := b6
     obtain ⟨h5, h6, rfl, c4, c5⟩ := aL b7
     obtain ⟨h7, h8, rfl⟩ := am c4
     obtain ⟨h9, i0, rfl⟩ := am c5
     obtain rfl := b8
     obtain ⟨i1, i2, rfl⟩ := am b9
     obtain rfl := c1
     obtain rfl := c2
     obtain rfl := c3
     refine aa [.fa 71 4 5 eR, .fa 69 1 1 dL] z <| o1 z (aF z z jm (co bor (lk (lk C 5 2) 1 1))) <| aa [.lenS 67 31 gL, .p] z <| oP z <| ?_
     obtain rfl := ai H
     exact OW.sub key (sb z)
  ·exact bH <| aN <| aS <| aM <| az <| sR <| oPP z <| nT <| aY (rs := [.tmp 2]) (vs := [S d a.length f]) z ⟨z, Y⟩ (fun w' hw' => by
    obtain rfl := ai H
    exact ⟨_, z, d, a.length, f, g, z, hw'.sel [1] z z⟩)
theorem oJ (w : World) {p0 : ae} {p1 : av} {i : List Value} {k : List Value} {r : Int} (H : kb p0 p1 = U r) (s : (aX).rd w [] p0 i) (t : (cn).rd w [] p1 k) :
    Calls Tryz.prog 180 #[.agg i.toArray, .agg k.toArray] w (fun en w' => en = .returned (I J r) ∧ Ext [] w w') := by
 obtain ⟨u, v, rfl, f, g⟩ := aI s
 obtain ⟨x, A, rfl⟩ := am f
 obtain ⟨C, D, rfl⟩ := am g
 obtain ⟨E, F, rfl, d, h⟩ := aL t
 obtain ⟨G, L, rfl⟩ := am d
 obtain ⟨M, P, rfl⟩ := am h
 unfold kb at H
 refine aG Tryz.func180 z Tryz.ntmps180 z (St.init w []) <| sR <| ob _ z fun Q => ob _ z fun R => oP z <| nQ <| ak <| sR <| o1 z (rx 0 0 _ z bU z) <| o1 z (rx 0 1 _ z cP z) <| bE H fun X m H => oq z (qc z uR (fun c a => fc c m (ah (ab f c a) (ab g c a)) (aE (ab d c a) (ab h c a)))) tt2 <| oP z <| nQ <| cI H z (fun H => ?_) (fun H => ?_)
 ·exact sR <| oP z <| nT <| ap <| xr 4 z (by cases H; exact q1)
 ·exact aw <| az <| ak <| dJ bT (by kernel_rfl) <| o1 z (rx 0 0 _ z bU z) <| o1 z (rx 0 1 _ z cP z) <| bE H fun Z o H => oq z (qc z ym (fun c a => gZ c o (ah (ab f c a) (ab g c a)) (aE (ab d c a) (ab h c a)))) tt2 <| aa [.fa 69 0 0 hG] z <| o1 z (r1 0 1 z cw z) <| aa [.fa 69 0 0 hG] z <| o1 z (r1 0 1 z cw z) <| bE H fun p q H => oq z (qc z Bc (fun c a => pW c q (ab d c a))) tt2 <| bE H fun a0 l H => bq (e := eI) (xs := p1.e_) (j := p) z z z z z aO ty3 z (ab d) l (by rw [Nat.mul_one]) <| o1 z (aF z z ty3 (bC (ab d) l)) <| oPP z <| cx <| az <| pT <| xr 4 z (by cases H; exact q1)
theorem oK (w : World) {p0 : ae} {p1 : aj} {Z : List Value} {a0 : List Value} {r : Int} (H : jW p0 p1 = U r) (g0 : (aX).rd w [] p0 Z) (g1 : (cU).rd w [] p1 a0) :
    Calls Tryz.prog 162 #[.agg Z.toArray, .agg a0.toArray] w (fun en w' => en = .returned (I J r) ∧ Ext [] w w') := by
 obtain ⟨j1, j2, rfl, k, l⟩ := aI g0
 obtain ⟨d7, d8, rfl⟩ := am k
 obtain ⟨d9, e0, rfl⟩ := am l
 obtain ⟨j3, j4, rfl, h, e1⟩ := cr g1
 obtain ⟨e2, e3, rfl⟩ := am h
 obtain rfl := e1
 unfold jW at H
 refine aG Tryz.func162 z Tryz.ntmps162 z (St.init w []) <| sR <| ob _ z fun m => ob _ z fun o => oP z <| nQ <| ak <| sR <| o1 z (rx 0 0 _ z bU z) <| o1 z (rx 0 1 _ z bv z) <| bE H fun j5 e4 H => oq z (qc z fn8 (fun f a => iN f e4 (ah (ab k f a) (ab l f a)) (aU (ab h f a) z))) tt2 <| oP z <| nQ <| cI H z (fun H => ?_) (fun H => ?_)
 ·exact sR <| oP z <| nT <| ap <| xr 4 z (by cases H; exact q1)
 ·refine aw <| az <| sR <| oP z <| nR <| o1 z (rx 0 1 _ z bv z) <| bE H fun g e5 H => aq z Dl z z z z (fun f a => pq f e5 (a.carve [] z z) (aU (ab h f a) z)) fun j6 f w2 a a1 => ?_
  obtain ⟨q, j7, s, e6, rfl, u⟩ := a1
  obtain rfl := aH (i := 0) u z
  refine ⟨St w [] [_, _, _], a.comp [] z z u, fun _ _ => Y, ?_⟩
  refine oP z <| nQ <| ak <| sR <| oP z <| nQ <| aB <| CW.at (ic (fun (d : Int) (c : Int) => St w [] [b m 27 [S d7 p0.b_.length d8, S d9 p0.k_.length e0], b o 30 [S e2 p1.a_.length e3, I J p1.j_], W (af eI 3) e6 g [S q g.length s]]) (fun d c => [(2, O (U ⟨m, 0, N⟩)), (3, O (U ⟨o, 0, N⟩)), (5, I J d), (6, S q g.length s), (7, I J c)]) (fun kk => fun d c => eW g p1 p0 kk d c = U r) (fun _ _ H => ?_) (fun k1 v d c H => ?_) bh ((-1)) (0) (H)) (ss [0, 1, 2] z z) (sb z)
  ·unfold eW at H
   exact absurd H (by simp)
  ·unfold eW at H
   refine ak <| sR <| aa [.p, .p, .lenS 31 3 aO, .p] z <| nQ <| cI H z (fun H => ?_) (fun H => ?_)
   ·refine aw <| az <| ak <| aB <| ak <| dJ bT (by kernel_rfl) <| aa [.p, .p, .p] z <| bE H fun a2 t H => aQ [(43, B a2), (2, O (U ⟨m, 0, N⟩)), (3, O (U ⟨o, 0, N⟩)), (5, I J d), (6, S q g.length s), (7, I J c)] 21 ?_ (fun key => OW.sub (R := [(2, O (U ⟨m, 0, N⟩)), (3, O (U ⟨o, 0, N⟩)), (5, I J d), (6, S q g.length s), (7, I J c), (22, B (decide (d < 0)))]) ?_ (sb z))
    ·refine cx <| az <| cI H z (fun H => ?_) (fun H => ?_)
     ·exact aT <| oPP z <| bE H fun a3 x H => bq (e := eI) (xs := g) (j := c) z z z z z aO ty3 z (au (e := af eI 3) (r := 2) z) x (by rw [Nat.mul_one]) <| o1 z (aF z z ty3 (bC (au (e := af eI 3) (r := 2) z) x)) <| oP z <| ay <| ca <| az <| aT <| aa [.p, .p, .p] z <| ay <| cQ (RW.at (v (a3) (J.wrap (c + 1)) (H)) (ss [0, 1, 2] z z) (sb z))
     ·exact aw <| ca <| az <| aT <| aa [.p, .p, .p] z <| ay <| cQ (RW.at (v (d) (J.wrap (c + 1)) (H)) (ss [0, 1, 2] z z) (sb z))
    ·clear H
     have H := t
     clear t
     generalize (decide (d < 0)) = a4 at H key ⊢
     cases a4
     ·have H := ba z H
      refine o1 z (rx 0 0 _ z bU z) <| aa [.fa 30 0 0 cb] z <| o1 z (r1 0 1 z ef z) <| oPP z <| bE H fun f0 A H => bq (e := eI) (xs := g) (j := c) z z z z z aO ty3 z (au (e := af eI 3) (r := 2) z) A (by rw [Nat.mul_one]) <| o1 z (aF z z ty3 (bC (au (e := af eI 3) (r := 2) z) A)) <| bE H fun C a5 H => cB z z z z z dZ cc z h a5 fun f1 f2 M P => ?_
      obtain ⟨f3, f4, f5, f6, f7, f8, f9, g2, g3, g4, rfl, a6, a7, a8, a9, b0, b1, b2, b3, b4, b5⟩ := bn M
      obtain rfl := a6
      obtain rfl := a7
      obtain ⟨g5, g6, rfl⟩ := am a8
      obtain rfl := a9
      obtain ⟨g7, g8, rfl, D, E⟩ := aL b0
      obtain ⟨b6, b7, rfl⟩ := am D
      obtain ⟨b8, b9, rfl⟩ := am E
      obtain rfl := b1
      obtain ⟨g9, h0, rfl⟩ := am b2
      obtain rfl := b3
      obtain rfl := b4
      obtain rfl := b5
      refine aa [.fa 71 4 5 eR] z <| o1 z (cV (cs := [S b6 C.n_.e_.length b7, S b8 C.n_.d_.length b9]) z z cP (co bor (lk P 5 2)) z) <| bE H fun h1 c0 H => oq z (qc z Be (fun f a => oJ f c0 (ah (ab k f a) (ab l f a)) (aE (ab D f a) (ab E f a)))) tt2 <| o1 z (rx 0 0 _ z bU z) <| aa [.fa 30 0 0 cb] z <| o1 z (r1 0 1 z ef z) <| oP z <| bE H fun F c1 H => cB z z z z z dZ cc z h c1 fun h2 h3 Q X => ?_
      obtain ⟨h4, h5, h6, h7, h8, h9, i0, i1, i2, i3, rfl, c2, c3, c4, c5, c6, c7, c8, c9, d0, d1⟩ := bn Q
      obtain rfl := c2
      obtain rfl := c3
      obtain ⟨i4, i5, rfl⟩ := am c4
      obtain rfl := c5
      obtain ⟨i6, i7, rfl, G, L⟩ := aL c6
      obtain ⟨d2, d3, rfl⟩ := am G
      obtain ⟨d4, d5, rfl⟩ := am L
      obtain rfl := c7
      obtain ⟨i8, i9, rfl⟩ := am c8
      obtain rfl := c9
      obtain rfl := d0
      obtain rfl := d1
      refine aa [.fa 71 4 5 eR] z <| o1 z (cV (cs := [S d2 F.n_.e_.length d3, S d4 F.n_.d_.length d5]) z z cP (co bor (lk X 5 2)) z) <| bE H fun j0 d6 H => oq z (qc z Be (fun f a => oJ f d6 (ah (ab k f a) (ab l f a)) (aE (ab G f a) (ab L f a)))) tt2 <| oP z <| oP z <| ?_
      obtain rfl := ai H
      exact OW.sub key (sb z)
     ·have H := bb z H
      refine aa [.p, .p, .p, .p, .p, .p, .p, .p, .p, .p, .p, .p, .p, .p, .p, .p, .p, .p, .p, .p, .p] z ?_
      obtain rfl := ai H
      exact OW.sub key (sb z)
   ·exact bH <| aN <| aS <| aM <| az <| sR <| oPP z <| nT <| xr 4 z (by cases H; exact q1)
theorem sa (w : World) {s : List Nat} {p0 : ae} {p1 : aj} {p2 : Int} {b7 : List Value} {b8 : List Value} {r : aj × (List Int)} (H : ld p0 p1 p2 = U r) (HS : St w s [] w) (g0 : (aX).rd w s p0 b7) (g1 : (cU).rd w s p1 b8) :
    Calls Tryz.prog 146 #[.agg b7.toArray, .agg b8.toArray, I J p2] w (fun en w' => ∃ v, en = .returned v ∧ ∃ (a0 : Option Addr), ∃ (n0 : Nat), ∃ (c0 : Nat), ∃ (F0 : List Nat), ∃ (a1 : Option Addr), ∃ (n1 : Nat), ∃ (c1 : Nat), ∃ (F1 : List Nat), v = .tuple #[.agg #[S a0 n0 c0, I J r.1.j_], S a1 n1 c1] ∧ St w s [W (af (aD) 71) F0 r.1.a_ [S a0 n0 c0], W (af eI 3) F1 r.2 [S a1 n1 c1]] w') := by
 obtain ⟨h8, h9, rfl, a4, a5⟩ := aI g0
 obtain ⟨b9, c2, rfl⟩ := am a4
 obtain ⟨c3, c4, rfl⟩ := am a5
 obtain ⟨i0, i1, rfl, a7, f6⟩ := cr g1
 obtain ⟨i2, i3, rfl⟩ := am a7
 obtain rfl := f6
 unfold ld at H
 refine aG Tryz.func146 z Tryz.ntmps146 z (HS) <| sR <| ob _ z fun Q => ob _ z fun i4 => aC z z z z bv (fun _ => kp) fun X => oP z <| nR <| o1 z (rx 0 1 _ z bv z) <| bE H fun d f7 H => aq z tY z z z z (fun f c => ik f f7 (c.carve [] z z) (aU (ab a7 f c) z)) fun i5 f w2 c c6 => ?_
 obtain ⟨k, i6, j, c5, rfl, a8⟩ := c6
 obtain rfl := aH (i := 0) a8 z
 refine ⟨St w s [_, _, _, _], c.comp [] z z a8, fun _ _ => Y, ?_⟩
 refine aC z z z z bv (fun _ => kp) fun Z => sC 0 [S k d.a_.length j, I J d.j_] [_, _] 4 z bv z <| nR <| bM (e := eI) z z z z aO ty3 (fun _ => kp) fun a2 => oP z <| nQ <| ak <| sR <| o1 z (rx 0 0 _ z bU z) <| o1 z (rx 0 1 _ z bv z) <| bE H fun i7 f8 H => oq z (qc z fn8 (fun f c => iN f f8 (ah (ab a4 f c) (ab a5 f c)) (aU (ab a7 f c) z))) tt2 <| oP z <| nQ <| cI H z (fun H => ?_) (fun H => ?_)
 ·exact sR <| o1 z (rx 0 4 _ z bv z) <| oP z <| sC 0 [S k d.a_.length j, I J d.j_] [_, _] 2 z bv z <| oP z <| nT <| ap <| aY (rs := [.cell 6 30, .tmp 7]) (vs := [.agg #[S k d.a_.length j, I J d.j_], S (U ⟨a2, 0, N⟩) 0 0]) z ⟨⟨_, [S k d.a_.length j, I J d.j_], _, _, _, z, bv, (bl (T := 30) 0 (bK (i := 2) z) z), z, z⟩, z, Y⟩ (fun w' hw' => by
   obtain rfl := ai H
   exact ⟨_, z, k, d.a_.length, j, c5, (U ⟨a2, 0, N⟩), 0, 0, [a2], z, hw'.sel [3, 5] z z⟩)
 ·refine aw <| az <| ak <| aB <| CW.at (uN (fun (m : List aR) (C : List Nat) (g : List Int) (l : Option Addr) (o : Nat) (t : List Nat) => St w s [b Q 27 [S b9 p0.b_.length c2, S c3 p0.k_.length c4], b X 30 [S N 0 0, I J 0], b Z 30 [S k d.a_.length j, I J d.j_], W (af (aD) 71) C m [S k d.a_.length j], W (af eI 3) t g [S l g.length o]]) (fun m C g l o t => [(2, I J p2), (3, O (U ⟨Q, 0, N⟩)), (6, O (U ⟨X, 0, N⟩)), (8, O (U ⟨Z, 0, N⟩)), (9, S l g.length o)]) (fun kk => fun m C g l o t => l.isNone = n ∧ gl d p2 p0 kk m g = U r) (fun _ _ _ _ _ _ H => ?_) (fun k1 c7 m C g l o t ⟨f9, H⟩ => ?_) bh (d.a_) (c5) (([] : List Int)) ((U ⟨a2, 0, N⟩)) (0) ([a2]) (⟨z, H⟩)) (ss [0, 2, 4, 3, 5] z z) (sb z)
  ·unfold gl at H
   exact absurd H (by simp)
  ·unfold gl at H
   refine ak <| sR <| o1 z (rx 0 2 _ z bv z) <| bE H fun a9 c8 H => oq z (qc z AW (fun f c => ns f c8 (aU (x := (aj.mk m d.j_)) (c0 := [S k d.a_.length j]) (c1 := [I J d.j_]) (au (e := af (aD) 71) (r := 3) z f c) z))) tt2 <| aa [.p, .p, .p] z <| bE H fun c9 a6 H => aQ [(29, B c9), (2, I J p2), (3, O (U ⟨Q, 0, N⟩)), (6, O (U ⟨X, 0, N⟩)), (8, O (U ⟨Z, 0, N⟩)), (9, S l g.length o)] 5 ?_ (fun key => OW.sub (R := [(2, I J p2), (3, O (U ⟨Q, 0, N⟩)), (6, O (U ⟨X, 0, N⟩)), (8, O (U ⟨Z, 0, N⟩)), (9, S l g.length o), (24, B (decide (a9 > p2)))]) ?_ (sb z))
   ·refine nQ <| cI H z (fun H => ?_) (fun H => ?_)
    ·refine aw <| az <| aB <| sR <| o1 z (rx 0 0 _ z bU z) <| o1 z (rx 0 2 _ z bv z) <| bE H fun D d0 H => oq z (qc z Ba (fun f c => oK f d0 (ah (ab a4 f c) (ab a5 f c)) (aU (x := (aj.mk m d.j_)) (c0 := [S k d.a_.length j]) (c1 := [I J d.j_]) (au (e := af (aD) 71) (r := 3) z f c) z))) tt2 <| oP z <| nQ <| ak <| bE H fun a E H => qZ (fun f c => foc (r := 3) c z E) fun d1 d2 g7 g8 => ky (fun f c => c.1) fun d3 => ?_
     obtain ⟨u, A⟩ := d3
     refine CW.weak (C' := St w s [_, _, _, _, _, _, _]) ?_ (fun f c => c.2)
     refine mi (fun f c => dy (i := 6) c z) fun b0 b1 d4 => mi (fun _ h => h) fun F G d5 => mi (fun _ h => h) fun L M d6 => mi (fun _ h => h) fun b2 b3 d7 => ky (fun f c => c.1) fun d8 => ?_
     subst d8
     refine CW.weak (C' := St w s [_, _, _, _, _, _, _, _, _, _, _]) ?_ (fun f c => c.2)
     refine cW 10 [(0, y), (1, y), (2, y), (3, y), (4, y), (5, y), (6, y), (7, y), (8, y), (9, n)] (St w s [b Q 27 [S b9 p0.b_.length c2, S c3 p0.k_.length c4], b X 30 [S N 0 0, I J 0], b Z 30 [S k d.a_.length j, I J d.j_], Res.nil, W (af eI 3) t g [S l g.length o], Res.hole (aD) 71 d1 j m D.toNat d2 [B a.s_, I J a.l_.g_, I J a.l_.c_, S b0 a.r_.length b1, I J a.w_, S F a.n_.e_.length G, S L a.n_.d_.length M, I J a.v_, S b2 a.b_.length b3, I J a.m_, I J a.o_, I J a.p_], Res.nil, W (af eI 3) d4 a.r_ [S b0 a.r_.length b1], W (af eI 3) d5 a.n_.e_ [S F a.n_.e_.length G], W (af (af eI 3) 31) d6 a.n_.d_ [S L a.n_.d_.length M], W (af eI 3) d7 a.b_ [S b2 a.b_.length b3]]) bT (by kernel_rfl) (aV (bF (fe (bF (aV be))))) (tk 11 z) <| aa [.fa 30 0 0 cb] z <| br z (ax z) (r1 0 2 z ef z) <| aa [.p, .fa 30 0 0 cb] z <| br z (ax z) (r1 0 2 z ef z) <| oP z <| ii z z z z z dZ cc z (gp (p := 5) z) A u (dg E).1 <| aa [.fa 71 4 5 eR] z <| br z (ax z) (zo [S F a.n_.e_.length G, S L a.n_.d_.length M] 5 5 z z z cP (by first | rfl | simp only [dG, eg, dD]) z z) <| bE H fun a3 d9 H => aq z nY z z z z (fun f c => eA f d9 (c.carve [] z z) (aE (x := a.n_) (c0 := [S F a.n_.e_.length G]) (c1 := [S L a.n_.d_.length M]) (au (e := af eI 3) (r := 8) z f c) (au (e := af (af eI 3) 31) (r := 9) z f c))) fun g9 f w2 c b5 => ?_
     obtain ⟨e0, h0, e1, h2, e2, h3, e3, h4, rfl, P⟩ := b5
     obtain rfl := aH (i := 0) P z
     obtain rfl := aH (i := 1) P z
     refine ⟨St w s [_, _, _, _, _, _, _, _, _, _, _, _, _], c.comp [] z z P, (tk 11 z), ?_⟩
     refine aJ <| iY <| ii z z z z z dZ cc z (gp (p := 5) z) A u (dg E).1 <| aa [.fa 71 4 5 eR] z <| fQ (off := 5) [S e0 a3.e_.length e1, S e2 a3.d_.length e3] (p := 5) (c' := [_, _, _, _, _, _, _, _, _, _, _, _]) z z z z z (by first | rfl | simp only [dG, eg, dD]) z cP z z (al z) z z z kp <| nQ <| ak <| CW.weak (C' := St w s [_, _, _, _, _, _, _, _, _, _, _]) ?_ (ss [0, 1, 2, 4, 5, 7, 8, 9, 10, 11, 12] z z)
     exact aT <| aa [.fa 30 0 0 cb] z <| o1 z (r1 0 2 z ef z) <| oP z <| ii z z z z z dZ cc z (gp (p := 4) z) A u (dg E).1 <| aa [.fa 71 5 7 mh] z <| fQ (off := 7) [I J 0] (p := 4) (c' := [_, _, _, _, _, _, _, _, _, _, _, _]) z z z z z (by first | rfl | simp only [dG, eg, dD]) z ty3 z z (al z) z z z kp <| nQ <| aT <| oPP z <| bA (val := I J) (h1 := fun _ => z) [D] [(0, [I J D])] z z z z z aO ty3 z z z ⟨z, z, nl z, Y⟩ z z (fun _ => kp) fun h5 => bE H fun e4 b4 H => bY (r := 3) (ys := ([D] : List Int)) z z z z z z aO ty3 z z z (au (e := af eI 3) (r := 11) z) b4 (fun _ _ _ => kp) fun e5 e6 e7 => cg z (fun f c => eD (i := 3) c z (eG b4)) fun b6 => oP z <| ay <| ca <| gW (fun f c => cz (x0 := a.s_) (x1 := a.l_.g_) (x2 := a.l_.c_) (x4 := a.w_) (x7 := 0) (x9 := a.m_) (x10 := a.o_) (x11 := a.p_) [5, 9, 10, 8] c z z) fun h6 => fo (C' := St w s [_, _, _, _, _, _, _, _, _, _, _, _, _]) (fun _ h => h) <| gW (fun f c => unf (p := 4) (q := 12) c z z z A u) fun e9 => fo (C' := St w s [_, _, _, _, _, _, _, _, _, _, _, _, _, _]) (fun _ h => h) <| cQ (RW.at (c7 ((m.set D.toNat ({ a with n_ := a3, v_ := 0 }))) (e9) (e4) (e5) (e6) (e7) (⟨b6, H⟩)) (ss [0, 1, 2, 13, 3] z z) (sb z))
    ·exact bH <| aN <| aS <| aM <| az <| sR <| o1 z (rx 0 2 _ z bv z) <| oP z <| sC 0 [S k d.a_.length j, I J d.j_] [_, _] 1 z bv z <| oP z <| nT <| aY (rs := [.cell 6 30, .tmp 7]) (vs := [.agg #[S k d.a_.length j, I J d.j_], S l g.length o]) z ⟨⟨_, [S k d.a_.length j, I J d.j_], _, _, _, z, bv, (bl (T := 30) 0 (bK (i := 1) z) z), z, z⟩, z, Y⟩ (fun w' hw' => by
      obtain rfl := ai H
      exact ⟨_, z, k, d.a_.length, j, C, l, g.length, o, t, z, hw'.sel [3, 4] z z⟩)
   ·clear H
    have H := a6
    clear a6
    generalize (decide (a9 > p2)) = f0 at H key ⊢
    cases f0
    ·have H := ba z H
     refine aa [.p, .p, .p, .p, .p] z ?_
     obtain rfl := ai H
     exact OW.sub key (sb z)
    ·have H := bb z H
     refine o1 z (rx 0 0 _ z bU z) <| o1 z (rx 0 2 _ z bv z) <| bE H fun h7 f1 H => oq z (qc z Ba (fun f c => oK f f1 (ah (ab a4 f c) (ab a5 f c)) (aU (x := (aj.mk m d.j_)) (c0 := [S k d.a_.length j]) (c1 := [I J d.j_]) (au (e := af (aD) 71) (r := 3) z f c) z))) tt2 <| oP z <| oP z <| ?_
     obtain rfl := ai H
     exact OW.sub key (sb z)
theorem bV (w : World) {D : List Nat} {p0 : ae} {p1 : cA} {p2 : aj} {p3 : bw} {p4 : Int} {p5 : bd} {p6 : Int} {r9 : List Value} {s0 : List Value} {s1 : List Value} {s2 : List Value} {r : aj × bd × Int} (H : jF p0 p1 p2 p3 p4 p5 p6 = U r) (HS : St w D [] w) (g0 : (aX).rd w D p0 r9) (g2 : (cU).rd w D p2 s0) (g3 : (fD).rd w D p3 s1) (g5 : (iq).rd w D p5 s2) :
    Calls Tryz.prog 125 #[.agg r9.toArray, .agg #[I J p1.F_, I J p1.G_, I J p1.H_, I J p1.m_, I J p1.a_, I J p1.D_, B p1.E_], .agg s0.toArray, .agg s1.toArray, I J p4, .agg s2.toArray, I J p6] w (fun en w' => ∃ v, en = .returned v ∧ ∃ (a0 : Option Addr), ∃ (n0 : Nat), ∃ (c0 : Nat), ∃ (F0 : List Nat), ∃ (a1 : Option Addr), ∃ (n1 : Nat), ∃ (c1 : Nat), ∃ (F1 : List Nat), v = .tuple #[.agg #[S a0 n0 c0, I J r.1.j_], .agg #[S a1 n1 c1, I J r.2.1.c_], I J r.2.2] ∧ St w D [W (af (aD) 71) F0 r.1.a_ [S a0 n0 c0], W (af e8 5) F1 r.2.1.q_ [S a1 n1 c1]] w') := by
 obtain ⟨M6, M7, rfl, b7, b8⟩ := aI g0
 obtain ⟨e9, f0, rfl⟩ := am b7
 obtain ⟨f1, f2, rfl⟩ := am b8
 obtain ⟨M8, M9, rfl, e3, C0⟩ := cr g2
 obtain ⟨f3, f4, rfl⟩ := am e3
 obtain rfl := C0
 obtain ⟨N0, N1, rfl, j6, C1⟩ := jQ g3
 obtain ⟨s3, s4, rfl⟩ := am j6
 obtain rfl := C1
 obtain ⟨N2, N3, rfl, f5, C2⟩ := hY g5
 obtain ⟨f6, f7, rfl⟩ := am f5
 obtain rfl := C2
 unfold jF at H
 refine aG Tryz.func125 z Tryz.ntmps125 z (HS) <| sR <| ob _ z fun m => ob _ z fun o => ob _ z fun s => ob _ z fun b5 => ob _ z fun t => aC z z z z bv (fun _ => kp) fun A => aC z z z z bN (fun _ => kp) fun u => oP z <| nQ <| ak <| sR <| o1 z (rx 0 0 _ z bU z) <| o1 z (rx 0 1 _ z mY z) <| o1 z (rx 0 2 _ z bv z) <| bE H fun s5 C3 H => oq z (qc z Di (fun d c => ug d (p1 := p1) C3 (ah (ab b7 d c) (ab b8 d c)) (aU (ab e3 d c) z))) tt2 <| oPP z <| bE H fun g9 l3 H => aQ [(39, B g9), (4, I J p4), (6, I J p6), (7, O (U ⟨m, 0, N⟩)), (8, O (U ⟨o, 0, N⟩)), (9, O (U ⟨s, 0, N⟩)), (10, O (U ⟨b5, 0, N⟩)), (12, O (U ⟨t, 0, N⟩)), (14, O (U ⟨A, 0, N⟩)), (15, O (U ⟨u, 0, N⟩))] 5 ?_ (fun key => OW.sub (R := [(4, I J p4), (6, I J p6), (7, O (U ⟨m, 0, N⟩)), (8, O (U ⟨o, 0, N⟩)), (9, O (U ⟨s, 0, N⟩)), (10, O (U ⟨b5, 0, N⟩)), (12, O (U ⟨t, 0, N⟩)), (14, O (U ⟨A, 0, N⟩)), (15, O (U ⟨u, 0, N⟩)), (34, B (!s5))]) ?_ (sb z))
 ·refine oP z <| aQ [(44, B (g9 || (decide (p3.z_ < 0)))), (4, I J p4), (6, I J p6), (7, O (U ⟨m, 0, N⟩)), (8, O (U ⟨o, 0, N⟩)), (9, O (U ⟨s, 0, N⟩)), (10, O (U ⟨b5, 0, N⟩)), (12, O (U ⟨t, 0, N⟩)), (14, O (U ⟨A, 0, N⟩)), (15, O (U ⟨u, 0, N⟩))] 4 ?_ (fun key => OW.sub (R := [(4, I J p4), (6, I J p6), (7, O (U ⟨m, 0, N⟩)), (8, O (U ⟨o, 0, N⟩)), (9, O (U ⟨s, 0, N⟩)), (10, O (U ⟨b5, 0, N⟩)), (12, O (U ⟨t, 0, N⟩)), (14, O (U ⟨A, 0, N⟩)), (15, O (U ⟨u, 0, N⟩)), (40, B g9)]) ?_ (sb z))
  ·refine oP z <| bE H fun l4 l5 H => aQ [(49, B l4), (4, I J p4), (6, I J p6), (7, O (U ⟨m, 0, N⟩)), (8, O (U ⟨o, 0, N⟩)), (9, O (U ⟨s, 0, N⟩)), (10, O (U ⟨b5, 0, N⟩)), (12, O (U ⟨t, 0, N⟩)), (14, O (U ⟨A, 0, N⟩)), (15, O (U ⟨u, 0, N⟩))] 4 ?_ (fun key => OW.sub (R := [(4, I J p4), (6, I J p6), (7, O (U ⟨m, 0, N⟩)), (8, O (U ⟨o, 0, N⟩)), (9, O (U ⟨s, 0, N⟩)), (10, O (U ⟨b5, 0, N⟩)), (12, O (U ⟨t, 0, N⟩)), (14, O (U ⟨A, 0, N⟩)), (15, O (U ⟨u, 0, N⟩)), (45, B (g9 || (decide (p3.z_ < 0))))]) ?_ (sb z))
   ·refine oP z <| bE H fun l6 l7 H => aQ [(54, B l6), (4, I J p4), (6, I J p6), (7, O (U ⟨m, 0, N⟩)), (8, O (U ⟨o, 0, N⟩)), (9, O (U ⟨s, 0, N⟩)), (10, O (U ⟨b5, 0, N⟩)), (12, O (U ⟨t, 0, N⟩)), (14, O (U ⟨A, 0, N⟩)), (15, O (U ⟨u, 0, N⟩))] 4 ?_ (fun key => OW.sub (R := [(4, I J p4), (6, I J p6), (7, O (U ⟨m, 0, N⟩)), (8, O (U ⟨o, 0, N⟩)), (9, O (U ⟨s, 0, N⟩)), (10, O (U ⟨b5, 0, N⟩)), (12, O (U ⟨t, 0, N⟩)), (14, O (U ⟨A, 0, N⟩)), (15, O (U ⟨u, 0, N⟩)), (50, B l4)]) ?_ (sb z))
    ·refine oP z <| bE H fun C4 l8 H => aQ [(62, B C4), (4, I J p4), (6, I J p6), (7, O (U ⟨m, 0, N⟩)), (8, O (U ⟨o, 0, N⟩)), (9, O (U ⟨s, 0, N⟩)), (10, O (U ⟨b5, 0, N⟩)), (12, O (U ⟨t, 0, N⟩)), (14, O (U ⟨A, 0, N⟩)), (15, O (U ⟨u, 0, N⟩))] 7 ?_ (fun key => OW.sub (R := [(4, I J p4), (6, I J p6), (7, O (U ⟨m, 0, N⟩)), (8, O (U ⟨o, 0, N⟩)), (9, O (U ⟨s, 0, N⟩)), (10, O (U ⟨b5, 0, N⟩)), (12, O (U ⟨t, 0, N⟩)), (14, O (U ⟨A, 0, N⟩)), (15, O (U ⟨u, 0, N⟩)), (55, B l6)]) ?_ (sb z))
     ·refine nQ <| cI H z (fun H => ?_) (fun H => ?_)
      ·refine ak <| cW 3 [(0, y), (2, y), (1, n)] (St w D [b m 27 [S e9 p0.b_.length f0, S f1 p0.k_.length f2], b o 130 [I J p1.F_, I J p1.G_, I J p1.H_, I J p1.m_, I J p1.a_, I J p1.D_, B p1.E_], b s 30 [S f3 p2.a_.length f4, I J p2.j_], b b5 33 [S s3 p3.u_.length s4, I J p3.z_], b t 152 [S f6 p5.q_.length f7, I J p5.c_], b A 30 [S N 0 0, I J 0], b u 152 [S N 0 0, I J 0]]) bT (by kernel_rfl) (aV (aV be)) (tk 7 z) <| br z (ax z) (rx 0 2 _ z bv z) <| br z (ax z) (rx 0 4 _ z bN z) <| bE H fun g1 C5 H => aq z tY z z z z (fun d c => ik d C5 (c.carve [] z z) (aU (ab e3 d c) z)) fun N4 d w2 c s7 => ?_
       obtain ⟨j7, N5, j8, C6, rfl, l9⟩ := s7
       obtain rfl := aH (i := 0) l9 z
       refine ⟨St w D [_, _, _, _, _, _, _, _], c.comp [] z z l9, (tk 7 z), ?_⟩
       refine aJ <| iY <| bE H fun g4 C7 H => aq z qv z z z z (fun d c => eX d C7 (c.carve [] z z) (bm (ab f5 d c) z)) fun N6 d w2 c s8 => ?_
       obtain ⟨j9, N7, k0, C8, rfl, m0⟩ := s8
       obtain rfl := aH (i := 0) m0 z
       refine ⟨St w D [_, _, _, _, _, _, _, _, _], c.comp [] z z m0, fun _ _ => Y, ?_⟩
       exact sC 0 [S j7 g1.a_.length j8, I J g1.j_] [_, _] 5 z bv z <| sC 0 [S j9 g4.q_.length k0, I J g4.c_] [_, _] 6 z bN z <| oP z <| nT <| ap <| aY (rs := [.cell 14 30, .cell 15 152, .tmp 16]) (vs := [.agg #[S j7 g1.a_.length j8, I J g1.j_], .agg #[S j9 g4.q_.length k0, I J g4.c_], I J 2]) z ⟨⟨_, [S j7 g1.a_.length j8, I J g1.j_], _, _, _, z, bv, (bl (T := 30) 0 (bK (i := 5) z) z), z, z⟩, ⟨_, [S j9 g4.q_.length k0, I J g4.c_], _, _, _, z, bN, (bl (T := 152) 0 (bK (i := 6) z) z), z, z⟩, z, Y⟩ (fun w' hw' => by
        obtain rfl := ai H
        exact ⟨_, z, j7, g1.a_.length, j8, C6, j9, g4.q_.length, k0, C8, z, hw'.sel [7, 8] z z⟩)
      ·refine aw <| az <| sR <| o1 z (rx 0 0 _ z bU z) <| o1 z (rx 0 2 _ z bv z) <| o1 z (rx 0 3 _ z lI z) <| bE H fun Z C9 H => oq z (qc z Cj (fun d c => rW d C9 (ah (ab b7 d c) (ab b8 d c)) (aU (ab e3 d c) z) (bX (ab j6 d c) z))) tt2 <| oP z <| nQ <| ak <| ak <| dJ bT (by kernel_rfl) <| aa [.fa 30 1 1 mo] z <| o1 z (r1 1 2 z ty3 z) <| oPP z <| bE H fun D0 k2 H => aQ [(86, B D0), (4, I J p4), (6, I J p6), (7, O (U ⟨m, 0, N⟩)), (8, O (U ⟨o, 0, N⟩)), (9, O (U ⟨s, 0, N⟩)), (10, O (U ⟨b5, 0, N⟩)), (12, O (U ⟨t, 0, N⟩)), (14, O (U ⟨A, 0, N⟩)), (15, O (U ⟨u, 0, N⟩)), (17, I J Z)] 12 ?_ (fun key => OW.sub (R := [(4, I J p4), (6, I J p6), (7, O (U ⟨m, 0, N⟩)), (8, O (U ⟨o, 0, N⟩)), (9, O (U ⟨s, 0, N⟩)), (10, O (U ⟨b5, 0, N⟩)), (12, O (U ⟨t, 0, N⟩)), (14, O (U ⟨A, 0, N⟩)), (15, O (U ⟨u, 0, N⟩)), (17, I J Z), (74, B (p2.j_ == 99999))]) ?_ (sb z))
       ·refine cx <| az <| cI H z (fun H => ?_) (fun H => ?_)
        ·refine ak <| cW 3 [(0, y), (2, y), (1, n)] (St w D [b m 27 [S e9 p0.b_.length f0, S f1 p0.k_.length f2], b o 130 [I J p1.F_, I J p1.G_, I J p1.H_, I J p1.m_, I J p1.a_, I J p1.D_, B p1.E_], b s 30 [S f3 p2.a_.length f4, I J p2.j_], b b5 33 [S s3 p3.u_.length s4, I J p3.z_], b t 152 [S f6 p5.q_.length f7, I J p5.c_], b A 30 [S N 0 0, I J 0], b u 152 [S N 0 0, I J 0]]) bT (by kernel_rfl) (aV (aV be)) (tk 7 z) <| br z (ax z) (rx 0 2 _ z bv z) <| br z (ax z) (rx 0 4 _ z bN z) <| bE H fun d0 s9 H => aq z tY z z z z (fun d c => ik d s9 (c.carve [] z z) (aU (ab e3 d c) z)) fun E7 d w2 c q2 => ?_
         obtain ⟨h0, E8, h1, t0, rfl, k3⟩ := q2
         obtain rfl := aH (i := 0) k3 z
         refine ⟨St w D [_, _, _, _, _, _, _, _], c.comp [] z z k3, (tk 7 z), ?_⟩
         refine aJ <| iY <| bE H fun d1 t1 H => aq z qv z z z z (fun d c => eX d t1 (c.carve [] z z) (bm (ab f5 d c) z)) fun E9 d w2 c q3 => ?_
         obtain ⟨h2, F2, h3, t2, rfl, k4⟩ := q3
         obtain rfl := aH (i := 0) k4 z
         refine ⟨St w D [_, _, _, _, _, _, _, _, _], c.comp [] z z k4, fun _ _ => Y, ?_⟩
         exact sC 0 [S h0 d0.a_.length h1, I J d0.j_] [_, _] 5 z bv z <| sC 0 [S h2 d1.q_.length h3, I J d1.c_] [_, _] 6 z bN z <| oP z <| nT <| ap <| aY (rs := [.cell 14 30, .cell 15 152, .tmp 16]) (vs := [.agg #[S h0 d0.a_.length h1, I J d0.j_], .agg #[S h2 d1.q_.length h3, I J d1.c_], I J 3]) z ⟨⟨_, [S h0 d0.a_.length h1, I J d0.j_], _, _, _, z, bv, (bl (T := 30) 0 (bK (i := 5) z) z), z, z⟩, ⟨_, [S h2 d1.q_.length h3, I J d1.c_], _, _, _, z, bN, (bl (T := 152) 0 (bK (i := 6) z) z), z, z⟩, z, Y⟩ (fun w' hw' => by
          obtain rfl := ai H
          exact ⟨_, z, h0, d0.a_.length, h1, t0, h2, d1.q_.length, h3, t2, z, hw'.sel [7, 8] z z⟩)
        ·refine aw <| az <| sR <| o1 z (rx 0 2 _ z bv z) <| bE H fun g t3 H => aq z tY z z z z (fun d c => ik d t3 (c.carve [] z z) (aU (ab e3 d c) z)) fun F3 d w2 c q4 => ?_
         obtain ⟨E, F4, l, t4, rfl, k5⟩ := q4
         obtain rfl := aH (i := 0) k5 z
         refine ⟨St w D [_, _, _, _, _, _, _, _], c.comp [] z z k5, fun _ _ => Y, ?_⟩
         refine aC z z z z bv (fun _ => kp) fun M => sC 0 [S E g.a_.length l, I J g.j_] [_, _] 8 z bv z <| nR <| aa [.fa 30 0 0 cb] z <| o1 z (r1 0 2 z ef z) <| oP z <| bE H fun a2 t5 H => cB z z z z z dZ cc z e3 t5 fun F5 F6 q5 q6 => ?_
         obtain ⟨F7, F8, F9, G0, G1, G2, G3, G4, G5, G6, rfl, t6, t7, m1, t8, t9, u0, m2, u1, u2, u3⟩ := bn q5
         obtain rfl := t6
         obtain rfl := t7
         obtain ⟨u4, u5, rfl⟩ := am m1
         obtain rfl := t8
         obtain ⟨G7, G8, rfl, m3, m4⟩ := aL t9
         obtain ⟨u6, u7, rfl⟩ := am m3
         obtain ⟨u8, u9, rfl⟩ := am m4
         obtain rfl := u0
         obtain ⟨v0, v1, rfl⟩ := am m2
         obtain rfl := u1
         obtain rfl := u2
         obtain rfl := u3
         refine o1 z (cV (cs := [B a2.s_, I J a2.l_.g_, I J a2.l_.c_, S u4 a2.r_.length u5, I J a2.w_, S u6 a2.n_.e_.length u7, S u8 a2.n_.d_.length u9, I J a2.v_, S v0 a2.b_.length v1, I J a2.m_, I J a2.o_, I J a2.p_]) z z cc (co bor q6) z) <| bE H fun a v2 H => aq z AX z z z z (fun d c => ms d v2 (c.carve [] z z) (gU z z (ab m1 d c) z (aE (ab m3 d c) (ab m4 d c)) z (ab m2 d c) z z z)) fun G9 d w2 c q7 => ?_
         obtain ⟨a9, H0, b0, i7, m5, H1, m6, H2, m7, H3, m8, H4, b1, H5, b2, i8, rfl, e5⟩ := q7
         obtain rfl := aH (i := 0) e5 z
         obtain rfl := aH (i := 1) e5 z
         obtain rfl := aH (i := 2) e5 z
         obtain rfl := aH (i := 3) e5 z
         refine ⟨St w D [_, _, _, _, _, _, _, _, _, _, _, _, _], c.comp [] z z e5, fun _ _ => Y, ?_⟩
         refine aC z z z z cc (fun _ => kp) fun d2 => sC 0 [B a.s_, I J a.l_.g_, I J a.l_.c_, S a9 a.r_.length b0, I J a.w_, S m5 a.n_.e_.length m6, S m7 a.n_.d_.length m8, I J a.v_, S b1 a.b_.length b2, I J a.m_, I J a.o_, I J a.p_] [_, _, _, _, _, _, _, _, _, _, _, _] 13 z cc z <| nR <| o1 z (rx 0 0 _ z bU z) <| aa [.fa 71 4 5 eR] z <| o1 z (rx 5 13 _ z cP z) <| o1 z (rx 0 3 _ z lI z) <| oP z <| bE H fun f v3 H => aq z wU z z z z (fun d c => jT d v3 (c.carve [] z z) (ah (ab b7 d c) (ab b8 d c)) (aE (x := a.n_) (c0 := [S m5 a.n_.e_.length m6]) (c1 := [S m7 a.n_.d_.length m8]) (au (e := af eI 3) (r := 10) z d c) (au (e := af (af eI 3) 31) (r := 11) z d c)) (bX (ab j6 d c) z)) fun H6 d w2 c q8 => ?_
         obtain ⟨a3, H7, a4, i9, a5, H8, a6, j0, rfl, h4⟩ := q8
         obtain rfl := aH (i := 0) h4 z
         obtain rfl := aH (i := 1) h4 z
         refine ⟨St w D [_, _, _, _, _, _, _, _, _, _, _, _, _, _, _, _], c.comp [] z z h4, fun _ _ => Y, ?_⟩
         refine aa [.p, .p, .p, .fa 71 4 5 eR] z <| sC 5 [S a3 f.1.e_.length a4, S a5 f.1.d_.length a6] [_, _, _, _, _, _, _, _, _, _, _, _] 13 z cP z <| nR <| aa [.fa 30 1 1 mo] z <| o1 z (r1 1 2 z ty3 z) <| aa [.p, .fa 30 1 1 mo] z <| sC 1 [I J (J.wrap (p2.j_ + 1))] [_, _] 8 z ty3 z <| nR <| oP z <| nQ <| uz (fun (C : Int) (g6 : Bool) => St w D [b t 152 [S f6 p5.q_.length f7, I J p5.c_], b A 30 [S N 0 0, I J 0], b u 152 [S N 0 0, I J 0], b M 30 [S E g.a_.length l, I J (J.wrap (p2.j_ + 1))], W (af (aD) 71) t4 g.a_ [S E g.a_.length l], b d2 71 [B a.s_, I J a.l_.g_, I J a.l_.c_, S a9 a.r_.length b0, I J a.w_, S a3 f.1.e_.length a4, S a5 f.1.d_.length a6, I J C, S b1 a.b_.length b2, I J a.m_, I J a.o_, I J a.p_], W (af eI 3) i7 a.r_ [S a9 a.r_.length b0], W (af eI 3) i9 f.1.e_ [S a3 f.1.e_.length a4], W (af (af eI 3) 31) j0 f.1.d_ [S a5 f.1.d_.length a6], W (af eI 3) i8 a.b_ [S b1 a.b_.length b2], b m 27 [S e9 p0.b_.length f0, S f1 p0.k_.length f2], b o 130 [I J p1.F_, I J p1.G_, I J p1.H_, I J p1.m_, I J p1.a_, I J p1.D_, B p1.E_], b s 30 [S f3 p2.a_.length f4, I J p2.j_]]) (fun C g6 => [(6, I J p6), (7, O (U ⟨m, 0, N⟩)), (8, O (U ⟨o, 0, N⟩)), (9, O (U ⟨s, 0, N⟩)), (12, O (U ⟨t, 0, N⟩)), (14, O (U ⟨A, 0, N⟩)), (15, O (U ⟨u, 0, N⟩)), (17, I J Z), (18, O (U ⟨M, 0, N⟩)), (19, O (U ⟨d2, 0, N⟩)), (20, B g6)]) (fun C g6 => fy g Z p5 a f p2 p0 p1 p6 C g6 = U r) (fun C g6 H => ?_) (fun J1 => ?_)
         ·unfold fy at H
          refine sR <| aa [.fa 30 0 0 cb] z <| o1 z (r1 0 3 z ef z) <| oP z <| o1 z (rx 0 5 _ z cc z) <| bE H fun G m9 H => nB z (fun d c => foc (r := 4) c z m9) fun n2 n3 H9 I0 => cg z (fun d c => c.1) fun v5 => ?_
          obtain ⟨f8, f9⟩ := v5
          refine eU (C' := St w D [_, _, _, _, _, _, _, _, _, _, _, _, _, _, _]) z (fun d c => c.2) <| dH z (fun d c => dy (i := 14) c z) fun n4 n5 n6 => dH z (fun _ h => h) fun n7 n8 n9 => dH z (fun _ h => h) fun o0 o2 o3 => dH z (fun _ h => h) fun o4 o5 o6 => cg z (fun d c => c.1) fun v6 => ?_
          subst v6
          refine eU (C' := St w D [_, _, _, _, _, _, _, _, _, _, _, _, _, _, _, _, _, _, _]) z (fun d c => c.2) <| ii z z z z z dZ cc z (gp (p := 13) z) f9 f8 (dg m9).1 <| fQ (off := 0) [B a.s_, I J a.l_.g_, I J a.l_.c_, S a9 a.r_.length b0, I J a.w_, S a3 f.1.e_.length a4, S a5 f.1.d_.length a6, I J C, S b1 a.b_.length b2, I J a.m_, I J a.o_, I J a.p_] (p := 13) (c' := [_, _, _, _, _, _, _, _, _, _, _, _]) z z z z z (by first | rfl | simp only [dG, eg, dD]) z cc z z (al z) z z z kp <| nQ <| ak <| ak <| CW.weak (C' := St w D [_, _, _, _, _, _, _, _, _, _, _, _, _, _, _, _, _]) ?_ (ss [0, 1, 2, 3, 5, 6, 7, 8, 9, 10, 11, 12, 13, 15, 16, 17, 18] z z)
          refine aT <| oPP z <| nQ <| cI H z (fun H => ?_) (fun H => ?_)
          ·refine ak <| cW 3 [(0, y), (1, y), (2, n)] (St w D [b t 152 [S f6 p5.q_.length f7, I J p5.c_], b A 30 [S N 0 0, I J 0], b u 152 [S N 0 0, I J 0], b M 30 [S E g.a_.length l, I J (J.wrap (p2.j_ + 1))], b d2 71 [B a.s_, I J a.l_.g_, I J a.l_.c_, S a9 a.r_.length b0, I J a.w_, S a3 f.1.e_.length a4, S a5 f.1.d_.length a6, I J C, S b1 a.b_.length b2, I J a.m_, I J a.o_, I J a.p_], W (af eI 3) i7 a.r_ [S a9 a.r_.length b0], W (af eI 3) i9 f.1.e_ [S a3 f.1.e_.length a4], W (af (af eI 3) 31) j0 f.1.d_ [S a5 f.1.d_.length a6], W (af eI 3) i8 a.b_ [S b1 a.b_.length b2], b m 27 [S e9 p0.b_.length f0, S f1 p0.k_.length f2], b o 130 [I J p1.F_, I J p1.G_, I J p1.H_, I J p1.m_, I J p1.a_, I J p1.D_, B p1.E_], b s 30 [S f3 p2.a_.length f4, I J p2.j_], Res.hole (aD) 71 n2 l g.a_ Z.toNat n3 [B a.s_, I J a.l_.g_, I J a.l_.c_, S a9 a.r_.length b0, I J a.w_, S a3 f.1.e_.length a4, S a5 f.1.d_.length a6, I J C, S b1 a.b_.length b2, I J a.m_, I J a.o_, I J a.p_], W (af eI 3) n6 G.r_ [S n4 G.r_.length n5], W (af eI 3) n9 G.n_.e_ [S n7 G.n_.e_.length n8], W (af (af eI 3) 31) o3 G.n_.d_ [S o0 G.n_.d_.length o2], W (af eI 3) o6 G.b_ [S o4 G.b_.length o5]]) bT (by kernel_rfl) (aV (aV be)) (tk 17 z) <| br z (ax z) (rx 0 3 _ z bv z) <| br z (ax z) (rx 0 0 _ z bN z) <| bE H fun d3 v7 H => aq z qv z z z z (fun d c => eX d v7 (c.carve [] z z) (bm (ab f5 d c) z)) fun I1 d w2 c q9 => ?_
           obtain ⟨h5, I2, h6, v8, rfl, k6⟩ := q9
           obtain rfl := aH (i := 0) k6 z
           refine ⟨St w D [_, _, _, _, _, _, _, _, _, _, _, _, _, _, _, _, _, _], c.comp [] z z k6, (tk 17 z), ?_⟩
           exact aJ <| iY <| sC 0 [S E g.a_.length l, I J (J.wrap (p2.j_ + 1))] [_, _] 1 z bv z <| sC 0 [S h5 d3.q_.length h6, I J d3.c_] [_, _] 2 z bN z <| oP z <| nT <| ap <| gW (fun d c => cz (x0 := a.s_) (x1 := a.l_.g_) (x2 := a.l_.c_) (x4 := a.w_) (x7 := C) (x9 := a.m_) (x10 := a.o_) (x11 := a.p_) [5, 6, 7, 8] c z z) fun I3 => fo (C' := St w D [_, _, _, _, _, _, _, _, _, _, _, _, _, _, _, _, _, _, _]) (fun _ h => h) <| gW (fun d c => unf (p := 12) (q := 18) c z z z f9 f8) fun v9 => fo (C' := St w D [_, _, _, _, _, _, _, _, _, _, _, _, _, _, _, _, _, _, _, _]) (fun _ h => h) <| aY (rs := [.cell 14 30, .cell 15 152, .tmp 16]) (vs := [.agg #[S E g.a_.length l, I J (J.wrap (p2.j_ + 1))], .agg #[S h5 d3.q_.length h6, I J d3.c_], I J 0]) z ⟨⟨_, [S E g.a_.length l, I J (J.wrap (p2.j_ + 1))], _, _, _, z, bv, (bl (T := 30) 0 (bK (i := 1) z) z), z, z⟩, ⟨_, [S h5 d3.q_.length h6, I J d3.c_], _, _, _, z, bN, (bl (T := 152) 0 (bK (i := 2) z) z), z, z⟩, z, Y⟩ (fun w' hw' => by
            obtain rfl := ai H
            exact ⟨_, z, E, g.a_.length, l, v9, h5, d3.q_.length, h6, v8, z, hw'.sel [19, 17] z z⟩)
          ·refine aw <| az <| sR <| o1 z (rx 0 9 _ z bU z) <| o1 z (rx 0 10 _ z mY z) <| o1 z (rx 0 4 _ z cc z) <| bE H fun k w0 H => oq z (qc z Da (fun d c => tn d (p1 := p1) w0 (ah (ab b7 d c) (ab b8 d c)) (gU (x := ({ a with n_ := f.1, v_ := C })) (c0 := [B a.s_]) (c1 := [I J a.l_.g_, I J a.l_.c_]) (c2 := [S a9 a.r_.length b0]) (c3 := [I J a.w_]) (c4 := [S a3 f.1.e_.length a4, S a5 f.1.d_.length a6]) (c5 := [I J C]) (c6 := [S b1 a.b_.length b2]) (c7 := [I J a.m_]) (c8 := [I J a.o_]) (c9 := [I J a.p_]) z z (au (e := af eI 3) (r := 5) z d c) z (aE (x := f.1) (c0 := [S a3 f.1.e_.length a4]) (c1 := [S a5 f.1.d_.length a6]) (au (e := af eI 3) (r := 6) z d c) (au (e := af (af eI 3) 31) (r := 7) z d c)) z (au (e := af eI 3) (r := 8) z d c) z z z))) tt2 <| aa [.p, .p, .p] z <| aC z z z z cH (fun _ => kp) fun b3 => sC 0 [I J k.1.g_, I J k.1.c_] [_, _] 17 z cH z <| oP z <| nQ <| ak <| ak <| dJ bT (by kernel_rfl) <| aa [.p, .p, .p] z <| aQ [(151, B ((k.2 != 1) && (k.2 != 2))), (6, I J p6), (7, O (U ⟨m, 0, N⟩)), (8, O (U ⟨o, 0, N⟩)), (9, O (U ⟨s, 0, N⟩)), (12, O (U ⟨t, 0, N⟩)), (14, O (U ⟨A, 0, N⟩)), (15, O (U ⟨u, 0, N⟩)), (17, I J Z), (18, O (U ⟨M, 0, N⟩)), (19, O (U ⟨d2, 0, N⟩)), (21, O (U ⟨b3, 0, N⟩))] 3 ?_ (fun key => OW.sub (R := [(6, I J p6), (7, O (U ⟨m, 0, N⟩)), (8, O (U ⟨o, 0, N⟩)), (9, O (U ⟨s, 0, N⟩)), (12, O (U ⟨t, 0, N⟩)), (14, O (U ⟨A, 0, N⟩)), (15, O (U ⟨u, 0, N⟩)), (17, I J Z), (18, O (U ⟨M, 0, N⟩)), (19, O (U ⟨d2, 0, N⟩)), (21, O (U ⟨b3, 0, N⟩)), (22, I J k.2), (148, B (k.2 != 1))]) ?_ (sb z))
           ·refine oP z <| aQ [(158, B (((k.2 != 1) && (k.2 != 2)) || (decide (a.m_ ≥ p1.m_)))), (6, I J p6), (7, O (U ⟨m, 0, N⟩)), (8, O (U ⟨o, 0, N⟩)), (9, O (U ⟨s, 0, N⟩)), (12, O (U ⟨t, 0, N⟩)), (14, O (U ⟨A, 0, N⟩)), (15, O (U ⟨u, 0, N⟩)), (17, I J Z), (18, O (U ⟨M, 0, N⟩)), (21, O (U ⟨b3, 0, N⟩))] 6 ?_ (fun key => OW.sub (R := [(6, I J p6), (7, O (U ⟨m, 0, N⟩)), (8, O (U ⟨o, 0, N⟩)), (9, O (U ⟨s, 0, N⟩)), (12, O (U ⟨t, 0, N⟩)), (14, O (U ⟨A, 0, N⟩)), (15, O (U ⟨u, 0, N⟩)), (17, I J Z), (18, O (U ⟨M, 0, N⟩)), (19, O (U ⟨d2, 0, N⟩)), (21, O (U ⟨b3, 0, N⟩)), (152, B ((k.2 != 1) && (k.2 != 2)))]) ?_ (sb z))
            ·refine oP z <| bE H fun w3 k7 H => aQ [(170, B w3), (6, I J p6), (7, O (U ⟨m, 0, N⟩)), (8, O (U ⟨o, 0, N⟩)), (9, O (U ⟨s, 0, N⟩)), (12, O (U ⟨t, 0, N⟩)), (14, O (U ⟨A, 0, N⟩)), (15, O (U ⟨u, 0, N⟩)), (17, I J Z), (18, O (U ⟨M, 0, N⟩)), (21, O (U ⟨b3, 0, N⟩))] 11 ?_ (fun key => OW.sub (R := [(6, I J p6), (7, O (U ⟨m, 0, N⟩)), (8, O (U ⟨o, 0, N⟩)), (9, O (U ⟨s, 0, N⟩)), (12, O (U ⟨t, 0, N⟩)), (14, O (U ⟨A, 0, N⟩)), (15, O (U ⟨u, 0, N⟩)), (17, I J Z), (18, O (U ⟨M, 0, N⟩)), (21, O (U ⟨b3, 0, N⟩)), (159, B (((k.2 != 1) && (k.2 != 2)) || (decide (a.m_ ≥ p1.m_))))]) ?_ (sb z))
             ·refine cx <| az <| cI H z (fun H => ?_) (fun H => ?_)
              ·refine ak <| cW 3 [(0, y), (1, y), (2, n)] (St w D [b t 152 [S f6 p5.q_.length f7, I J p5.c_], b A 30 [S N 0 0, I J 0], b u 152 [S N 0 0, I J 0], b M 30 [S E g.a_.length l, I J (J.wrap (p2.j_ + 1))], b d2 71 [B a.s_, I J a.l_.g_, I J a.l_.c_, S a9 a.r_.length b0, I J a.w_, S a3 f.1.e_.length a4, S a5 f.1.d_.length a6, I J C, S b1 a.b_.length b2, I J a.m_, I J a.o_, I J a.p_], W (af eI 3) i7 a.r_ [S a9 a.r_.length b0], W (af eI 3) i9 f.1.e_ [S a3 f.1.e_.length a4], W (af (af eI 3) 31) j0 f.1.d_ [S a5 f.1.d_.length a6], W (af eI 3) i8 a.b_ [S b1 a.b_.length b2], b m 27 [S e9 p0.b_.length f0, S f1 p0.k_.length f2], b o 130 [I J p1.F_, I J p1.G_, I J p1.H_, I J p1.m_, I J p1.a_, I J p1.D_, B p1.E_], b s 30 [S f3 p2.a_.length f4, I J p2.j_], Res.hole (aD) 71 n2 l g.a_ Z.toNat n3 [B a.s_, I J a.l_.g_, I J a.l_.c_, S a9 a.r_.length b0, I J a.w_, S a3 f.1.e_.length a4, S a5 f.1.d_.length a6, I J C, S b1 a.b_.length b2, I J a.m_, I J a.o_, I J a.p_], W (af eI 3) n6 G.r_ [S n4 G.r_.length n5], W (af eI 3) n9 G.n_.e_ [S n7 G.n_.e_.length n8], W (af (af eI 3) 31) o3 G.n_.d_ [S o0 G.n_.d_.length o2], W (af eI 3) o6 G.b_ [S o4 G.b_.length o5], b b3 66 [I J k.1.g_, I J k.1.c_]]) bT (by kernel_rfl) (aV (aV be)) (tk 18 z) <| br z (ax z) (rx 0 3 _ z bv z) <| br z (ax z) (rx 0 0 _ z bN z) <| bE H fun d4 w4 H => aq z qv z z z z (fun d c => eX d w4 (c.carve [] z z) (bm (ab f5 d c) z)) fun I4 d w2 c r0 => ?_
               obtain ⟨h7, I5, h8, w5, rfl, k8⟩ := r0
               obtain rfl := aH (i := 0) k8 z
               refine ⟨St w D [_, _, _, _, _, _, _, _, _, _, _, _, _, _, _, _, _, _, _], c.comp [] z z k8, (tk 18 z), ?_⟩
               exact aJ <| iY <| sC 0 [S E g.a_.length l, I J (J.wrap (p2.j_ + 1))] [_, _] 1 z bv z <| sC 0 [S h7 d4.q_.length h8, I J d4.c_] [_, _] 2 z bN z <| oP z <| nT <| ap <| gW (fun d c => cz (x0 := a.s_) (x1 := a.l_.g_) (x2 := a.l_.c_) (x4 := a.w_) (x7 := C) (x9 := a.m_) (x10 := a.o_) (x11 := a.p_) [5, 6, 7, 8] c z z) fun I6 => fo (C' := St w D [_, _, _, _, _, _, _, _, _, _, _, _, _, _, _, _, _, _, _, _]) (fun _ h => h) <| gW (fun d c => unf (p := 12) (q := 19) c z z z f9 f8) fun w6 => fo (C' := St w D [_, _, _, _, _, _, _, _, _, _, _, _, _, _, _, _, _, _, _, _, _]) (fun _ h => h) <| aY (rs := [.cell 14 30, .cell 15 152, .tmp 16]) (vs := [.agg #[S E g.a_.length l, I J (J.wrap (p2.j_ + 1))], .agg #[S h7 d4.q_.length h8, I J d4.c_], I J 0]) z ⟨⟨_, [S E g.a_.length l, I J (J.wrap (p2.j_ + 1))], _, _, _, z, bv, (bl (T := 30) 0 (bK (i := 1) z) z), z, z⟩, ⟨_, [S h7 d4.q_.length h8, I J d4.c_], _, _, _, z, bN, (bl (T := 152) 0 (bK (i := 2) z) z), z, z⟩, z, Y⟩ (fun w' hw' => by
                obtain rfl := ai H
                exact ⟨_, z, E, g.a_.length, l, w6, h7, d4.q_.length, h8, w5, z, hw'.sel [20, 18] z z⟩)
              ·refine aw <| az <| sR <| bM (e := af eI 3) z z z z gL cw (fun _ => kp) fun o7 => oP z <| nR <| o1 z (rx 0 0 _ z bN z) <| bE H fun h9 w7 H => aq z qv z z z z (fun d c => eX d w7 (c.carve [] z z) (bm (ab f5 d c) z)) fun I7 d w2 c r2 => ?_
               obtain ⟨o8, I8, o9, w8, rfl, k9⟩ := r2
               obtain rfl := aH (i := 0) k9 z
               refine ⟨St w D [_, _, _, _, _, _, _, _, _, _, _, _, _, _, _, _, _, _, _, _], c.comp [] z z k9, fun _ _ => Y, ?_⟩
               refine aC z z z z bN (fun _ => kp) fun i0 => sC 0 [S o8 h9.q_.length o9, I J h9.c_] [_, _] 20 z bN z <| nQ <| ak <| sR <| oP z <| nQ <| aB <| AN (fun d c => cz (x0 := a.s_) (x1 := a.l_.g_) (x2 := a.l_.c_) (x4 := a.w_) (x7 := C) (x9 := a.m_) (x10 := a.o_) (x11 := a.p_) [5, 6, 7, 8] c z z) fun I9 => CW.weak (C' := St w D [_, _, _, _, _, _, _, _, _, _, _, _, _, _, _, _, _, _, _, _, _, _]) ?_ (fun _ h => h)
               refine AN (fun d c => unf (p := 12) (q := 21) c z z z f9 f8) fun j1 => CW.weak (C' := St w D [_, _, _, _, _, _, _, _, _, _, _, _, _, _, _, _, _, _, _, _, _, _, _]) ?_ (fun _ h => h)
               refine CW.at (wy (fun (b4 : List (List Int)) (d5 : Option Addr) (d6 : Nat) (e6 : List Nat) (F : List Int) (P : Option Addr) (Q : Nat) (d7 : List Nat) (a7 : Int) (e7 : Int) => St w D [b t 152 [S f6 p5.q_.length f7, I J p5.c_], b A 30 [S N 0 0, I J 0], b u 152 [S N 0 0, I J 0], b M 30 [S E g.a_.length l, I J (J.wrap (p2.j_ + 1))], W (af (aD) 71) j1 (g.a_.set Z.toNat ({ a with n_ := f.1, v_ := C })) [S E g.a_.length l], b b3 66 [I J k.1.g_, I J k.1.c_], W (af (af eI 3) 31) e6 b4 [S d5 b4.length d6], b i0 152 [S P F.length Q, I J a7], W (af e8 5) d7 F [S P F.length Q], b m 27 [S e9 p0.b_.length f0, S f1 p0.k_.length f2], b o 130 [I J p1.F_, I J p1.G_, I J p1.H_, I J p1.m_, I J p1.a_, I J p1.D_, B p1.E_], b s 30 [S f3 p2.a_.length f4, I J p2.j_]]) (fun b4 d5 d6 e6 F P Q d7 a7 e7 => [(6, I J p6), (7, O (U ⟨m, 0, N⟩)), (8, O (U ⟨o, 0, N⟩)), (9, O (U ⟨s, 0, N⟩)), (12, O (U ⟨t, 0, N⟩)), (14, O (U ⟨A, 0, N⟩)), (15, O (U ⟨u, 0, N⟩)), (17, I J Z), (18, O (U ⟨M, 0, N⟩)), (21, O (U ⟨b3, 0, N⟩)), (23, S d5 b4.length d6), (24, O (U ⟨i0, 0, N⟩)), (25, I J e7)]) (fun kk => fun b4 d5 d6 e6 F P Q d7 a7 e7 => dE p0 k p6 p2 p5 g Z a f C p1 kk b4 F a7 e7 = U r) (fun _ _ _ _ _ _ _ _ _ _ H => ?_) (fun k1 w9 b4 d5 d6 e6 F P Q d7 a7 e7 H => ?_) bh (([] : List (List Int))) ((U ⟨o7, 0, N⟩)) (0) ([o7]) (h9.q_) (o8) (o9) (w8) (h9.c_) (0) (H)) (ss [0, 1, 2, 3, 22, 17, 18, 20, 19, 9, 10, 11] z z) (sb z)
               ·unfold dE at H
                exact absurd H (by simp)
               ·unfold dE at H
                refine ak <| sR <| oP z <| o1 z (rx 0 9 _ z bU z) <| o1 z (rx 0 5 _ z cH z) <| bE H fun J0 x3 H => oq z (qc z wq (fun d c => fP d (p1 := k.1) x3 (ah (ab b7 d c) (ab b8 d c)))) tt2 <| oP z <| nQ <| cI H z (fun H => ?_) (fun H => ?_)
                ·refine aw <| az <| ak <| aB <| sR <| o1 z (rx 0 7 _ z bN z) <| aa [.fa 27 0 0 dq] z <| o1 z (r1 0 9 z iH z) <| aa [.lenS 24 63 iw, .p] z <| bE H fun X x5 H => aq z CP z z z z (fun d c => ql d x5 (c.carve [] z z) (bm (x := (bd.mk F a7)) (c0 := [S P F.length Q]) (c1 := [I J a7]) (au (e := af e8 5) (r := 8) z d c) z)) fun J2 d w2 c r3 => ?_
                 obtain ⟨g7, J3, g8, p7, j2, J4, j3, x6, rfl, i1⟩ := r3
                 obtain rfl := aH (i := 0) i1 z
                 obtain rfl := aH (i := 1) i1 z
                 refine ⟨St w D [_, _, _, _, _, _, _, _, _, _, _, _, _, _], c.comp [] z z i1, fun _ _ => Y, ?_⟩
                 refine aa [.p, .p, .p, .p] z <| aC z z z z bN (fun _ => kp) fun x8 => sC 0 [S g7 X.1.q_.length g8, I J X.1.c_] [_, _] 14 z bN z <| oPP z <| nQ <| ak <| sR <| oPP z <| nQ <| cI H z (fun H => ?_) (fun H => ?_)
                 ·refine ak <| cW 3 [(0, y), (2, y), (1, n)] (St w D [b t 152 [S f6 p5.q_.length f7, I J p5.c_], b A 30 [S N 0 0, I J 0], b u 152 [S N 0 0, I J 0], b M 30 [S E g.a_.length l, I J (J.wrap (p2.j_ + 1))], W (af (aD) 71) j1 (g.a_.set Z.toNat ({ a with n_ := f.1, v_ := C })) [S E g.a_.length l], b b3 66 [I J k.1.g_, I J k.1.c_], W (af (af eI 3) 31) e6 b4 [S d5 b4.length d6], b i0 152 [S P F.length Q, I J a7], W (af e8 5) d7 F [S P F.length Q], b m 27 [S e9 p0.b_.length f0, S f1 p0.k_.length f2], b o 130 [I J p1.F_, I J p1.G_, I J p1.H_, I J p1.m_, I J p1.a_, I J p1.D_, B p1.E_], b s 30 [S f3 p2.a_.length f4, I J p2.j_], W (af e8 5) p7 X.1.q_ [S g7 X.1.q_.length g8], W (af eI 3) x6 X.2.1 [S j2 X.2.1.length j3], b x8 152 [S g7 X.1.q_.length g8, I J X.1.c_]]) bT (by kernel_rfl) (aV (aV (bF (aV (fe (bF (aV be))))))) (tk 15 z) <| br z (ax z) (rx 0 11 _ z bv z) <| br z (ax z) (rx 0 0 _ z bN z) <| bE H fun d8 y0 H => aq z tY z z z z (fun d c => ik d y0 (c.carve [] z z) (aU (ab e3 d c) z)) fun J5 d w2 c r4 => ?_
                  obtain ⟨i2, J6, i3, y1, rfl, l0⟩ := r4
                  obtain rfl := aH (i := 0) l0 z
                  refine ⟨St w D [_, _, _, _, _, _, _, _, _, _, _, _, _, _, _, _], c.comp [] z z l0, (tk 15 z), ?_⟩
                  refine aJ <| iY <| bE H fun d9 y2 H => aq z qv z z z z (fun d c => eX d y2 (c.carve [] z z) (bm (ab f5 d c) z)) fun J7 d w2 c r5 => ?_
                  obtain ⟨i4, J8, i5, y3, rfl, l1⟩ := r5
                  obtain rfl := aH (i := 0) l1 z
                  refine ⟨St w D [_, _, _, _, _, _, _, _, _, _, _, _, _, _, _, _, _], c.comp [] z z l1, fun _ _ => Y, ?_⟩
                  exact sC 0 [S i2 d8.a_.length i3, I J d8.j_] [_, _] 1 z bv z <| sC 0 [S i4 d9.q_.length i5, I J d9.c_] [_, _] 2 z bN z <| oP z <| nT <| ap <| aP <| ap <| bZ <| aP <| ap <| aY (rs := [.cell 14 30, .cell 15 152, .tmp 16]) (vs := [.agg #[S i2 d8.a_.length i3, I J d8.j_], .agg #[S i4 d9.q_.length i5, I J d9.c_], I J 4]) z ⟨⟨_, [S i2 d8.a_.length i3, I J d8.j_], _, _, _, z, bv, (bl (T := 30) 0 (bK (i := 1) z) z), z, z⟩, ⟨_, [S i4 d9.q_.length i5, I J d9.c_], _, _, _, z, bN, (bl (T := 152) 0 (bK (i := 2) z) z), z, z⟩, z, Y⟩ (fun w' hw' => by
                   obtain rfl := ai H
                   exact ⟨_, z, i2, d8.a_.length, i3, y1, i4, d9.q_.length, i5, y3, z, hw'.sel [15, 16] z z⟩)
                 ·refine aw <| az <| sR <| o1 z (rx 0 14 _ z bN z) <| sC 0 [S g7 X.1.q_.length g8, I J X.1.c_] [_, _] 7 z bN z <| nQ <| aT <| oPP z <| il [(0, [S j2 X.2.1.length j3])] z z z z z gL cw z z ⟨z, z, nl z, Y⟩ [S j2 X.2.1.length j3] z (fun _ => kp) fun J9 => eU z (fun _ h => tz (p := 15) (q := 13) h z z z) <| bE H fun y4 y5 H => mz (r := 6) (j := 16) z z z z z z gL cw z z z z z z z y5 (fun _ _ _ => kp) fun y6 y7 y8 => oP z <| ay <| ca <| az <| CW.weak (C' := St w D [_, _, _, _, _, _, _, _, _, _, _, _, _, _]) ?_ (ss [0, 1, 2, 3, 4, 5, 7, 8, 9, 10, 11, 12, 14, 17] z z)
                  exact aT <| aa [.p, .p, .p] z <| ay <| cQ (RW.at (w9 (y4) (y6) (y7) (y8) (X.1.q_) (g7) (g8) (p7) (X.1.c_) (J.wrap (e7 + 1)) (H)) (ss [0, 1, 2, 3, 4, 5, 13, 6, 11, 8, 9, 10] z z) (sb z))
                ·refine bH <| aN <| aS <| aM <| az <| sR <| o1 z (rx 0 9 _ z bU z) <| o1 z (rx 0 3 _ z bv z) <| oP z <| o1 z (rx 0 5 _ z cH z) <| oP z <| bE H fun e0 y9 H => aq z CS z z z z (fun d c => rP d (p3 := k.1) y9 (c.carve [] z z) (ah (ab b7 d c) (ab b8 d c)) (aU (x := (aj.mk (g.a_.set Z.toNat ({ a with n_ := f.1, v_ := C })) (J.wrap (p2.j_ + 1)))) (c0 := [S E g.a_.length l]) (c1 := [I J (J.wrap (p2.j_ + 1))]) (au (e := af (aD) 71) (r := 4) z d c) z) (au (e := af (af eI 3) 31) (r := 6) z d c)) fun K0 d w2 c r6 => ?_
                 obtain ⟨j4, K1, j5, z0, rfl, l2⟩ := r6
                 obtain rfl := aH (i := 0) l2 z
                 refine ⟨St w D [_, _, _, _, _, _, _, _, _, _, _, _, _], c.comp [] z z l2, fun _ _ => Y, ?_⟩
                 refine aa [.p, .p, .p] z <| sC 0 [S j4 e0.1.a_.length j5, I J e0.1.j_] [_, _] 3 z bv z <| nR <| o1 z (rx 0 9 _ z bU z) <| o1 z (rx 0 3 _ z bv z) <| aa [.fa 130 5 5 qo] z <| o1 z (r1 5 10 z ty3 z) <| bE H fun L z1 H => aq z BY z z z z (fun d c => sa d z1 (c.carve [] z z) (ah (ab b7 d c) (ab b8 d c)) (aU (x := e0.1) (c0 := [S j4 e0.1.a_.length j5]) (c1 := [I J e0.1.j_]) (au (e := af (aD) 71) (r := 12) z d c) z)) fun K2 d w2 c r7 => ?_
                 obtain ⟨e1, K3, e2, p8, z2, K4, z3, z4, rfl, i6⟩ := r7
                 obtain rfl := aH (i := 0) i6 z
                 obtain rfl := aH (i := 1) i6 z
                 refine ⟨St w D [_, _, _, _, _, _, _, _, _, _, _, _, _, _, _], c.comp [] z z i6, fun _ _ => Y, ?_⟩
                 exact aa [.p, .p, .p] z <| sC 0 [S e1 L.1.a_.length e2, I J L.1.j_] [_, _] 3 z bv z <| nQ <| ak <| cW 3 [(0, y), (1, y), (2, n)] (St w D [b t 152 [S f6 p5.q_.length f7, I J p5.c_], Res.nil, b u 152 [S N 0 0, I J 0], b M 30 [S e1 L.1.a_.length e2, I J L.1.j_], W (af (aD) 71) j1 (g.a_.set Z.toNat ({ a with n_ := f.1, v_ := C })) [S E g.a_.length l], b b3 66 [I J k.1.g_, I J k.1.c_], W (af (af eI 3) 31) e6 b4 [S d5 b4.length d6], b i0 152 [S P F.length Q, I J a7], W (af e8 5) d7 F [S P F.length Q], b m 27 [S e9 p0.b_.length f0, S f1 p0.k_.length f2], b o 130 [I J p1.F_, I J p1.G_, I J p1.H_, I J p1.m_, I J p1.a_, I J p1.D_, B p1.E_], b s 30 [S f3 p2.a_.length f4, I J p2.j_], W (af (aD) 71) z0 e0.1.a_ [S j4 e0.1.a_.length j5], W (af (aD) 71) p8 L.1.a_ [S e1 L.1.a_.length e2], W (af eI 3) z4 L.2 [S z2 L.2.length z3]]) bT (by kernel_rfl) (aV be) (sm [y, n, y, y, y, y, y, y, y, y, y, y, y, y, y] z) <| br z (ax z) (rx 0 3 _ z bv z) <| br z (ax z) (rx 0 7 _ z bN z) <| bo (off := 0) [S e1 L.1.a_.length e2, I J L.1.j_] [_, _] (i := 1) z z z z z z bv z z (al z) z z z (sm [y, n, y, y, y, y, y, y, y, y, y, y, y, y, y] z) <| aJ <| iY <| sC 0 [S P F.length Q, I J a7] [_, _] 2 z bN z <| oP z <| nT <| aY (rs := [.cell 14 30, .cell 15 152, .tmp 16]) (vs := [.agg #[S e1 L.1.a_.length e2, I J L.1.j_], .agg #[S P F.length Q, I J a7], I J 1]) z ⟨⟨_, [S e1 L.1.a_.length e2, I J L.1.j_], _, _, _, z, bv, (bl (T := 30) 0 (bK (i := 1) z) z), z, z⟩, ⟨_, [S P F.length Q, I J a7], _, _, _, z, bN, (bl (T := 152) 0 (bK (i := 2) z) z), z, z⟩, z, Y⟩ (fun w' hw' => by
                  obtain rfl := ai H
                  exact ⟨_, z, e1, L.1.a_.length, e2, p8, P, F.length, Q, d7, z, hw'.sel [13, 8] z z⟩)
             ·clear H
              have H := k7
              clear k7
              generalize (((k.2 != 1) && (k.2 != 2)) || (decide (a.m_ ≥ p1.m_))) = z5 at H key ⊢
              cases z5
              ·have H := ba z H
               refine aa [.fa 30 0 0 cb] z <| o1 z (r1 0 3 z ef z) <| aa [.lenS 28 71 dZ] z <| o1 z (rx 0 9 _ z bU z) <| o1 z (rx 0 17 _ z cH z) <| bE H fun K5 z6 H => oq z (qc z wq (fun d c => fP d (p1 := k.1) z6 (ah (ab b7 d c) (ab b8 d c)))) tt2 <| aa [.p, .fa 130 4 4 uI] z <| o1 z (r1 4 10 z ty3 z) <| oP z <| oP z <| ?_
               obtain rfl := ai H
               exact OW.sub key (sb z)
              ·have H := bb z H
               refine aa [.p, .p, .p, .p, .p, .p, .p, .p, .p, .p, .p] z ?_
               obtain rfl := ai H
               exact OW.sub key (sb z)
            ·generalize ((k.2 != 1) && (k.2 != 2)) = z7 at key ⊢
             cases z7
             ·exact aa [.fa 71 7 9 ke] z <| o1 z (r1 9 4 z ty3 z) <| aa [.fa 130 3 3 uv] z <| o1 z (r1 3 10 z ty3 z) <| oP z <| oP z <| OW.sub key (sb z)
             ·exact aa [.p, .p, .p, .p, .p, .p] z <| OW.sub key (sb z)
           ·generalize (k.2 != 1) = z8 at key ⊢
            cases z8
            ·exact aa [.p, .p, .p] z <| OW.sub key (sb z)
            ·exact oPP z <| oP z <| OW.sub key (sb z)
         ·refine sR <| aa [.fa 71 4 5 eR, .fa 69 1 1 dL] z <| o1 z (r1 6 13 z jm z) <| aa [.lenS 67 31 gL, .p] z <| nQ <| cI H z (fun H => ?_) (fun H => ?_)
          ·refine sR <| aa [.fa 71 5 7 mh] z <| o1 z (r1 7 13 z ty3 z) <| aa [.p, .p, .fa 71 5 7 mh] z <| sC 7 [I J (J.wrap (a.v_ + p4))] [_, _, _, _, _, _, _, _, _, _, _, _] 13 z ty3 z <| nR <| aa [.fa 71 5 7 mh] z <| o1 z (r1 7 13 z ty3 z) <| aa [.fa 130 2 2 wJ] z <| o1 z (r1 2 1 z ty3 z) <| oP z <| nQ <| cI H z (fun H => ?_) (fun H => ?_)
           ·refine sR <| aa [.fa 71 5 7 mh] z <| sC 7 [I J 0] [_, _, _, _, _, _, _, _, _, _, _, _] 13 z ty3 z <| nQ <| CW.weak (C' := St w D [_, _, _, _, _, _, _, _, _, _, _, _, _, _, _, _]) ?_ (ss [0, 1, 2, 3, 4, 5, 6, 7, 8, 9, 10, 11, 12, 13, 14, 15] z z)
            exact aT <| oP z <| ay <| XW.at (J1 (0) (y) (H)) (ss [4, 5, 6, 8, 7, 13, 9, 14, 15, 12, 0, 1, 2] z z) (sb z)
           ·exact aw <| XW.at (J1 (J.wrap (a.v_ + p4)) (n) (H)) (ss [4, 5, 6, 8, 7, 13, 9, 14, 15, 12, 0, 1, 2] z z) (sb z)
          ·exact aw <| XW.at (J1 (a.v_) (n) (H)) (ss [4, 5, 6, 8, 7, 13, 9, 14, 15, 12, 0, 1, 2] z z) (sb z)
       ·clear H
        have H := k2
        clear k2
        generalize (p2.j_ == 99999) = z9 at H key ⊢
        cases z9
        ·have H := ba z H
         refine o1 z (rx 0 0 _ z bU z) <| aa [.fa 30 0 0 cb] z <| o1 z (r1 0 2 z ef z) <| oP z <| bE H fun s6 D1 H => cB z z z z z dZ cc z e3 D1 fun K6 K7 A0 r8 => ?_
         obtain ⟨K8, K9, L0, L1, L2, L3, L4, L5, L6, L7, rfl, A1, A2, A3, A4, A5, A6, A7, A8, A9, B0⟩ := bn A0
         obtain rfl := A1
         obtain rfl := A2
         obtain ⟨L8, L9, rfl⟩ := am A3
         obtain rfl := A4
         obtain ⟨M1, M2, rfl, p9, q0⟩ := aL A5
         obtain ⟨B1, B2, rfl⟩ := am p9
         obtain ⟨B3, B4, rfl⟩ := am q0
         obtain rfl := A6
         obtain ⟨M3, M4, rfl⟩ := am A7
         obtain rfl := A8
         obtain rfl := A9
         obtain rfl := B0
         refine aa [.fa 71 4 5 eR] z <| o1 z (cV (cs := [S B1 s6.n_.e_.length B2, S B3 s6.n_.d_.length B4]) z z cP (co bor (lk r8 5 2)) z) <| bE H fun M5 B5 H => oq z (qc z ym (fun d c => gZ d B5 (ah (ab b7 d c) (ab b8 d c)) (aE (ab p9 d c) (ab q0 d c)))) tt2 <| aa [.p, .p, .p] z <| oP z <| ?_
         obtain rfl := ai H
         exact OW.sub key (sb z)
        ·have H := bb z H
         refine aa [.p, .p, .p, .p, .p, .p, .p, .p, .p, .p, .p, .p] z ?_
         obtain rfl := ai H
         exact OW.sub key (sb z)
     ·clear H
      have H := l8
      clear l8
      generalize l6 = D2 at H key ⊢
      cases D2
      ·have H := ba z H
       refine aa [.p, .fa 27 0 0 dq] z <| o1 z (r1 0 0 z iH z) <| aa [.lenS 24 63 iw] z <| bE H fun N8 D3 H => oq z (qc z gK (fun d c => bf d D3)) tt2 <| oP z <| oP z <| ?_
       obtain rfl := ai H
       exact OW.sub key (sb z)
      ·have H := bb z H
       refine aa [.p, .p, .p, .p, .p, .p, .p] z ?_
       obtain rfl := ai H
       exact OW.sub key (sb z)
    ·clear H
     have H := l7
     clear l7
     generalize l4 = D4 at H key ⊢
     cases D4
     ·have H := ba z H
      refine o1 z (rx 0 4 _ z bN z) <| bE H fun N9 D5 H => oq z (qc z AM (fun d c => pn d D5 (bm (ab f5 d c) z))) tt2 <| oP z <| oP z <| ?_
      obtain rfl := ai H
      exact OW.sub key (sb z)
     ·have H := bb z H
      refine aa [.p, .p, .p, .p] z ?_
      obtain rfl := ai H
      exact OW.sub key (sb z)
   ·clear H
    have H := l5
    clear l5
    generalize (g9 || (decide (p3.z_ < 0))) = D6 at H key ⊢
    cases D6
    ·have H := ba z H
     refine oP z <| bE H fun O0 D7 H => oq z (qc z gK (fun d c => bf d D7)) tt2 <| oP z <| oP z <| ?_
     obtain rfl := ai H
     exact OW.sub key (sb z)
    ·have H := bb z H
     refine aa [.p, .p, .p, .p] z ?_
     obtain rfl := ai H
     exact OW.sub key (sb z)
  ·generalize g9 = D8 at key ⊢
   cases D8
   ·exact aa [.fa 33 1 1 oY] z <| o1 z (r1 1 3 z ty3 z) <| oP z <| oP z <| OW.sub key (sb z)
   ·exact aa [.p, .p, .p, .p] z <| OW.sub key (sb z)
 ·clear H
  have H := l3
  clear l3
  generalize (!s5) = D9 at H key ⊢
  cases D9
  ·have H := ba z H
   refine o1 z (rx 0 0 _ z bU z) <| o1 z (rx 0 3 _ z lI z) <| bE H fun O1 E0 H => oq z (qc z BQ (fun d c => oe d E0 (ah (ab b7 d c) (ab b8 d c)) (bX (ab j6 d c) z))) tt2 <| oP z <| oP z <| ?_
   obtain rfl := ai H
   exact OW.sub key (sb z)
  ·have H := bb z H
   refine aa [.p, .p, .p, .p, .p] z ?_
   obtain rfl := ai H
   exact OW.sub key (sb z)
end Go.Vk
