/- The code does what the functions of data say. Printed by program. -/
import Derived.Test.YtmdkpmcoaalaoaaGreatWStateSaysA
namespace Go.Vk
open Go.Proofs Go.RowKit
set_option maxHeartbeats 4000000
set_option maxRecDepth 100000
theorem laws_toPairS_ok (w : World) {M0 : List Nat} {p0 : List Tlaws_Pair} {a_0 : Option Addr} {n_0 c_0 : Nat} {r : List Timpl_Pair} (H : laws_toPairS p0 = some r) (HS : St w M0 [] w) (g0 : (eList (eTlaws_Pair) 145).rd w M0 p0 [.slice a_0 n_0 c_0]) :
    Calls Tryz.prog 47 #[.slice a_0 n_0 c_0] w (fun en w' => ∃ v, en = .returned v ∧ ∃ (a0 : Option Addr), ∃ (n0 : Nat), ∃ (c0 : Nat), ∃ (F0 : List Nat), v = .slice a0 n0 c0 ∧ St w M0 [Res.own (eList (eTimpl_Pair) 143) F0 r [.slice a0 n0 c0]] w') := by
 obtain rfl := rd_n g0
 unfold laws_toPairS at H
 refine f_enter Tryz.func47 rfl Tryz.ntmps47 rfl (HS) <| sR <| oP rfl <| nR <| ow_batch [.p, .lenS 34 145 sl34] rfl <| bE H fun l10 h11 H => ow_make (e := eTimpl_Pair) (zero := ((Timpl_Pair.mk 0 0) : Timpl_Pair)) rfl rfl rfl rfl rfl rfl sl55 ty143 rfl rfl rfl rfl (fun _ => ⟨rfl, rfl⟩) h11 (fun _ => kp) fun b12 => oP rfl <| nQ <| c_seq <| sR <| oP rfl <| nQ <| c_block <| CW.at (loopI3 (fun (l30 : List Timpl_Pair) (F31 : List Nat) (i33 : Int) => St w M0 [Res.own (eList (eTimpl_Pair) 143) F31 l30 [.slice (some ⟨b12, 0, none⟩) l10.length l10.length]]) (fun l30 F31 i33 => [(0, .slice a_0 p0.length c_0), (3, .slice (some ⟨b12, 0, none⟩) l10.length l10.length), (4, .int .i64 i33)]) (fun kk => fun l30 F31 i33 => laws_toPairS_L1 p0 kk l30 i33 = some r) (fun _ _ _ H => ?_) (fun k1 ihk1 l30 F31 i33 H => ?_) Fuel (l10) ([b12]) (0) (H)) (fun _ h => St.sel [0] rfl rfl h) ⟨rfl, rfl, rfl,  trivial⟩
 ·unfold laws_toPairS_L1 at H
  exact absurd H (by simp)
 ·unfold laws_toPairS_L1 at H
  refine c_seq <| sR <| ow_batch [.p, .p, .lenS 34 145 sl34, .p] rfl <| nQ <| cI H rfl (fun H => ?_) (fun H => ?_)
  ·refine c_skip <| x_qs <| c_seq <| c_block <| c_reg <| ow_batch [.p, .p, .p, .p] rfl <| bE H fun e51 h52 H => ow_ixE (e := eTlaws_Pair) (xs := p0) (j := i33) rfl rfl rfl rfl rfl sl34 ty145 rfl (fun w1 hw1 => rds_bor g0 w1 hw1) h52 rfl <| o1 rfl (ry_load (cs := [.int .i64 e51.Truth_, .int .i64 e51.Said_]) rfl rfl ty145 (at_castA (at_eltE (fun w1 hw1 => rds_bor g0 w1 hw1) h52 (fun _ _ h => h)) rfl) rfl) <| bE H fun y53 h54 H => oq rfl (qc rfl fn78 (fun w1 hw1 => laws_toPair_ok w1 (p0 := e51) h54)) tt2 <| bE H fun e55 h56 H => ow_ex4 rfl (fun w1 hw1 => foc (r := 0) hw1 rfl h56) fun b58 G59 F60 c61 => ow_fact rfl (fun w1 hw1 => hw1.1) fun q57 => ?_
   obtain ⟨ha62, hn63⟩ := q57
   refine ow_st (C' := St w M0 [_, _, _]) rfl (fun w1 hw1 => hw1.2) <| ow_fact rfl (fun w1 hw1 => opn_flat (i := 2) hw1 rfl) fun q57 => ?_
   obtain ⟨rfl, rfl⟩ := q57
   exact ow_st (C' := St w M0 [_, _]) rfl (fun w1 hw1 => St.mask [true, true] rfl hw1) <| ow_ixH rfl rfl rfl rfl rfl sl55 ty143 rfl (holeIn (p := 1) rfl) hn63 ha62 (idx_some h56).1 <| ow_storeH (off := 0) [.int .i64 y53.Truth_, .int .i64 y53.Said_] (p := 1) (c' := [_, _]) rfl rfl rfl rfl rfl (by first | rfl | simp only [add_lit, add_add, add_zero]) rfl ty143 rfl rfl (by intro u hu; simp only [List.mem_cons, List.not_mem_nil, or_false] at hu; rcases hu with rfl | rfl <;> rfl) rfl rfl rfl kp <| ow_nil <| x_qb <| x_qs <| c_reg <| ow_batch [.p, .p, .p] rfl <| ow_nil <| xw_st (fun _ h => St.push0 h (Res.own (eTimpl_Pair) [] y53 [.int .i64 y53.Truth_, .int .i64 y53.Said_]) rfl ⟨rfl, rfl⟩) <| xw_ex (fun w1 hw1 => unf (p := 1) (q := 2) hw1 rfl rfl rfl hn63 ha62) fun F64 => xw_st (C' := St w M0 [_, _, _, _]) (fun _ h => h) <| x_ql (RW.at (ihk1 ((l30.set i33.toNat y53)) (F64) (IntKind.i64.wrap (i33 + 1)) (H)) (fun _ h => St.sel [3] rfl rfl h) ⟨rfl, rfl, rfl, trivial⟩)
  ·exact c_exit <| x_qs_exit <| x_ql_exit <| x_qb_here <| x_qs <| sR <| oPP rfl <| nT <| x_retR (rs := [.tmp 2]) (vs := [.slice (some ⟨b12, 0, none⟩) l10.length l10.length]) rfl ⟨rfl, trivial⟩ (fun w' hw' => by
    obtain rfl := of_some H
    exact ⟨_, rfl, (some ⟨b12, 0, none⟩), l10.length, l10.length, F31, rfl, hw'.sel [0] rfl rfl⟩)
theorem laws_toScore_ok (w : World) {M0 : List Nat} {p0 : Tlaws_Score} {cs0 : List Value} {r : Timpl_Score} (H : laws_toScore p0 = some r) (HS : St w M0 [] w) (g0 : (eTlaws_Score).rd w M0 p0 cs0) :
    Calls Tryz.prog 24 #[.agg cs0.toArray] w (fun en w' => ∃ v, en = .returned v ∧ ∃ (a0 : Option Addr), ∃ (n0 : Nat), ∃ (c0 : Nat), ∃ (F0 : List Nat), ∃ (a1 : Option Addr), ∃ (n1 : Nat), ∃ (c1 : Nat), ∃ (F1 : List Nat), v = .agg #[.slice a0 n0 c0, .slice a1 n1 c1] ∧ St w M0 [Res.own (eList (eList eI 3) 39) F0 r.Table_ [.slice a0 n0 c0], Res.own (eList (eTimpl_Pair) 143) F1 r.Last_ [.slice a1 n1 c1]] w') := by
 obtain ⟨c10, c11, rfl, g12, g13⟩ := rdo_Tlaws_Score g0
 obtain ⟨a14, c15, rfl⟩ := rd_sl1 g12
 obtain ⟨a16, c17, rfl⟩ := rd_sl1 g13
 unfold laws_toScore at H
 refine f_enter Tryz.func24 rfl Tryz.ntmps24 rfl (HS) <| sR <| ob _ rfl fun b18 => ow_alloc rfl rfl rfl rfl ty57 (fun _ => kp) fun b19 => nR <| ow_alloc rfl rfl rfl rfl ty57 (fun _ => kp) fun b20 => nR <| ow_batch [.fa 36 0 0 fa36_0] rfl <| o1 rfl (r1 0 0 rfl ty33 rfl) <| bE H fun y21 h22 H => ow_callS rfl fn46 rfl rfl rfl rfl (fun w1 hw1 => laws_toIntSS_ok w1  h22 (hw1.carve [] rfl rfl) (rds_bor g12 w1 hw1)) fun v23 w1 w2 hw1 hR25 => ?_
 obtain ⟨a26, n27, c28, F29, rfl, hS24⟩ := hR25
 obtain rfl := own_nS (i := 0) hS24 rfl
 refine ⟨St w M0 [_, _, _, _], hw1.comp [] rfl rfl hS24, fun _ _ => trivial, ?_⟩
 refine ow_batch [.fa 57 0 0 fa57_0] rfl <| sC 0 [.slice a26 y21.length c28] [_, _] 2 rfl ty33 rfl <| nR <| ow_batch [.fa 36 1 1 fa36_1] rfl <| o1 rfl (r1 1 0 rfl ty34 rfl) <| bE H fun y30 h31 H => ow_callS rfl fn47 rfl rfl rfl rfl (fun w1 hw1 => laws_toPairS_ok w1  h31 (hw1.carve [] rfl rfl) (rds_bor g13 w1 hw1)) fun v32 w1 w2 hw1 hR34 => ?_
 obtain ⟨a35, n36, c37, F38, rfl, hS33⟩ := hR34
 obtain rfl := own_nS (i := 0) hS33 rfl
 refine ⟨St w M0 [_, _, _, _, _], hw1.comp [] rfl rfl hS33, fun _ _ => trivial, ?_⟩
 exact ow_batch [.fa 57 1 1 fa57_1] rfl <| sC 1 [.slice a35 y30.length c37] [_, _] 2 rfl ty55 rfl <| nR <| o1 rfl (rx 0 2 _ rfl ty57 rfl) <| sC 0 [.slice a26 y21.length c28, .slice a35 y30.length c37] [_, _] 1 rfl ty57 rfl <| nT <| x_retR (rs := [.cell 2 57]) (vs := [.agg #[.slice a26 y21.length c28, .slice a35 y30.length c37]]) rfl ⟨⟨_, [.slice a26 y21.length c28, .slice a35 y30.length c37], _, _, _, rfl, ty57, (at_box (T := 57) 0 (boxIn (i := 1) rfl) rfl), rfl, rfl⟩, trivial⟩ (fun w' hw' => by
  obtain rfl := of_some H
  exact ⟨_, rfl, a26, y21.length, c28, F29, a35, y30.length, c37, F38, rfl, hw'.sel [3, 4] rfl rfl⟩)
theorem laws_toState_ok (w : World) {M0 : List Nat} {p0 : Tlaws_State} {cs0 : List Value} {r : Timpl_State} (H : laws_toState p0 = some r) (HS : St w M0 [] w) (g0 : (eTlaws_State).rd w M0 p0 cs0) :
    Calls Tryz.prog 7 #[.agg cs0.toArray] w (fun en w' => ∃ v, en = .returned v ∧ ∃ (a0 : Option Addr), ∃ (n0 : Nat), ∃ (c0 : Nat), ∃ (F0 : List Nat), ∃ (a1 : Option Addr), ∃ (n1 : Nat), ∃ (c1 : Nat), ∃ (F1 : List Nat), ∃ (a2 : Option Addr), ∃ (n2 : Nat), ∃ (c2 : Nat), ∃ (F2 : List Nat), ∃ (a3 : Option Addr), ∃ (n3 : Nat), ∃ (c3 : Nat), ∃ (F3 : List Nat), ∃ (a4 : Option Addr), ∃ (n4 : Nat), ∃ (c4 : Nat), ∃ (F4 : List Nat), v = .agg #[.slice a0 n0 c0, .slice a1 n1 c1, .int .i64 r.Conf_.Rule_.Sure_, .int .i64 r.Conf_.Rule_.Tie_, .int .i64 r.Conf_.Rule_.Grace_, .int .i64 r.Conf_.Rule_.Depth_, .int .i64 r.Conf_.Rule_.Nodes_, .int .i64 r.Conf_.Rule_.Units_, .bool r.Conf_.Rule_.Two_, .int .i64 r.Conf_.Members_, .int .i64 r.Conf_.Pick_, .int .i64 r.Conf_.Lambda_, .int .i64 r.Conf_.Warn_, .int .i64 r.Conf_.Drift_, .slice a2 n2 c2, .slice a3 n3 c3, .slice a4 n4 c4] ∧ St w M0 [Res.own (eList (eTimpl_Attr) 133) F0 r.Conf_.Schema_.Attrs_ [.slice a0 n0 c0], Res.own (eList (eStr) 9) F1 r.Conf_.Schema_.Classes_ [.slice a1 n1 c1], Res.own (eList (eTimpl_Member) 99) F2 r.Forest_.Members_ [.slice a2 n2 c2], Res.own (eList (eList eI 3) 39) F3 r.Score_.Table_ [.slice a3 n3 c3], Res.own (eList (eTimpl_Pair) 143) F4 r.Score_.Last_ [.slice a4 n4 c4]] w') := by
 obtain ⟨c10, c11, c12, rfl, g13, g14, g15⟩ := rdo_Tlaws_State g0
 obtain ⟨c16, c17, c18, c19, c20, c21, c22, rfl, g23, g24, g25, g26, g27, g28, g29⟩ := rdo_Tlaws_Conf g13
 obtain ⟨c30, c31, rfl, g32, g33⟩ := rdo_Tlaws_Schema g23
 obtain ⟨a34, c35, rfl⟩ := rd_sl1 g32
 obtain ⟨a36, c37, rfl⟩ := rd_sl1 g33
 obtain rfl := g24
 obtain rfl := g25
 obtain rfl := g26
 obtain rfl := g27
 obtain rfl := g28
 obtain rfl := g29
 obtain ⟨c38, rfl, g39⟩ := rdo_Tlaws_Forest g14
 obtain ⟨a40, c41, rfl⟩ := rd_sl1 g39
 obtain ⟨c42, c43, rfl, g44, g45⟩ := rdo_Tlaws_Score g15
 obtain ⟨a46, c47, rfl⟩ := rd_sl1 g44
 obtain ⟨a48, c49, rfl⟩ := rd_sl1 g45
 unfold laws_toState at H
 refine f_enter Tryz.func7 rfl Tryz.ntmps7 rfl (HS) <| sR <| ob _ rfl fun b50 => ow_alloc rfl rfl rfl rfl ty59 (fun _ => kp) fun b51 => nR <| ow_alloc rfl rfl rfl rfl ty59 (fun _ => kp) fun b52 => nR <| ow_batch [.fa 38 0 0 fa38_0] rfl <| o1 rfl (rx 0 0 _ rfl ty29 rfl) <| bE H fun y53 h54 H => ow_callS rfl fn22 rfl rfl rfl rfl (fun w1 hw1 => laws_toConf_ok w1 h54 (hw1.carve [] rfl rfl) (rdm_Tlaws_Conf (rdm_Tlaws_Schema (rds_bor g32 w1 hw1) (rds_bor g33 w1 hw1)) rfl rfl rfl rfl rfl rfl)) fun v55 w1 w2 hw1 hR57 => ?_
 obtain ⟨a58, n59, c60, F61, a62, n63, c64, F65, rfl, hS56⟩ := hR57
 obtain rfl := own_nS (i := 0) hS56 rfl
 obtain rfl := own_nS (i := 1) hS56 rfl
 refine ⟨St w M0 [_, _, _, _, _], hw1.comp [] rfl rfl hS56, fun _ _ => trivial, ?_⟩
 refine ow_batch [.fa 59 0 0 fa59_0] rfl <| sC 0 [.slice a58 y53.Schema_.Attrs_.length c60, .slice a62 y53.Schema_.Classes_.length c64, .int .i64 y53.Rule_.Sure_, .int .i64 y53.Rule_.Tie_, .int .i64 y53.Rule_.Grace_, .int .i64 y53.Rule_.Depth_, .int .i64 y53.Rule_.Nodes_, .int .i64 y53.Rule_.Units_, .bool y53.Rule_.Two_, .int .i64 y53.Members_, .int .i64 y53.Pick_, .int .i64 y53.Lambda_, .int .i64 y53.Warn_, .int .i64 y53.Drift_] [_, _, _, _, _, _, _, _, _, _, _, _, _, _, _, _, _] 2 rfl ty51 rfl <| nR <| ow_batch [.fa 38 1 14 fa38_1] rfl <| o1 rfl (rx 14 0 _ rfl ty32 rfl) <| bE H fun y66 h67 H => ow_callS rfl fn23 rfl rfl rfl rfl (fun w1 hw1 => laws_toForest_ok w1 h67 (hw1.carve [] rfl rfl) (rdm_Tlaws_Forest (rds_bor g39 w1 hw1))) fun v68 w1 w2 hw1 hR70 => ?_
 obtain ⟨a71, n72, c73, F74, rfl, hS69⟩ := hR70
 obtain rfl := own_nS (i := 0) hS69 rfl
 refine ⟨St w M0 [_, _, _, _, _, _], hw1.comp [] rfl rfl hS69, fun _ _ => trivial, ?_⟩
 refine ow_batch [.fa 59 1 14 fa59_1] rfl <| sC 14 [.slice a71 y66.Members_.length c73] [_, _, _, _, _, _, _, _, _, _, _, _, _, _, _, _, _] 2 rfl ty54 rfl <| nR <| ow_batch [.fa 38 2 15 fa38_2] rfl <| o1 rfl (rx 15 0 _ rfl ty36 rfl) <| bE H fun y75 h76 H => ow_callS rfl fn24 rfl rfl rfl rfl (fun w1 hw1 => laws_toScore_ok w1 h76 (hw1.carve [] rfl rfl) (rdm_Tlaws_Score (rds_bor g44 w1 hw1) (rds_bor g45 w1 hw1))) fun v77 w1 w2 hw1 hR79 => ?_
 obtain ⟨a80, n81, c82, F83, a84, n85, c86, F87, rfl, hS78⟩ := hR79
 obtain rfl := own_nS (i := 0) hS78 rfl
 obtain rfl := own_nS (i := 1) hS78 rfl
 refine ⟨St w M0 [_, _, _, _, _, _, _, _], hw1.comp [] rfl rfl hS78, fun _ _ => trivial, ?_⟩
 exact ow_batch [.fa 59 2 15 fa59_2] rfl <| sC 15 [.slice a80 y75.Table_.length c82, .slice a84 y75.Last_.length c86] [_, _, _, _, _, _, _, _, _, _, _, _, _, _, _, _, _] 2 rfl ty57 rfl <| nR <| o1 rfl (rx 0 2 _ rfl ty59 rfl) <| sC 0 [.slice a58 y53.Schema_.Attrs_.length c60, .slice a62 y53.Schema_.Classes_.length c64, .int .i64 y53.Rule_.Sure_, .int .i64 y53.Rule_.Tie_, .int .i64 y53.Rule_.Grace_, .int .i64 y53.Rule_.Depth_, .int .i64 y53.Rule_.Nodes_, .int .i64 y53.Rule_.Units_, .bool y53.Rule_.Two_, .int .i64 y53.Members_, .int .i64 y53.Pick_, .int .i64 y53.Lambda_, .int .i64 y53.Warn_, .int .i64 y53.Drift_, .slice a71 y66.Members_.length c73, .slice a80 y75.Table_.length c82, .slice a84 y75.Last_.length c86] [_, _, _, _, _, _, _, _, _, _, _, _, _, _, _, _, _] 1 rfl ty59 rfl <| nT <| x_retR (rs := [.cell 2 59]) (vs := [.agg #[.slice a58 y53.Schema_.Attrs_.length c60, .slice a62 y53.Schema_.Classes_.length c64, .int .i64 y53.Rule_.Sure_, .int .i64 y53.Rule_.Tie_, .int .i64 y53.Rule_.Grace_, .int .i64 y53.Rule_.Depth_, .int .i64 y53.Rule_.Nodes_, .int .i64 y53.Rule_.Units_, .bool y53.Rule_.Two_, .int .i64 y53.Members_, .int .i64 y53.Pick_, .int .i64 y53.Lambda_, .int .i64 y53.Warn_, .int .i64 y53.Drift_, .slice a71 y66.Members_.length c73, .slice a80 y75.Table_.length c82, .slice a84 y75.Last_.length c86]]) rfl ⟨⟨_, [.slice a58 y53.Schema_.Attrs_.length c60, .slice a62 y53.Schema_.Classes_.length c64, .int .i64 y53.Rule_.Sure_, .int .i64 y53.Rule_.Tie_, .int .i64 y53.Rule_.Grace_, .int .i64 y53.Rule_.Depth_, .int .i64 y53.Rule_.Nodes_, .int .i64 y53.Rule_.Units_, .bool y53.Rule_.Two_, .int .i64 y53.Members_, .int .i64 y53.Pick_, .int .i64 y53.Lambda_, .int .i64 y53.Warn_, .int .i64 y53.Drift_, .slice a71 y66.Members_.length c73, .slice a80 y75.Table_.length c82, .slice a84 y75.Last_.length c86], _, _, _, rfl, ty59, (at_box (T := 59) 0 (boxIn (i := 1) rfl) rfl), rfl, rfl⟩, trivial⟩ (fun w' hw' => by
  obtain rfl := of_some H
  exact ⟨_, rfl, a58, y53.Schema_.Attrs_.length, c60, F61, a62, y53.Schema_.Classes_.length, c64, F65, a71, y66.Members_.length, c73, F74, a80, y75.Table_.length, c82, F83, a84, y75.Last_.length, c86, F87, rfl, hw'.sel [3, 4, 5, 6, 7] rfl rfl⟩)
theorem laws_toEx_ok (w : World) {M0 : List Nat} {p0 : Tlaws_Ex} {cs0 : List Value} {r : Timpl_Ex} (H : laws_toEx p0 = some r) (HS : St w M0 [] w) (g0 : (eTlaws_Ex).rd w M0 p0 cs0) :
    Calls Tryz.prog 8 #[.agg cs0.toArray] w (fun en w' => ∃ v, en = .returned v ∧ ∃ (a0 : Option Addr), ∃ (n0 : Nat), ∃ (c0 : Nat), ∃ (F0 : List Nat), v = .agg #[.slice a0 n0 c0, .int .i64 r.Class_] ∧ St w M0 [Res.own (eList eI 3) F0 r.Bins_ [.slice a0 n0 c0]] w') := by
 obtain ⟨c10, c11, rfl, g12, g13⟩ := rdo_Tlaws_Ex g0
 obtain ⟨a14, c15, rfl⟩ := rd_sl1 g12
 obtain rfl := g13
 unfold laws_toEx at H
 refine f_enter Tryz.func8 rfl Tryz.ntmps8 rfl (HS) <| sR <| ob _ rfl fun b16 => ow_alloc rfl rfl rfl rfl ty61 (fun _ => kp) fun b17 => nR <| ow_alloc rfl rfl rfl rfl ty61 (fun _ => kp) fun b18 => nR <| ow_batch [.fa 41 0 0 fa41_0] rfl <| o1 rfl (r1 0 0 rfl ty39 rfl) <| bE H fun y19 h20 H => ow_callS rfl fn25 rfl rfl rfl rfl (fun w1 hw1 => laws_toIntS_ok w1  h20 (hw1.carve [] rfl rfl) (rds_bor g12 w1 hw1)) fun v21 w1 w2 hw1 hR23 => ?_
 obtain ⟨a24, n25, c26, F27, rfl, hS22⟩ := hR23
 obtain rfl := own_nS (i := 0) hS22 rfl
 refine ⟨St w M0 [_, _, _, _], hw1.comp [] rfl rfl hS22, fun _ _ => trivial, ?_⟩
 exact ow_batch [.fa 61 0 0 fa61_0] rfl <| sC 0 [.slice a24 y19.length c26] [_, _] 2 rfl ty39 rfl <| nR <| ow_batch [.fa 41 1 1 fa41_1] rfl <| o1 rfl (r1 1 0 rfl ty3 rfl) <| ow_batch [.fa 61 1 1 fa61_1] rfl <| sC 1 [.int .i64 p0.Class_] [_, _] 2 rfl ty3 rfl <| nR <| o1 rfl (rx 0 2 _ rfl ty61 rfl) <| sC 0 [.slice a24 y19.length c26, .int .i64 p0.Class_] [_, _] 1 rfl ty61 rfl <| nT <| x_retR (rs := [.cell 2 61]) (vs := [.agg #[.slice a24 y19.length c26, .int .i64 p0.Class_]]) rfl ⟨⟨_, [.slice a24 y19.length c26, .int .i64 p0.Class_], _, _, _, rfl, ty61, (at_box (T := 61) 0 (boxIn (i := 1) rfl) rfl), rfl, rfl⟩, trivial⟩ (fun w' hw' => by
  obtain rfl := of_some H
  exact ⟨_, rfl, a24, y19.length, c26, F27, rfl, hw'.sel [3] rfl rfl⟩)
theorem spec_l1In_ok (w : World) {p0 : Int} {p1 : Int} {p2 : Int}  {r : Bool} (H : spec_l1In p0 p1 p2 = some r)   :
    Calls Tryz.prog 69 #[.int .i64 p0, .int .i64 p1, .int .i64 p2] w (fun en w' => en = .returned (.bool r) ∧ Ext [] w w') := by
 unfold spec_l1In at H
 refine f_enter Tryz.func69 rfl Tryz.ntmps69 rfl (St.init w []) <| sR <| oP rfl <| nR <| ow_batch [.p, .p, .p, .p] rfl <| ow_cut [(14, .bool ((decide (p0 ≥ p1)) && (decide (p0 ≤ p2)))), (6, .bool false)] 4 ?_ (fun key => OW.sub (R := [(0, .int .i64 p0), (2, .int .i64 p2), (6, .bool false), (10, .bool (decide (p0 ≥ p1)))]) ?_ (sb rfl))
 ·exact oP rfl <| nT <| xr 6 rfl (by cases H; exact q1)
 ·generalize (decide (p0 ≥ p1)) = t11 at key ⊢
  cases t11
  ·exact ow_batch [.p, .p, .p, .p] rfl <| OW.sub key (sb rfl)
  ·exact ow_batch [.p, .p, .p] rfl <| oP rfl <| OW.sub key (sb rfl)
theorem spec_WordOk_ok (w : World) {p0 : List UInt8}  {r : Bool} (H : spec_WordOk p0 = some r)   :
    Calls Tryz.prog 139 #[vS p0] w (fun en w' => en = .returned (.bool r) ∧ Ext [] w w') := by
 unfold spec_WordOk at H
 refine f_enter Tryz.func139 rfl Tryz.ntmps139 rfl (St.init w []) <| sR <| oP rfl <| nQ <| c_seq <| sR <| ow_batch [.p, .lenT 9 st9] rfl <| bE H fun y10 h11 H => oq rfl (qc rfl fn69 (fun w1 hw1 => spec_l1In_ok w1  h11)) tt2 <| oP rfl <| nQ <| cI H rfl (fun H => ?_) (fun H => ?_)
 ·exact sR <| oP rfl <| nT <| x_qs_ret <| xr 2 rfl (by cases H; exact q1)
 ·refine c_skip <| x_qs <| c_seq <| sR <| oP rfl <| nQ <| c_block <| CW.at (loopI1 (fun (i20 : Int) => St w [] []) (fun i20 => [(0, vS p0), (3, .int .i64 i20)]) (fun kk => fun i20 => spec_WordOk_L1 p0 kk i20 = some r) (fun _ H => ?_) (fun k1 ihk1 i20 H => ?_) Fuel (0) (H)) (fun _ h => St.sel [] rfl rfl h) ⟨rfl, rfl,  trivial⟩
  ·unfold spec_WordOk_L1 at H
   exact absurd H (by simp)
  ·unfold spec_WordOk_L1 at H
   refine c_seq <| sR <| ow_batch [.p, .p, .lenT 9 st9, .p] rfl <| nQ <| cI H rfl (fun H => ?_) (fun H => ?_)
   ·refine c_skip <| x_qs <| c_seq <| c_block <| sR <| oPP rfl <| bE H fun b29 h30 H => o1 rfl (ry_sidx (s := p0) rfl rfl rfl st9 h30) <| oPP rfl <| bE H fun u31 hu35 H => ow_cut [(23, .bool u31), (0, vS p0), (3, .int .i64 i20)] 5 ?_ (fun key => OW.sub (R := [(0, vS p0), (3, .int .i64 i20), (18, .bool (decide ((b29.toNat : Int) < 97)))]) ?_ (sb rfl))
    ·refine nQ <| cI H rfl (fun H => ?_) (fun H => ?_)
     ·exact sR <| oP rfl <| nT <| x_qb_ret <| x_qs_ret <| x_ql_ret <| x_qb_ret <| x_qs_ret <| xr 2 rfl (by cases H; exact q1)
     ·exact c_skip <| x_qb <| x_qs <| c_reg <| ow_batch [.p, .p, .p] rfl <| ow_nil <| x_ql (RW.at (ihk1 (IntKind.i64.wrap (i20 + 1)) (H)) (fun _ h => St.sel [] rfl rfl h) ⟨rfl, rfl, trivial⟩)
    ·clear H
     have H := hu35
     clear hu35
     generalize (decide ((b29.toNat : Int) < 97)) = t34 at H key ⊢
     cases t34
     ·have H := of_if_f rfl H
      refine oPP rfl <| bE H fun b32 h33 H => o1 rfl (ry_sidx (s := p0) rfl rfl rfl st9 h33) <| oP rfl <| oP rfl <| ?_
      obtain rfl := of_some H
      exact OW.sub key (sb rfl)
     ·have H := of_if_t rfl H
      refine ow_batch [.p, .p, .p, .p, .p] rfl ?_
      obtain rfl := of_some H
      exact OW.sub key (sb rfl)
   ·exact c_exit <| x_qs_exit <| x_ql_exit <| x_qb_here <| x_qs <| sR <| oP rfl <| nT <| xr 2 rfl (by cases H; exact q1)
theorem spec_l5Words_ok (w : World) {p0 : List (List UInt8)} {a_0 : Option Addr} {n_0 c_0 : Nat} {r : Bool} (H : spec_l5Words p0 = some r)  (g0 : (eList (eStr) 9).rd w [] p0 [.slice a_0 n_0 c_0]) :
    Calls Tryz.prog 107 #[.slice a_0 n_0 c_0] w (fun en w' => en = .returned (.bool r) ∧ Ext [] w w') := by
 obtain rfl := rd_n g0
 unfold spec_l5Words at H
 refine f_enter Tryz.func107 rfl Tryz.ntmps107 rfl (St.init w []) <| sR <| oP rfl <| nQ <| c_seq <| sR <| oP rfl <| nQ <| c_block <| CW.at (loopI1 (fun (i30 : Int) => St w [] []) (fun i30 => [(0, .slice a_0 p0.length c_0), (3, .int .i64 i30)]) (fun kk => fun i30 => spec_l5Words_L1 p0 kk i30 = some r) (fun _ H => ?_) (fun k1 ihk1 i30 H => ?_) Fuel (0) (H)) (fun _ h => St.sel [] rfl rfl h) ⟨rfl, rfl,  trivial⟩
 ·unfold spec_l5Words_L1 at H
  exact absurd H (by simp)
 ·unfold spec_l5Words_L1 at H
  refine c_seq <| sR <| ow_batch [.p, .p, .lenS 23 9 sl23, .p] rfl <| nQ <| cI H rfl (fun H => ?_) (fun H => ?_)
  ·refine c_skip <| x_qs <| c_seq <| c_block <| c_seq <| sR <| oPP rfl <| bE H fun e51 h52 H => ow_ixE (e := eStr) (xs := p0) (j := i30) rfl rfl rfl rfl rfl sl23 ty9 rfl (fun w1 hw1 => rds_bor g0 w1 hw1) h52 (by rw [Nat.mul_one]) <| o1 rfl (ry_load1 rfl rfl ty9 (at_elV (fun w1 hw1 => rds_bor g0 w1 hw1) h52)) <| bE H fun y53 h54 H => oq rfl (qc rfl fn139 (fun w1 hw1 => spec_WordOk_ok w1  h54)) tt2 <| oP rfl <| nQ <| cI H rfl (fun H => ?_) (fun H => ?_)
   ·exact sR <| oP rfl <| nT <| x_qs_ret <| x_qb_ret <| x_qs_ret <| x_ql_ret <| x_qb_ret <| x_qs_ret <| xr 2 rfl (by cases H; exact q1)
   ·refine c_skip <| x_qs <| sR <| oP rfl <| nQ <| c_block <| CW.at (loopI1 (fun (i60 : Int) => St w [] []) (fun i60 => [(0, .slice a_0 p0.length c_0), (3, .int .i64 i30), (4, .int .i64 i60)]) (fun kk => fun i60 => spec_l5Words_L2 i30 p0 (spec_l5Words_L1 p0 k1) kk i60 = some r) (fun _ H => ?_) (fun k2 ihk2 i60 H => ?_) Fuel (0) (H)) (fun _ h => St.sel [] rfl rfl h) ⟨rfl, rfl, rfl,  trivial⟩
    ·unfold spec_l5Words_L2 at H
     exact absurd H (by simp)
    ·unfold spec_l5Words_L2 at H
     refine c_seq <| sR <| ow_batch [.p, .p, .p] rfl <| nQ <| cI H rfl (fun H => ?_) (fun H => ?_)
     ·refine c_skip <| x_qs <| c_seq <| c_block <| c_seq <| c_regQ mixed (by kernel_rfl) <| oPP rfl <| bE H fun e66 h67 H => ow_ixE (e := eStr) (xs := p0) (j := i30) rfl rfl rfl rfl rfl sl23 ty9 rfl (fun w1 hw1 => rds_bor g0 w1 hw1) h67 (by rw [Nat.mul_one]) <| o1 rfl (ry_load1 rfl rfl ty9 (at_elV (fun w1 hw1 => rds_bor g0 w1 hw1) h67)) <| oPP rfl <| bE H fun e68 h69 H => ow_ixE (e := eStr) (xs := p0) (j := i60) rfl rfl rfl rfl rfl sl23 ty9 rfl (fun w1 hw1 => rds_bor g0 w1 hw1) h69 (by rw [Nat.mul_one]) <| o1 rfl (ry_load1 rfl rfl ty9 (at_elV (fun w1 hw1 => rds_bor g0 w1 hw1) h69)) <| oP rfl <| ow_nilQ <| x_qs <| cI H rfl (fun H => ?_) (fun H => ?_)
      ·exact sR <| oP rfl <| nT <| x_qb_ret <| x_qs_ret <| x_ql_ret <| x_qb_ret <| x_qb_ret <| x_qs_ret <| x_ql_ret <| x_qb_ret <| x_qs_ret <| xr 2 rfl (by cases H; exact q1)
      ·exact c_skip <| x_qb <| x_qs <| c_reg <| ow_batch [.p, .p, .p] rfl <| ow_nil <| x_ql (RW.at (ihk2 (IntKind.i64.wrap (i60 + 1)) (H)) (fun _ h => St.sel [] rfl rfl h) ⟨rfl, rfl, rfl, trivial⟩)
     ·exact c_exit <| x_qs_exit <| x_ql_exit <| x_qb_here <| x_qb <| x_qs <| c_reg <| ow_batch [.p, .p, .p] rfl <| ow_nil <| x_ql (RW.at (ihk1 (IntKind.i64.wrap (i30 + 1)) (H)) (fun _ h => St.sel [] rfl rfl h) ⟨rfl, rfl, trivial⟩)
  ·exact c_exit <| x_qs_exit <| x_ql_exit <| x_qb_here <| x_qs <| sR <| oP rfl <| nT <| xr 2 rfl (by cases H; exact q1)
theorem spec_AttrOk_ok (w : World) {p0 : Timpl_Attr} {cs0 : List Value} {r : Bool} (H : spec_AttrOk p0 = some r)  (g0 : (eTimpl_Attr).rd w [] p0 cs0) :
    Calls Tryz.prog 108 #[.agg cs0.toArray] w (fun en w' => en = .returned (.bool r) ∧ Ext [] w w') := by
 obtain ⟨c10, c11, c12, rfl, g13, g14, g15⟩ := rdo_Timpl_Attr g0
 obtain rfl := g13
 obtain ⟨a16, c17, rfl⟩ := rd_sl1 g14
 obtain ⟨a18, c19, rfl⟩ := rd_sl1 g15
 unfold spec_AttrOk at H
 refine f_enter Tryz.func108 rfl Tryz.ntmps108 rfl (St.init w []) <| sR <| ob _ rfl fun b20 => oP rfl <| nQ <| c_seq <| sR <| ow_batch [.fa 133 0 0 fa133_0] rfl <| o1 rfl (r1 0 0 rfl ty9 rfl) <| bE H fun y21 h22 H => oq rfl (qc rfl fn139 (fun w1 hw1 => spec_WordOk_ok w1  h22)) tt2 <| oP rfl <| nQ <| cI H rfl (fun H => ?_) (fun H => ?_)
 ·exact sR <| oP rfl <| nT <| x_qs_ret <| xr 2 rfl (by cases H; exact q1)
 ·refine c_skip <| x_qs <| c_seq <| sR <| ow_batch [.fa 133 1 1 fa133_1] rfl <| o1 rfl (r1 1 0 rfl ty39 rfl) <| ow_batch [.lenS 39 3 sl39, .p] rfl <| nQ <| cI H rfl (fun H => ?_) (fun H => ?_)
  ·refine sR <| ow_batch [.fa 133 2 2 fa133_2] rfl <| o1 rfl (r1 2 0 rfl ty23 rfl) <| ow_batch [.lenS 23 9 sl23] rfl <| bE H fun y23 h24 H => oq rfl (qc rfl fn69 (fun w1 hw1 => spec_l1In_ok w1  h24)) tt2 <| oP rfl <| bE H fun u25 hu29 H => ow_cut [(20, .bool u25), (2, .bool false)] 4 ?_ (fun key => OW.sub (R := [(1, .pointer (some ⟨b20, 0, none⟩)), (2, .bool false), (16, .bool y23)]) ?_ (sb rfl))
   ·exact oP rfl <| nT <| x_qs_ret <| xr 2 rfl (by cases H; exact q1)
   ·clear H
    have H := hu29
    clear hu29
    generalize y23 = t28 at H key ⊢
    cases t28
    ·have H := of_if_f rfl H
     refine ow_batch [.p, .p, .p, .p] rfl ?_
     obtain rfl := of_some H
     exact OW.sub key (sb rfl)
    ·have H := of_if_t rfl H
     refine ow_batch [.fa 133 2 2 fa133_2] rfl <| o1 rfl (r1 2 0 rfl ty23 rfl) <| bE H fun y26 h27 H => oq rfl (qc rfl fn107 (fun w1 hw1 => spec_l5Words_ok w1  h27 (rds_bor g15 w1 hw1))) tt2 <| oP rfl <| ?_
     obtain rfl := of_some H
     exact OW.sub key (sb rfl)
  ·refine c_skip <| x_qs <| c_seq <| sR <| ow_batch [.fa 133 2 2 fa133_2] rfl <| o1 rfl (r1 2 0 rfl ty23 rfl) <| ow_batch [.lenS 23 9 sl23, .p, .p] rfl <| ow_cut [(30, .bool ((decide ((p0.Values_.length : Int) > 0)) || (decide ((p0.Cuts_.length : Int) > 3)))), (1, .pointer (some ⟨b20, 0, none⟩))] 5 ?_ (fun key => OW.sub (R := [(1, .pointer (some ⟨b20, 0, none⟩)), (25, .bool (decide ((p0.Values_.length : Int) > 0)))]) ?_ (sb rfl))
   ·refine nQ <| cI H rfl (fun H => ?_) (fun H => ?_)
    ·exact sR <| oP rfl <| nT <| x_qs_ret <| xr 2 rfl (by cases H; exact q1)
    ·refine c_skip <| x_qs <| c_seq <| sR <| oP rfl <| nQ <| c_block <| CW.at (loopI1 (fun (i47 : Int) => St w [] [Res.box b20 133 [vS p0.Name_, .slice a16 p0.Cuts_.length c17, .slice a18 p0.Values_.length c19]]) (fun i47 => [(1, .pointer (some ⟨b20, 0, none⟩)), (3, .int .i64 i47)]) (fun kk => fun i47 => spec_AttrOk_L1 p0 kk i47 = some r) (fun _ H => ?_) (fun k1 ihk1 i47 H => ?_) Fuel (0) (H)) (fun _ h => St.sel [0] rfl rfl h) ⟨rfl, rfl,  trivial⟩
     ·unfold spec_AttrOk_L1 at H
      exact absurd H (by simp)
     ·unfold spec_AttrOk_L1 at H
      refine c_seq <| sR <| ow_batch [.p, .fa 133 1 1 fa133_1] rfl <| o1 rfl (r1 1 0 rfl ty39 rfl) <| ow_batch [.lenS 39 3 sl39, .p] rfl <| nQ <| cI H rfl (fun H => ?_) (fun H => ?_)
      ·refine c_skip <| x_qs <| c_seq <| c_block <| c_seq <| c_regQ mixed (by kernel_rfl) <| ow_batch [.fa 133 1 1 fa133_1] rfl <| o1 rfl (r1 1 0 rfl ty39 rfl) <| oP rfl <| bE H fun e63 h64 H => ow_ixE (e := eI) (xs := p0.Cuts_) (j := i47) rfl rfl rfl rfl rfl sl39 ty3 rfl (fun w1 hw1 => rds_bor g14 w1 hw1) h64 (by rw [Nat.mul_one]) <| o1 rfl (ry_load1 rfl rfl ty3 (at_elV (fun w1 hw1 => rds_bor g14 w1 hw1) h64)) <| bE H fun y65 h66 H => oq rfl (qc rfl fn69 (fun w1 hw1 => spec_l1In_ok w1  h66)) tt2 <| oPP rfl <| bE H fun u67 hu76 H => ow_cut [(62, .bool u67), (1, .pointer (some ⟨b20, 0, none⟩)), (3, .int .i64 i47)] 17 ?_ (fun key => OW.sub (R := [(1, .pointer (some ⟨b20, 0, none⟩)), (3, .int .i64 i47), (45, .bool (!y65))]) ?_ (sb rfl))
       ·refine ow_nilQ <| x_qs <| cI H rfl (fun H => ?_) (fun H => ?_)
        ·exact sR <| oP rfl <| nT <| x_qb_ret <| x_qs_ret <| x_ql_ret <| x_qb_ret <| x_qs_ret <| xr 2 rfl (by cases H; exact q1)
        ·exact c_skip <| x_qb <| x_qs <| c_reg <| ow_batch [.p, .p, .p] rfl <| ow_nil <| x_ql (RW.at (ihk1 (IntKind.i64.wrap (i47 + 1)) (H)) (fun _ h => St.sel [0] rfl rfl h) ⟨rfl, rfl, trivial⟩)
       ·clear H
        have H := hu76
        clear hu76
        generalize (!y65) = t75 at H key ⊢
        cases t75
        ·have H := of_if_f rfl H
         refine ow_batch [.p, .p, .p] rfl <| bE H fun u68 hu74 H => ow_cut [(61, .bool u68), (1, .pointer (some ⟨b20, 0, none⟩)), (3, .int .i64 i47), (45, .bool false)] 13 ?_ (fun key => OW.sub (R := [(1, .pointer (some ⟨b20, 0, none⟩)), (3, .int .i64 i47), (45, .bool false), (48, .bool (decide (i47 > 0)))]) ?_ (sb rfl))
         ·refine ow_batch [.p] rfl ?_
          obtain rfl := of_some H
          exact OW.sub key (sb rfl)
         ·clear H
          have H := hu74
          clear hu74
          generalize (decide (i47 > 0)) = t73 at H key ⊢
          cases t73
          ·have H := of_if_f rfl H
           refine ow_batch [.p, .p, .p, .p, .p, .p, .p, .p, .p, .p, .p, .p, .p] rfl ?_
           obtain rfl := of_some H
           exact OW.sub key (sb rfl)
          ·have H := of_if_t rfl H
           refine ow_batch [.fa 133 1 1 fa133_1] rfl <| o1 rfl (r1 1 0 rfl ty39 rfl) <| oP rfl <| bE H fun e69 h70 H => ow_ixE (e := eI) (xs := p0.Cuts_) (j := i47) rfl rfl rfl rfl rfl sl39 ty3 rfl (fun w1 hw1 => rds_bor g14 w1 hw1) h70 (by rw [Nat.mul_one]) <| o1 rfl (ry_load1 rfl rfl ty3 (at_elV (fun w1 hw1 => rds_bor g14 w1 hw1) h70)) <| ow_batch [.fa 133 1 1 fa133_1] rfl <| o1 rfl (r1 1 0 rfl ty39 rfl) <| oPP rfl <| bE H fun e71 h72 H => ow_ixE (e := eI) (xs := p0.Cuts_) (j := IntKind.i64.wrap (i47 - 1)) rfl rfl rfl rfl rfl sl39 ty3 rfl (fun w1 hw1 => rds_bor g14 w1 hw1) h72 (by rw [Nat.mul_one]) <| o1 rfl (ry_load1 rfl rfl ty3 (at_elV (fun w1 hw1 => rds_bor g14 w1 hw1) h72)) <| oP rfl <| oP rfl <| ?_
           obtain rfl := of_some H
           exact OW.sub key (sb rfl)
        ·have H := of_if_t rfl H
         refine ow_batch [.p, .p, .p, .p, .p, .p, .p, .p, .p, .p, .p, .p, .p, .p, .p, .p, .p] rfl ?_
         obtain rfl := of_some H
         exact OW.sub key (sb rfl)
      ·exact c_exit <| x_qs_exit <| x_ql_exit <| x_qb_here <| x_qs <| sR <| oP rfl <| nT <| xr 2 rfl (by cases H; exact q1)
   ·generalize (decide ((p0.Values_.length : Int) > 0)) = t31 at key ⊢
    cases t31
    ·exact ow_batch [.fa 133 1 1 fa133_1] rfl <| o1 rfl (r1 1 0 rfl ty39 rfl) <| ow_batch [.lenS 39 3 sl39, .p] rfl <| oP rfl <| OW.sub key (sb rfl)
    ·exact ow_batch [.p, .p, .p, .p, .p] rfl <| OW.sub key (sb rfl)
theorem spec_SchemaOk_ok (w : World) {p0 : Timpl_Schema} {cs0 : List Value} {r : Bool} (H : spec_SchemaOk p0 = some r)  (g0 : (eTimpl_Schema).rd w [] p0 cs0) :
    Calls Tryz.prog 68 #[.agg cs0.toArray] w (fun en w' => en = .returned (.bool r) ∧ Ext [] w w') := by
 obtain ⟨c10, c11, rfl, g12, g13⟩ := rdo_Timpl_Schema g0
 obtain ⟨a14, c15, rfl⟩ := rd_sl1 g12
 obtain ⟨a16, c17, rfl⟩ := rd_sl1 g13
 unfold spec_SchemaOk at H
 refine f_enter Tryz.func68 rfl Tryz.ntmps68 rfl (St.init w []) <| sR <| ob _ rfl fun b18 => oP rfl <| nQ <| c_seq <| sR <| ow_batch [.fa 48 0 0 fa48_0] rfl <| o1 rfl (r1 0 0 rfl ty46 rfl) <| ow_batch [.lenS 46 133 sl46] rfl <| bE H fun y19 h20 H => oq rfl (qc rfl fn69 (fun w1 hw1 => spec_l1In_ok w1  h20)) tt2 <| oPP rfl <| bE H fun u21 hu25 H => ow_cut [(16, .bool u21), (1, .pointer (some ⟨b18, 0, none⟩))] 6 ?_ (fun key => OW.sub (R := [(1, .pointer (some ⟨b18, 0, none⟩)), (10, .bool (!y19))]) ?_ (sb rfl))
 ·refine oP rfl <| bE H fun u26 hu30 H => ow_cut [(22, .bool u26), (1, .pointer (some ⟨b18, 0, none⟩))] 5 ?_ (fun key => OW.sub (R := [(1, .pointer (some ⟨b18, 0, none⟩)), (17, .bool u21)]) ?_ (sb rfl))
  ·refine nQ <| cI H rfl (fun H => ?_) (fun H => ?_)
   ·exact sR <| oP rfl <| nT <| x_qs_ret <| xr 2 rfl (by cases H; exact q1)
   ·refine c_skip <| x_qs <| c_seq <| sR <| oP rfl <| nQ <| c_block <| CW.at (loopI1 (fun (i149 : Int) => St w [] [Res.box b18 48 [.slice a14 p0.Attrs_.length c15, .slice a16 p0.Classes_.length c17]]) (fun i149 => [(1, .pointer (some ⟨b18, 0, none⟩)), (3, .int .i64 i149)]) (fun kk => fun i149 => spec_SchemaOk_L1 p0 kk i149 = some r) (fun _ H => ?_) (fun k1 ihk1 i149 H => ?_) Fuel (0) (H)) (fun _ h => St.sel [0] rfl rfl h) ⟨rfl, rfl,  trivial⟩
    ·unfold spec_SchemaOk_L1 at H
     exact absurd H (by simp)
    ·unfold spec_SchemaOk_L1 at H
     refine c_seq <| sR <| ow_batch [.p, .fa 48 0 0 fa48_0] rfl <| o1 rfl (r1 0 0 rfl ty46 rfl) <| ow_batch [.lenS 46 133 sl46, .p] rfl <| nQ <| cI H rfl (fun H => ?_) (fun H => ?_)
     ·refine c_skip <| x_qs <| c_seq <| c_block <| c_seq <| sR <| ow_batch [.fa 48 0 0 fa48_0] rfl <| o1 rfl (r1 0 0 rfl ty46 rfl) <| oP rfl <| bE H fun e268 h269 H => ow_ixB rfl rfl rfl rfl rfl sl46 ty133 rfl g12 h269 fun q272 c273 hd270 hA271 => ?_
      obtain ⟨c274, c275, c276, rfl, g277, g278, g279⟩ := rdo_Timpl_Attr hd270
      obtain rfl := g277
      obtain ⟨a280, c281, rfl⟩ := rd_sl1 g278
      obtain ⟨a282, c283, rfl⟩ := rd_sl1 g279
      refine o1 rfl (ry_load (cs := [vS e268.Name_, .slice a280 e268.Cuts_.length c281, .slice a282 e268.Values_.length c283]) rfl rfl ty133 (at_bor bor hA271) rfl) <| bE H fun y284 h285 H => oq rfl (qc rfl fn108 (fun w1 hw1 => spec_AttrOk_ok w1 h285 (rdm_Timpl_Attr rfl (rds_bor g278 w1 hw1) (rds_bor g279 w1 hw1)))) tt2 <| oP rfl <| nQ <| cI H rfl (fun H => ?_) (fun H => ?_)
      ·exact sR <| oP rfl <| nT <| x_qs_ret <| x_qb_ret <| x_qs_ret <| x_ql_ret <| x_qb_ret <| x_qs_ret <| xr 2 rfl (by cases H; exact q1)
      ·refine c_skip <| x_qs <| sR <| oP rfl <| nQ <| c_block <| CW.at (loopI1 (fun (i319 : Int) => St w [] [Res.box b18 48 [.slice a14 p0.Attrs_.length c15, .slice a16 p0.Classes_.length c17]]) (fun i319 => [(1, .pointer (some ⟨b18, 0, none⟩)), (3, .int .i64 i149), (4, .int .i64 i319)]) (fun kk => fun i319 => spec_SchemaOk_L2 i149 p0 (spec_SchemaOk_L1 p0 k1) kk i319 = some r) (fun _ H => ?_) (fun k2 ihk2 i319 H => ?_) Fuel (0) (H)) (fun _ h => St.sel [0] rfl rfl h) ⟨rfl, rfl, rfl,  trivial⟩
       ·unfold spec_SchemaOk_L2 at H
        exact absurd H (by simp)
       ·unfold spec_SchemaOk_L2 at H
        refine c_seq <| sR <| ow_batch [.p, .p, .p] rfl <| nQ <| cI H rfl (fun H => ?_) (fun H => ?_)
        ·refine c_skip <| x_qs <| c_seq <| c_block <| c_seq <| c_regQ mixed (by kernel_rfl) <| ow_batch [.fa 48 0 0 fa48_0] rfl <| o1 rfl (r1 0 0 rfl ty46 rfl) <| oP rfl <| bE H fun e353 h354 H => ow_ixB rfl rfl rfl rfl rfl sl46 ty133 rfl g12 h354 fun q357 c358 hd355 hA356 => ?_
         obtain ⟨c359, c360, c361, rfl, g362, g363, g364⟩ := rdo_Timpl_Attr hd355
         obtain rfl := g362
         obtain ⟨a365, c366, rfl⟩ := rd_sl1 g363
         obtain ⟨a367, c368, rfl⟩ := rd_sl1 g364
         refine ow_batch [.fa 133 0 0 fa133_0] rfl <| o1 rfl (ry_load1 rfl rfl ty9 (at_bor bor (at_K hA356 0 1))) <| ow_batch [.fa 48 0 0 fa48_0] rfl <| o1 rfl (r1 0 0 rfl ty46 rfl) <| oP rfl <| bE H fun e369 h370 H => ow_ixB rfl rfl rfl rfl rfl sl46 ty133 rfl g12 h370 fun q373 c374 hd371 hA372 => ?_
         obtain ⟨c375, c376, c377, rfl, g378, g379, g380⟩ := rdo_Timpl_Attr hd371
         obtain rfl := g378
         obtain ⟨a381, c382, rfl⟩ := rd_sl1 g379
         obtain ⟨a383, c384, rfl⟩ := rd_sl1 g380
         refine ow_batch [.fa 133 0 0 fa133_0] rfl <| o1 rfl (ry_load1 rfl rfl ty9 (at_bor bor (at_K hA372 0 1))) <| oP rfl <| ow_nilQ <| x_qs <| cI H rfl (fun H => ?_) (fun H => ?_)
         ·exact sR <| oP rfl <| nT <| x_qb_ret <| x_qs_ret <| x_ql_ret <| x_qb_ret <| x_qb_ret <| x_qs_ret <| x_ql_ret <| x_qb_ret <| x_qs_ret <| xr 2 rfl (by cases H; exact q1)
         ·exact c_skip <| x_qb <| x_qs <| c_reg <| ow_batch [.p, .p, .p] rfl <| ow_nil <| x_ql (RW.at (ihk2 (IntKind.i64.wrap (i319 + 1)) (H)) (fun _ h => St.sel [0] rfl rfl h) ⟨rfl, rfl, rfl, trivial⟩)
        ·exact c_exit <| x_qs_exit <| x_ql_exit <| x_qb_here <| x_qb <| x_qs <| c_reg <| ow_batch [.p, .p, .p] rfl <| ow_nil <| x_ql (RW.at (ihk1 (IntKind.i64.wrap (i149 + 1)) (H)) (fun _ h => St.sel [0] rfl rfl h) ⟨rfl, rfl, trivial⟩)
     ·exact c_exit <| x_qs_exit <| x_ql_exit <| x_qb_here <| x_qs <| sR <| oP rfl <| nT <| xr 2 rfl (by cases H; exact q1)
  ·clear H
   have H := hu30
   clear hu30
   generalize u21 = t29 at H key ⊢
   cases t29
   ·have H := of_if_f rfl H
    refine ow_batch [.fa 48 1 1 fa48_1] rfl <| o1 rfl (r1 1 0 rfl ty23 rfl) <| bE H fun y27 h28 H => oq rfl (qc rfl fn107 (fun w1 hw1 => spec_l5Words_ok w1  h28 (rds_bor g13 w1 hw1))) tt2 <| oP rfl <| oP rfl <| ?_
    obtain rfl := of_some H
    exact OW.sub key (sb rfl)
   ·have H := of_if_t rfl H
    refine ow_batch [.p, .p, .p, .p, .p] rfl ?_
    obtain rfl := of_some H
    exact OW.sub key (sb rfl)
 ·clear H
  have H := hu25
  clear hu25
  generalize (!y19) = t24 at H key ⊢
  cases t24
  ·have H := of_if_f rfl H
   refine ow_batch [.fa 48 1 1 fa48_1] rfl <| o1 rfl (r1 1 0 rfl ty23 rfl) <| ow_batch [.lenS 23 9 sl23] rfl <| bE H fun y22 h23 H => oq rfl (qc rfl fn69 (fun w1 hw1 => spec_l1In_ok w1  h23)) tt2 <| oP rfl <| oP rfl <| ?_
   obtain rfl := of_some H
   exact OW.sub key (sb rfl)
  ·have H := of_if_t rfl H
   refine ow_batch [.p, .p, .p, .p, .p, .p] rfl ?_
   obtain rfl := of_some H
   exact OW.sub key (sb rfl)
theorem spec_RuleOk_ok (w : World) {p0 : Timpl_Rule}  {r : Bool} (H : spec_RuleOk p0 = some r)   :
    Calls Tryz.prog 103 #[.agg #[.int .i64 p0.Sure_, .int .i64 p0.Tie_, .int .i64 p0.Grace_, .int .i64 p0.Depth_, .int .i64 p0.Nodes_, .int .i64 p0.Units_, .bool p0.Two_]] w (fun en w' => en = .returned (.bool r) ∧ Ext [] w w') := by
 unfold spec_RuleOk at H
 refine f_enter Tryz.func103 rfl Tryz.ntmps103 rfl (St.init w []) <| sR <| ob _ rfl fun b10 => oP rfl <| nR <| ow_batch [.fa 49 0 0 fa49_0] rfl <| o1 rfl (r1 0 0 rfl ty3 rfl) <| bE H fun y11 h12 H => oq rfl (qc rfl fn69 (fun w1 hw1 => spec_l1In_ok w1  h12)) tt2 <| oP rfl <| bE H fun u13 hu17 H => ow_cut [(10, .bool u13), (1, .pointer (some ⟨b10, 0, none⟩)), (2, .bool false)] 4 ?_ (fun key => OW.sub (R := [(1, .pointer (some ⟨b10, 0, none⟩)), (2, .bool false), (6, .bool y11)]) ?_ (sb rfl))
 ·refine oP rfl <| bE H fun u18 hu22 H => ow_cut [(15, .bool u18), (1, .pointer (some ⟨b10, 0, none⟩)), (2, .bool false)] 4 ?_ (fun key => OW.sub (R := [(1, .pointer (some ⟨b10, 0, none⟩)), (2, .bool false), (11, .bool u13)]) ?_ (sb rfl))
  ·refine oP rfl <| bE H fun u23 hu27 H => ow_cut [(20, .bool u23), (1, .pointer (some ⟨b10, 0, none⟩)), (2, .bool false)] 4 ?_ (fun key => OW.sub (R := [(1, .pointer (some ⟨b10, 0, none⟩)), (2, .bool false), (16, .bool u18)]) ?_ (sb rfl))
   ·refine oP rfl <| bE H fun u28 hu32 H => ow_cut [(25, .bool u28), (1, .pointer (some ⟨b10, 0, none⟩)), (2, .bool false)] 4 ?_ (fun key => OW.sub (R := [(1, .pointer (some ⟨b10, 0, none⟩)), (2, .bool false), (21, .bool u23)]) ?_ (sb rfl))
    ·refine oP rfl <| bE H fun u33 hu37 H => ow_cut [(30, .bool u33), (2, .bool false)] 4 ?_ (fun key => OW.sub (R := [(1, .pointer (some ⟨b10, 0, none⟩)), (2, .bool false), (26, .bool u28)]) ?_ (sb rfl))
     ·exact oP rfl <| nT <| xr 2 rfl (by cases H; exact q1)
     ·clear H
      have H := hu37
      clear hu37
      generalize u28 = t36 at H key ⊢
      cases t36
      ·have H := of_if_f rfl H
       refine ow_batch [.p, .p, .p, .p] rfl ?_
       obtain rfl := of_some H
       exact OW.sub key (sb rfl)
      ·have H := of_if_t rfl H
       refine ow_batch [.fa 49 5 5 fa49_5] rfl <| o1 rfl (r1 5 0 rfl ty3 rfl) <| bE H fun y34 h35 H => oq rfl (qc rfl fn69 (fun w1 hw1 => spec_l1In_ok w1  h35)) tt2 <| oP rfl <| ?_
       obtain rfl := of_some H
       exact OW.sub key (sb rfl)
    ·clear H
     have H := hu32
     clear hu32
     generalize u23 = t31 at H key ⊢
     cases t31
     ·have H := of_if_f rfl H
      refine ow_batch [.p, .p, .p, .p] rfl ?_
      obtain rfl := of_some H
      exact OW.sub key (sb rfl)
     ·have H := of_if_t rfl H
      refine ow_batch [.fa 49 4 4 fa49_4] rfl <| o1 rfl (r1 4 0 rfl ty3 rfl) <| bE H fun y29 h30 H => oq rfl (qc rfl fn69 (fun w1 hw1 => spec_l1In_ok w1  h30)) tt2 <| oP rfl <| ?_
      obtain rfl := of_some H
      exact OW.sub key (sb rfl)
   ·clear H
    have H := hu27
    clear hu27
    generalize u18 = t26 at H key ⊢
    cases t26
    ·have H := of_if_f rfl H
     refine ow_batch [.p, .p, .p, .p] rfl ?_
     obtain rfl := of_some H
     exact OW.sub key (sb rfl)
    ·have H := of_if_t rfl H
     refine ow_batch [.fa 49 3 3 fa49_3] rfl <| o1 rfl (r1 3 0 rfl ty3 rfl) <| bE H fun y24 h25 H => oq rfl (qc rfl fn69 (fun w1 hw1 => spec_l1In_ok w1  h25)) tt2 <| oP rfl <| ?_
     obtain rfl := of_some H
     exact OW.sub key (sb rfl)
  ·clear H
   have H := hu22
   clear hu22
   generalize u13 = t21 at H key ⊢
   cases t21
   ·have H := of_if_f rfl H
    refine ow_batch [.p, .p, .p, .p] rfl ?_
    obtain rfl := of_some H
    exact OW.sub key (sb rfl)
   ·have H := of_if_t rfl H
    refine ow_batch [.fa 49 2 2 fa49_2] rfl <| o1 rfl (r1 2 0 rfl ty3 rfl) <| bE H fun y19 h20 H => oq rfl (qc rfl fn69 (fun w1 hw1 => spec_l1In_ok w1  h20)) tt2 <| oP rfl <| ?_
    obtain rfl := of_some H
    exact OW.sub key (sb rfl)
 ·clear H
  have H := hu17
  clear hu17
  generalize y11 = t16 at H key ⊢
  cases t16
  ·have H := of_if_f rfl H
   refine ow_batch [.p, .p, .p, .p] rfl ?_
   obtain rfl := of_some H
   exact OW.sub key (sb rfl)
  ·have H := of_if_t rfl H
   refine ow_batch [.fa 49 1 1 fa49_1] rfl <| o1 rfl (r1 1 0 rfl ty3 rfl) <| bE H fun y14 h15 H => oq rfl (qc rfl fn69 (fun w1 hw1 => spec_l1In_ok w1  h15)) tt2 <| oP rfl <| ?_
   obtain rfl := of_some H
   exact OW.sub key (sb rfl)
theorem spec_Thresholds_ok (w : World) {M0 : List Nat} {p0 : Int}  {r : List Int} (H : spec_Thresholds p0 = some r) (HS : St w M0 [] w)  :
    Calls Tryz.prog 104 #[.int .i64 p0] w (fun en w' => ∃ v, en = .returned v ∧ ∃ (a0 : Option Addr), ∃ (n0 : Nat), ∃ (c0 : Nat), ∃ (F0 : List Nat), v = .slice a0 n0 c0 ∧ St w M0 [Res.own (eList eI 3) F0 r [.slice a0 n0 c0]] w') := by
 unfold spec_Thresholds at H
 refine f_enter Tryz.func104 rfl Tryz.ntmps104 rfl (HS) <| sR <| oP rfl <| nQ <| c_seq <| sR <| oP rfl <| nQ <| c_block <| sR <| oPP rfl <| nQ <| cI H rfl (fun H => ?_) (fun H => ?_)
 ·exact sR <| ow_blit (val := Value.int .i64) (h1 := fun _ => rfl) [24109, 48218, 60273, 64291, 65296, 65497, 65530] [(0, [.int .i64 24109]), (1, [.int .i64 48218]), (2, [.int .i64 60273]), (3, [.int .i64 64291]), (4, [.int .i64 65296]), (5, [.int .i64 65497]), (6, [.int .i64 65530])] rfl rfl rfl rfl rfl sl39 ty3 rfl rfl rfl ⟨rfl, rfl, Nat.le_of_ble_eq_true rfl, rfl, rfl, Nat.le_of_ble_eq_true rfl, rfl, rfl, Nat.le_of_ble_eq_true rfl, rfl, rfl, Nat.le_of_ble_eq_true rfl, rfl, rfl, Nat.le_of_ble_eq_true rfl, rfl, rfl, Nat.le_of_ble_eq_true rfl, rfl, rfl, Nat.le_of_ble_eq_true rfl,  trivial⟩ rfl rfl (fun _ => kp) fun b10 => oP rfl <| nT <| x_qb_ret <| x_qs_ret <| x_retR (rs := [.tmp 2]) (vs := [.slice (some ⟨b10, 0, none⟩) (([24109, 48218, 60273, 64291, 65296, 65497, 65530] : List Int).length) 7]) rfl ⟨rfl, trivial⟩ (fun w' hw' => by
   obtain rfl := of_some H
   exact ⟨_, rfl, (some ⟨b10, 0, none⟩), (([24109, 48218, 60273, 64291, 65296, 65497, 65530] : List Int).length), 7, [b10], rfl, hw'.sel [0] rfl rfl⟩)
 ·refine sR <| oPP rfl <| nQ <| cI H rfl (fun H => ?_) (fun H => ?_)
  ·exact sR <| ow_blit (val := Value.int .i64) (h1 := fun _ => rfl) [162, 1137, 4061, 9909, 18681, 29208, 39734] [(0, [.int .i64 162]), (1, [.int .i64 1137]), (2, [.int .i64 4061]), (3, [.int .i64 9909]), (4, [.int .i64 18681]), (5, [.int .i64 29208]), (6, [.int .i64 39734])] rfl rfl rfl rfl rfl sl39 ty3 rfl rfl rfl ⟨rfl, rfl, Nat.le_of_ble_eq_true rfl, rfl, rfl, Nat.le_of_ble_eq_true rfl, rfl, rfl, Nat.le_of_ble_eq_true rfl, rfl, rfl, Nat.le_of_ble_eq_true rfl, rfl, rfl, Nat.le_of_ble_eq_true rfl, rfl, rfl, Nat.le_of_ble_eq_true rfl, rfl, rfl, Nat.le_of_ble_eq_true rfl,  trivial⟩ rfl rfl (fun _ => kp) fun b11 => oP rfl <| nT <| x_qb_ret <| x_qs_ret <| x_retR (rs := [.tmp 2]) (vs := [.slice (some ⟨b11, 0, none⟩) (([162, 1137, 4061, 9909, 18681, 29208, 39734] : List Int).length) 7]) rfl ⟨rfl, trivial⟩ (fun w' hw' => by
    obtain rfl := of_some H
    exact ⟨_, rfl, (some ⟨b11, 0, none⟩), (([162, 1137, 4061, 9909, 18681, 29208, 39734] : List Int).length), 7, [b11], rfl, hw'.sel [0] rfl rfl⟩)
  ·exact c_skip <| x_qb <| x_qs <| sR <| ow_blit0 (e := eI) rfl rfl rfl rfl sl39 ty3 (fun _ => kp) fun b12 => oP rfl <| nT <| x_retR (rs := [.tmp 2]) (vs := [.slice (some ⟨b12, 0, none⟩) 0 0]) rfl ⟨rfl, trivial⟩ (fun w' hw' => by
    obtain rfl := of_some H
    exact ⟨_, rfl, (some ⟨b12, 0, none⟩), 0, 0, [b12], rfl, hw'.sel [0] rfl rfl⟩)
theorem spec_ConfOk_ok (w : World) {p0 : Timpl_Conf} {cs0 : List Value} {r : Bool} (H : spec_ConfOk p0 = some r)  (g0 : (eTimpl_Conf).rd w [] p0 cs0) :
    Calls Tryz.prog 66 #[.agg cs0.toArray] w (fun en w' => en = .returned (.bool r) ∧ Ext [] w w') := by
 obtain ⟨c10, c11, c12, c13, c14, c15, c16, rfl, g17, g18, g19, g20, g21, g22, g23⟩ := rdo_Timpl_Conf g0
 obtain ⟨c24, c25, rfl, g26, g27⟩ := rdo_Timpl_Schema g17
 obtain ⟨a28, c29, rfl⟩ := rd_sl1 g26
 obtain ⟨a30, c31, rfl⟩ := rd_sl1 g27
 obtain rfl := g18
 obtain rfl := g19
 obtain rfl := g20
 obtain rfl := g21
 obtain rfl := g22
 obtain rfl := g23
 unfold spec_ConfOk at H
 refine f_enter Tryz.func66 rfl Tryz.ntmps66 rfl (St.init w []) <| sR <| ob _ rfl fun b32 => oP rfl <| nR <| ow_batch [.fa 51 0 0 fa51_0] rfl <| o1 rfl (rx 0 0 _ rfl ty48 rfl) <| bE H fun y33 h34 H => oq rfl (qc rfl fn68 (fun w1 hw1 => spec_SchemaOk_ok w1 h34 (rdm_Timpl_Schema (rds_bor g26 w1 hw1) (rds_bor g27 w1 hw1)))) tt2 <| oP rfl <| bE H fun u35 hu39 H => ow_cut [(10, .bool u35), (1, .pointer (some ⟨b32, 0, none⟩)), (2, .bool false)] 4 ?_ (fun key => OW.sub (R := [(1, .pointer (some ⟨b32, 0, none⟩)), (2, .bool false), (6, .bool y33)]) ?_ (sb rfl))
 ·refine oP rfl <| bE H fun u40 hu44 H => ow_cut [(15, .bool u40), (1, .pointer (some ⟨b32, 0, none⟩)), (2, .bool false)] 4 ?_ (fun key => OW.sub (R := [(1, .pointer (some ⟨b32, 0, none⟩)), (2, .bool false), (11, .bool u35)]) ?_ (sb rfl))
  ·refine oP rfl <| bE H fun u45 hu49 H => ow_cut [(24, .bool u45), (1, .pointer (some ⟨b32, 0, none⟩)), (2, .bool false)] 8 ?_ (fun key => OW.sub (R := [(1, .pointer (some ⟨b32, 0, none⟩)), (2, .bool false), (16, .bool u40)]) ?_ (sb rfl))
   ·refine oP rfl <| bE H fun u50 hu61 H => ow_cut [(31, .bool u50), (1, .pointer (some ⟨b32, 0, none⟩)), (2, .bool false)] 6 ?_ (fun key => OW.sub (R := [(1, .pointer (some ⟨b32, 0, none⟩)), (2, .bool false), (25, .bool u45)]) ?_ (sb rfl))
    ·refine oP rfl <| bE H fun u62 hu66 H => ow_cut [(36, .bool u62), (1, .pointer (some ⟨b32, 0, none⟩)), (2, .bool false)] 4 ?_ (fun key => OW.sub (R := [(1, .pointer (some ⟨b32, 0, none⟩)), (2, .bool false), (32, .bool u50)]) ?_ (sb rfl))
     ·refine oP rfl <| bE H fun u67 hu71 H => ow_cut [(41, .bool u67), (1, .pointer (some ⟨b32, 0, none⟩)), (2, .bool false)] 4 ?_ (fun key => OW.sub (R := [(1, .pointer (some ⟨b32, 0, none⟩)), (2, .bool false), (37, .bool u62)]) ?_ (sb rfl))
      ·refine oP rfl <| ow_cut [(48, .bool (u67 && (decide (p0.Warn_ ≤ p0.Drift_)))), (2, .bool false)] 6 ?_ (fun key => OW.sub (R := [(1, .pointer (some ⟨b32, 0, none⟩)), (2, .bool false), (42, .bool u67)]) ?_ (sb rfl))
       ·exact oP rfl <| nT <| xr 2 rfl (by cases H; exact q1)
       ·generalize u67 = t73 at key ⊢
        cases t73
        ·exact ow_batch [.p, .p, .p, .p, .p, .p] rfl <| OW.sub key (sb rfl)
        ·exact ow_batch [.fa 51 5 12 fa51_5] rfl <| o1 rfl (r1 12 0 rfl ty3 rfl) <| ow_batch [.fa 51 6 13 fa51_6] rfl <| o1 rfl (r1 13 0 rfl ty3 rfl) <| oP rfl <| oP rfl <| OW.sub key (sb rfl)
      ·clear H
       have H := hu71
       clear hu71
       generalize u62 = t70 at H key ⊢
       cases t70
       ·have H := of_if_f rfl H
        refine ow_batch [.p, .p, .p, .p] rfl ?_
        obtain rfl := of_some H
        exact OW.sub key (sb rfl)
       ·have H := of_if_t rfl H
        refine ow_batch [.fa 51 6 13 fa51_6] rfl <| o1 rfl (r1 13 0 rfl ty3 rfl) <| bE H fun y68 h69 H => oq rfl (qc rfl fn69 (fun w1 hw1 => spec_l1In_ok w1  h69)) tt2 <| oP rfl <| ?_
        obtain rfl := of_some H
        exact OW.sub key (sb rfl)
     ·clear H
      have H := hu66
      clear hu66
      generalize u50 = t65 at H key ⊢
      cases t65
      ·have H := of_if_f rfl H
       refine ow_batch [.p, .p, .p, .p] rfl ?_
       obtain rfl := of_some H
       exact OW.sub key (sb rfl)
      ·have H := of_if_t rfl H
       refine ow_batch [.fa 51 5 12 fa51_5] rfl <| o1 rfl (r1 12 0 rfl ty3 rfl) <| bE H fun y63 h64 H => oq rfl (qc rfl fn69 (fun w1 hw1 => spec_l1In_ok w1  h64)) tt2 <| oP rfl <| ?_
       obtain rfl := of_some H
       exact OW.sub key (sb rfl)
    ·clear H
     have H := hu61
     clear hu61
     generalize u45 = t60 at H key ⊢
     cases t60
     ·have H := of_if_f rfl H
      refine ow_batch [.p, .p, .p, .p, .p, .p] rfl ?_
      obtain rfl := of_some H
      exact OW.sub key (sb rfl)
     ·have H := of_if_t rfl H
      refine ow_batch [.fa 51 4 11 fa51_4] rfl <| o1 rfl (r1 11 0 rfl ty3 rfl) <| bE H fun y51 h52 H => ow_callS rfl fn104 rfl rfl rfl rfl (fun w1 hw1 => spec_Thresholds_ok w1  h52 (hw1.carve [] rfl rfl)) fun v53 w1 w2 hw1 hR55 => ?_
      obtain ⟨a56, n57, c58, F59, rfl, hS54⟩ := hR55
      obtain rfl := own_nS (i := 0) hS54 rfl
      refine ⟨St w [] [_, _], hw1.comp [] rfl rfl hS54, fun _ _ => trivial, ?_⟩
      refine ow_batch [.lenS 39 3 sl39, .p] rfl <| ow_st rfl (C' := St w [] [_]) (fun _ h => St.sel [0] rfl rfl h) <| oP rfl <| ?_
      obtain rfl := of_some H
      exact OW.sub key (sb rfl)
   ·clear H
    have H := hu49
    clear hu49
    generalize u40 = t48 at H key ⊢
    cases t48
    ·have H := of_if_f rfl H
     refine ow_batch [.p, .p, .p, .p, .p, .p, .p, .p] rfl ?_
     obtain rfl := of_some H
     exact OW.sub key (sb rfl)
    ·have H := of_if_t rfl H
     refine ow_batch [.fa 51 3 10 fa51_3] rfl <| o1 rfl (r1 10 0 rfl ty3 rfl) <| ow_batch [.fa 51 0 0 fa51_0, .fa 48 0 0 fa48_0] rfl <| o1 rfl (r1 0 0 rfl ty46 rfl) <| ow_batch [.lenS 46 133 sl46] rfl <| bE H fun y46 h47 H => oq rfl (qc rfl fn69 (fun w1 hw1 => spec_l1In_ok w1  h47)) tt2 <| oP rfl <| ?_
     obtain rfl := of_some H
     exact OW.sub key (sb rfl)
  ·clear H
   have H := hu44
   clear hu44
   generalize u35 = t43 at H key ⊢
   cases t43
   ·have H := of_if_f rfl H
    refine ow_batch [.p, .p, .p, .p] rfl ?_
    obtain rfl := of_some H
    exact OW.sub key (sb rfl)
   ·have H := of_if_t rfl H
    refine ow_batch [.fa 51 2 9 fa51_2] rfl <| o1 rfl (r1 9 0 rfl ty3 rfl) <| bE H fun y41 h42 H => oq rfl (qc rfl fn69 (fun w1 hw1 => spec_l1In_ok w1  h42)) tt2 <| oP rfl <| ?_
    obtain rfl := of_some H
    exact OW.sub key (sb rfl)
 ·clear H
  have H := hu39
  clear hu39
  generalize y33 = t38 at H key ⊢
  cases t38
  ·have H := of_if_f rfl H
   refine ow_batch [.p, .p, .p, .p] rfl ?_
   obtain rfl := of_some H
   exact OW.sub key (sb rfl)
  ·have H := of_if_t rfl H
   refine ow_batch [.fa 51 1 2 fa51_1] rfl <| o1 rfl (rx 2 0 _ rfl ty49 rfl) <| bE H fun y36 h37 H => oq rfl (qc rfl fn103 (fun w1 hw1 => spec_RuleOk_ok w1 (p0 := p0.Rule_) h37)) tt2 <| oP rfl <| ?_
   obtain rfl := of_some H
   exact OW.sub key (sb rfl)
theorem spec_Bins_ok (w : World) {p0 : Timpl_Attr} {cs0 : List Value} {r : Int} (H : spec_Bins p0 = some r)  (g0 : (eTimpl_Attr).rd w [] p0 cs0) :
    Calls Tryz.prog 70 #[.agg cs0.toArray] w (fun en w' => en = .returned (.int .i64 r) ∧ Ext [] w w') := by
 obtain ⟨c10, c11, c12, rfl, g13, g14, g15⟩ := rdo_Timpl_Attr g0
 obtain rfl := g13
 obtain ⟨a16, c17, rfl⟩ := rd_sl1 g14
 obtain ⟨a18, c19, rfl⟩ := rd_sl1 g15
 unfold spec_Bins at H
 refine f_enter Tryz.func70 rfl Tryz.ntmps70 rfl (St.init w []) <| sR <| ob _ rfl fun b20 => oP rfl <| nQ <| c_seq <| sR <| o1 rfl (rx 0 0 _ rfl ty133 rfl) <| bE H fun y21 h22 H => oq rfl (qc rfl fn108 (fun w1 hw1 => spec_AttrOk_ok w1 h22 (rdm_Timpl_Attr rfl (rds_bor g14 w1 hw1) (rds_bor g15 w1 hw1)))) tt2 <| oP rfl <| nQ <| cI H rfl (fun H => ?_) (fun H => ?_)
 ·exact sR <| oP rfl <| nT <| x_qs_ret <| xr 2 rfl (by cases H; exact q1)
 ·refine c_skip <| x_qs <| c_seq <| sR <| ow_batch [.fa 133 1 1 fa133_1] rfl <| o1 rfl (r1 1 0 rfl ty39 rfl) <| ow_batch [.lenS 39 3 sl39, .p] rfl <| nQ <| cI H rfl (fun H => ?_) (fun H => ?_)
  ·exact sR <| ow_batch [.fa 133 1 1 fa133_1] rfl <| o1 rfl (r1 1 0 rfl ty39 rfl) <| ow_batch [.lenS 39 3 sl39, .p, .p] rfl <| nT <| x_qs_ret <| xr 2 rfl (by cases H; exact q1)
  ·exact c_skip <| x_qs <| sR <| ow_batch [.fa 133 2 2 fa133_2] rfl <| o1 rfl (r1 2 0 rfl ty23 rfl) <| ow_batch [.lenS 23 9 sl23, .p] rfl <| nT <| xr 2 rfl (by cases H; exact q1)
theorem spec_StatsOk_ok (w : World) {p0 : Timpl_Schema} {p1 : Timpl_Stats} {cs0 : List Value} {cs1 : List Value} {r : Bool} (H : spec_StatsOk p0 p1 = some r)  (g0 : (eTimpl_Schema).rd w [] p0 cs0) (g1 : (eTimpl_Stats).rd w [] p1 cs1) :
    Calls Tryz.prog 141 #[.agg cs0.toArray, .agg cs1.toArray] w (fun en w' => en = .returned (.bool r) ∧ Ext [] w w') := by
 obtain ⟨c10, c11, rfl, g12, g13⟩ := rdo_Timpl_Schema g0
 obtain ⟨a14, c15, rfl⟩ := rd_sl1 g12
 obtain ⟨a16, c17, rfl⟩ := rd_sl1 g13
 obtain ⟨c18, c19, rfl, g20, g21⟩ := rdo_Timpl_Stats g1
 obtain ⟨a22, c23, rfl⟩ := rd_sl1 g20
 obtain ⟨a24, c25, rfl⟩ := rd_sl1 g21
 unfold spec_StatsOk at H
 refine f_enter Tryz.func141 rfl Tryz.ntmps141 rfl (St.init w []) <| sR <| ob _ rfl fun b26 => ob _ rfl fun b27 => oP rfl <| nQ <| c_seq <| sR <| o1 rfl (rx 0 0 _ rfl ty48 rfl) <| bE H fun y28 h29 H => oq rfl (qc rfl fn68 (fun w1 hw1 => spec_SchemaOk_ok w1 h29 (rdm_Timpl_Schema (rds_bor g12 w1 hw1) (rds_bor g13 w1 hw1)))) tt2 <| oPP rfl <| ow_cut [(24, .bool ((!y28) || ((p1.Totals_.length : Int) != (p0.Classes_.length : Int)))), (2, .pointer (some ⟨b26, 0, none⟩)), (3, .pointer (some ⟨b27, 0, none⟩))] 8 ?_ (fun key => OW.sub (R := [(2, .pointer (some ⟨b26, 0, none⟩)), (3, .pointer (some ⟨b27, 0, none⟩)), (16, .bool (!y28))]) ?_ (sb rfl))
 ·refine nQ <| cI H rfl (fun H => ?_) (fun H => ?_)
  ·exact sR <| oP rfl <| nT <| x_qs_ret <| xr 4 rfl (by cases H; exact q1)
  ·refine c_skip <| x_qs <| sR <| oP rfl <| nQ <| c_seq <| sR <| oP rfl <| nQ <| c_block <| CW.at (loopI2 (fun (i40 : Int) (i41 : Int) => St w [] [Res.box b26 48 [.slice a14 p0.Attrs_.length c15, .slice a16 p0.Classes_.length c17], Res.box b27 167 [.slice a22 p1.Totals_.length c23, .slice a24 p1.Cells_.length c25]]) (fun i40 i41 => [(2, .pointer (some ⟨b26, 0, none⟩)), (3, .pointer (some ⟨b27, 0, none⟩)), (5, .int .i64 i40), (6, .int .i64 i41)]) (fun kk => fun i40 i41 => spec_StatsOk_L1 p1 p0 kk i40 i41 = some r) (fun _ _ H => ?_) (fun k1 ihk1 i40 i41 H => ?_) Fuel (0) (0) (H)) (fun _ h => St.sel [0, 1] rfl rfl h) ⟨rfl, rfl, rfl, rfl,  trivial⟩
   ·unfold spec_StatsOk_L1 at H
    exact absurd H (by simp)
   ·unfold spec_StatsOk_L1 at H
    refine c_seq <| sR <| ow_batch [.p, .fa 167 0 0 fa167_0] rfl <| o1 rfl (r1 0 1 rfl ty39 rfl) <| ow_batch [.lenS 39 3 sl39, .p] rfl <| nQ <| cI H rfl (fun H => ?_) (fun H => ?_)
    ·refine c_skip <| x_qs <| c_seq <| c_block <| c_seq <| sR <| ow_batch [.fa 167 0 0 fa167_0] rfl <| o1 rfl (r1 0 1 rfl ty39 rfl) <| oP rfl <| bE H fun e50 h51 H => ow_ixE (e := eI) (xs := p1.Totals_) (j := i41) rfl rfl rfl rfl rfl sl39 ty3 rfl (fun w1 hw1 => rds_bor g20 w1 hw1) h51 (by rw [Nat.mul_one]) <| o1 rfl (ry_load1 rfl rfl ty3 (at_elV (fun w1 hw1 => rds_bor g20 w1 hw1) h51)) <| bE H fun y52 h53 H => oq rfl (qc rfl fn69 (fun w1 hw1 => spec_l1In_ok w1  h53)) tt2 <| oP rfl <| nQ <| cI H rfl (fun H => ?_) (fun H => ?_)
     ·exact sR <| oP rfl <| nT <| x_qs_ret <| x_qb_ret <| x_qs_ret <| x_ql_ret <| x_qb_ret <| x_qs_ret <| xr 4 rfl (by cases H; exact q1)
     ·exact c_skip <| x_qs <| c_reg <| ow_batch [.p, .fa 167 0 0 fa167_0] rfl <| o1 rfl (r1 0 1 rfl ty39 rfl) <| oP rfl <| bE H fun e54 h55 H => ow_ixE (e := eI) (xs := p1.Totals_) (j := i41) rfl rfl rfl rfl rfl sl39 ty3 rfl (fun w1 hw1 => rds_bor g20 w1 hw1) h55 (by rw [Nat.mul_one]) <| o1 rfl (ry_load1 rfl rfl ty3 (at_elV (fun w1 hw1 => rds_bor g20 w1 hw1) h55)) <| oPP rfl <| ow_nil <| x_qb <| x_qs <| c_reg <| ow_batch [.p, .p, .p] rfl <| ow_nil <| x_ql (RW.at (ihk1 (IntKind.i64.wrap (i40 + e54)) (IntKind.i64.wrap (i41 + 1)) (H)) (fun _ h => St.sel [0, 1] rfl rfl h) ⟨rfl, rfl, rfl, rfl, trivial⟩)
    ·refine c_exit <| x_qs_exit <| x_ql_exit <| x_qb_here <| x_qs <| c_seq <| sR <| oPP rfl <| nQ <| cI H rfl (fun H => ?_) (fun H => ?_)
     ·exact sR <| oP rfl <| nT <| x_qs_ret <| xr 4 rfl (by cases H; exact q1)
     ·refine c_skip <| x_qs <| c_seq <| sR <| ow_batch [.fa 167 1 1 fa167_1] rfl <| o1 rfl (r1 1 1 rfl ty33 rfl) <| ow_batch [.lenS 33 39 sl33, .p] rfl <| nQ <| cI H rfl (fun H => ?_) (fun H => ?_)
      ·exact sR <| oP rfl <| nT <| x_qs_ret <| xr 4 rfl (by cases H; exact q1)
      ·refine c_skip <| x_qs <| c_seq <| sR <| ow_batch [.fa 167 1 1 fa167_1] rfl <| o1 rfl (r1 1 1 rfl ty33 rfl) <| ow_batch [.lenS 33 39 sl33, .fa 48 0 0 fa48_0] rfl <| o1 rfl (r1 0 0 rfl ty46 rfl) <| ow_batch [.lenS 46 133 sl46, .p] rfl <| nQ <| cI H rfl (fun H => ?_) (fun H => ?_)
       ·exact sR <| oP rfl <| nT <| x_qs_ret <| xr 4 rfl (by cases H; exact q1)
       ·refine c_skip <| x_qs <| c_seq <| sR <| oP rfl <| nQ <| c_block <| CW.at (loopI1 (fun (i218 : Int) => St w [] [Res.box b26 48 [.slice a14 p0.Attrs_.length c15, .slice a16 p0.Classes_.length c17], Res.box b27 167 [.slice a22 p1.Totals_.length c23, .slice a24 p1.Cells_.length c25]]) (fun i218 => [(2, .pointer (some ⟨b26, 0, none⟩)), (3, .pointer (some ⟨b27, 0, none⟩)), (7, .int .i64 i218)]) (fun kk => fun i218 => spec_StatsOk_L2 p1 p0 kk i218 = some r) (fun _ H => ?_) (fun k2 ihk2 i218 H => ?_) Fuel (0) (H)) (fun _ h => St.sel [0, 1] rfl rfl h) ⟨rfl, rfl, rfl,  trivial⟩
        ·unfold spec_StatsOk_L2 at H
         exact absurd H (by simp)
        ·unfold spec_StatsOk_L2 at H
         refine c_seq <| sR <| ow_batch [.p, .fa 167 1 1 fa167_1] rfl <| o1 rfl (r1 1 1 rfl ty33 rfl) <| ow_batch [.lenS 33 39 sl33, .p] rfl <| nQ <| cI H rfl (fun H => ?_) (fun H => ?_)
         ·refine c_skip <| x_qs <| c_seq <| c_block <| sR <| ow_batch [.fa 48 0 0 fa48_0] rfl <| o1 rfl (r1 0 0 rfl ty46 rfl) <| oP rfl <| bE H fun e381 h382 H => ow_ixB rfl rfl rfl rfl rfl sl46 ty133 rfl g12 h382 fun q385 c386 hd383 hA384 => ?_
          obtain ⟨c387, c388, c389, rfl, g390, g391, g392⟩ := rdo_Timpl_Attr hd383
          obtain rfl := g390
          obtain ⟨a393, c394, rfl⟩ := rd_sl1 g391
          obtain ⟨a395, c396, rfl⟩ := rd_sl1 g392
          refine o1 rfl (ry_load (cs := [vS e381.Name_, .slice a393 e381.Cuts_.length c394, .slice a395 e381.Values_.length c396]) rfl rfl ty133 (at_bor bor hA384) rfl) <| bE H fun y397 h398 H => oq rfl (qc rfl fn70 (fun w1 hw1 => spec_Bins_ok w1 h398 (rdm_Timpl_Attr rfl (rds_bor g391 w1 hw1) (rds_bor g392 w1 hw1)))) tt2 <| oP rfl <| nQ <| c_seq <| c_seq <| c_regQ mixed (by kernel_rfl) <| ow_batch [.fa 167 1 1 fa167_1] rfl <| o1 rfl (r1 1 1 rfl ty33 rfl) <| oP rfl <| bE H fun e399 h400 H => ow_ixB rfl rfl rfl rfl rfl sl33 ty39 rfl g21 h400 fun q403 c404 hd401 hA402 => ?_
          obtain ⟨a405, c406, rfl⟩ := rd_sl1 hd401
          refine o1 rfl (ry_load1 rfl rfl ty39 (at_bor bor hA402)) <| ow_batch [.lenS 39 3 sl39, .p, .fa 48 1 1 fa48_1] rfl <| o1 rfl (r1 1 0 rfl ty23 rfl) <| ow_batch [.lenS 23 9 sl23, .p, .p] rfl <| ow_nilQ <| x_qs <| cI H rfl (fun H => ?_) (fun H => ?_)
          ·exact sR <| oP rfl <| nT <| x_qs_ret <| x_qb_ret <| x_qs_ret <| x_ql_ret <| x_qb_ret <| x_qs_ret <| xr 4 rfl (by cases H; exact q1)
          ·refine c_skip <| x_qs <| sR <| oP rfl <| nQ <| c_block <| CW.at (loopI1 (fun (i452 : Int) => St w [] [Res.box b26 48 [.slice a14 p0.Attrs_.length c15, .slice a16 p0.Classes_.length c17], Res.box b27 167 [.slice a22 p1.Totals_.length c23, .slice a24 p1.Cells_.length c25]]) (fun i452 => [(2, .pointer (some ⟨b26, 0, none⟩)), (3, .pointer (some ⟨b27, 0, none⟩)), (7, .int .i64 i218), (8, .int .i64 y397), (9, .int .i64 i452)]) (fun kk => fun i452 => spec_StatsOk_L3 p0 y397 p1 i218 (spec_StatsOk_L2 p1 p0 k2) kk i452 = some r) (fun _ H => ?_) (fun k3 ihk3 i452 H => ?_) Fuel (0) (H)) (fun _ h => St.sel [0, 1] rfl rfl h) ⟨rfl, rfl, rfl, rfl, rfl,  trivial⟩
           ·unfold spec_StatsOk_L3 at H
            exact absurd H (by simp)
           ·unfold spec_StatsOk_L3 at H
            refine c_seq <| sR <| ow_batch [.p, .fa 48 1 1 fa48_1] rfl <| o1 rfl (r1 1 0 rfl ty23 rfl) <| ow_batch [.lenS 23 9 sl23, .p] rfl <| nQ <| cI H rfl (fun H => ?_) (fun H => ?_)
            ·refine c_skip <| x_qs <| c_seq <| c_block <| sR <| oP rfl <| nQ <| c_seq <| sR <| oP rfl <| nQ <| c_block <| CW.at (loopI2 (fun (i512 : Int) (i513 : Int) => St w [] [Res.box b26 48 [.slice a14 p0.Attrs_.length c15, .slice a16 p0.Classes_.length c17], Res.box b27 167 [.slice a22 p1.Totals_.length c23, .slice a24 p1.Cells_.length c25]]) (fun i512 i513 => [(2, .pointer (some ⟨b26, 0, none⟩)), (3, .pointer (some ⟨b27, 0, none⟩)), (7, .int .i64 i218), (8, .int .i64 y397), (9, .int .i64 i452), (10, .int .i64 i512), (11, .int .i64 i513)]) (fun kk => fun i512 i513 => spec_StatsOk_L4 y397 p1 i218 p0 i452 (spec_StatsOk_L3 p0 y397 p1 i218 (spec_StatsOk_L2 p1 p0 k2) k3) kk i512 i513 = some r) (fun _ _ H => ?_) (fun k4 ihk4 i512 i513 H => ?_) Fuel (0) (0) (H)) (fun _ h => St.sel [0, 1] rfl rfl h) ⟨rfl, rfl, rfl, rfl, rfl, rfl, rfl,  trivial⟩
             ·unfold spec_StatsOk_L4 at H
              exact absurd H (by simp)
             ·unfold spec_StatsOk_L4 at H
              refine c_seq <| sR <| ow_batch [.p, .p, .p] rfl <| nQ <| cI H rfl (fun H => ?_) (fun H => ?_)
              ·refine c_skip <| x_qs <| c_seq <| c_block <| c_seq <| c_regQ mixed (by kernel_rfl) <| ow_batch [.fa 167 1 1 fa167_1] rfl <| o1 rfl (r1 1 1 rfl ty33 rfl) <| oP rfl <| bE H fun e528 h529 H => ow_ixB rfl rfl rfl rfl rfl sl33 ty39 rfl g21 h529 fun q532 c533 hd530 hA531 => ?_
               obtain ⟨a534, c535, rfl⟩ := rd_sl1 hd530
               refine o1 rfl (ry_load1 rfl rfl ty39 (at_bor bor hA531)) <| ow_batch [.p, .fa 48 1 1 fa48_1] rfl <| o1 rfl (r1 1 0 rfl ty23 rfl) <| ow_batch [.lenS 23 9 sl23, .p, .p, .p] rfl <| bE H fun e536 h537 H => ow_ixE (e := eI) (xs := e528) (j := IntKind.i64.wrap ((IntKind.i64.wrap (i513 * (p0.Classes_.length : Int))) + i452)) rfl rfl rfl rfl rfl sl39 ty3 rfl (fun w1 hw1 => rds_bor hd530 w1 hw1) h537 (by rw [Nat.mul_one]) <| o1 rfl (ry_load1 rfl rfl ty3 (at_elV (fun w1 hw1 => rds_bor hd530 w1 hw1) h537)) <| oP rfl <| ow_nilQ <| x_qs <| c_seq <| sR <| oP rfl <| bE H fun y538 h539 H => oq rfl (qc rfl fn69 (fun w1 hw1 => spec_l1In_ok w1  h539)) tt2 <| oP rfl <| nQ <| cI H rfl (fun H => ?_) (fun H => ?_)
               ·exact sR <| oP rfl <| nT <| x_qs_ret <| x_qb_ret <| x_qs_ret <| x_ql_ret <| x_qb_ret <| x_qs_ret <| x_qb_ret <| x_qs_ret <| x_ql_ret <| x_qb_ret <| x_qb_ret <| x_qs_ret <| x_ql_ret <| x_qb_ret <| x_qs_ret <| xr 4 rfl (by cases H; exact q1)
               ·exact c_skip <| x_qs <| c_reg <| ow_batch [.p, .p, .p, .p] rfl <| ow_nil <| x_qb <| x_qs <| c_reg <| ow_batch [.p, .p, .p] rfl <| ow_nil <| x_ql (RW.at (ihk4 (IntKind.i64.wrap (i512 + e536)) (IntKind.i64.wrap (i513 + 1)) (H)) (fun _ h => St.sel [0, 1] rfl rfl h) ⟨rfl, rfl, rfl, rfl, rfl, rfl, rfl, trivial⟩)
              ·refine c_exit <| x_qs_exit <| x_ql_exit <| x_qb_here <| x_qs <| sR <| ow_batch [.p, .fa 167 0 0 fa167_0] rfl <| o1 rfl (r1 0 1 rfl ty39 rfl) <| oP rfl <| bE H fun e540 h541 H => ow_ixE (e := eI) (xs := p1.Totals_) (j := i452) rfl rfl rfl rfl rfl sl39 ty3 rfl (fun w1 hw1 => rds_bor g20 w1 hw1) h541 (by rw [Nat.mul_one]) <| o1 rfl (ry_load1 rfl rfl ty3 (at_elV (fun w1 hw1 => rds_bor g20 w1 hw1) h541)) <| oP rfl <| nQ <| cI H rfl (fun H => ?_) (fun H => ?_)
               ·exact sR <| oP rfl <| nT <| x_qb_ret <| x_qs_ret <| x_ql_ret <| x_qb_ret <| x_qb_ret <| x_qs_ret <| x_ql_ret <| x_qb_ret <| x_qs_ret <| xr 4 rfl (by cases H; exact q1)
               ·exact c_skip <| x_qb <| x_qs <| c_reg <| ow_batch [.p, .p, .p] rfl <| ow_nil <| x_ql (RW.at (ihk3 (IntKind.i64.wrap (i452 + 1)) (H)) (fun _ h => St.sel [0, 1] rfl rfl h) ⟨rfl, rfl, rfl, rfl, rfl, trivial⟩)
            ·exact c_exit <| x_qs_exit <| x_ql_exit <| x_qb_here <| x_qb <| x_qs <| c_reg <| ow_batch [.p, .p, .p] rfl <| ow_nil <| x_ql (RW.at (ihk2 (IntKind.i64.wrap (i218 + 1)) (H)) (fun _ h => St.sel [0, 1] rfl rfl h) ⟨rfl, rfl, rfl, trivial⟩)
         ·exact c_exit <| x_qs_exit <| x_ql_exit <| x_qb_here <| x_qs <| sR <| oP rfl <| nT <| xr 4 rfl (by cases H; exact q1)
 ·generalize (!y28) = t31 at key ⊢
  cases t31
  ·exact ow_batch [.fa 167 0 0 fa167_0] rfl <| o1 rfl (r1 0 1 rfl ty39 rfl) <| ow_batch [.lenS 39 3 sl39, .fa 48 1 1 fa48_1] rfl <| o1 rfl (r1 1 0 rfl ty23 rfl) <| ow_batch [.lenS 23 9 sl23, .p] rfl <| oP rfl <| OW.sub key (sb rfl)
  ·exact ow_batch [.p, .p, .p, .p, .p, .p, .p, .p] rfl <| OW.sub key (sb rfl)
theorem spec_AttrsOk_ok (w : World) {p0 : Timpl_Schema} {p1 : List Int} {cs0 : List Value} {a_1 : Option Addr} {n_1 c_1 : Nat} {r : Bool} (H : spec_AttrsOk p0 p1 = some r)  (g0 : (eTimpl_Schema).rd w [] p0 cs0) (g1 : (eList eI 3).rd w [] p1 [.slice a_1 n_1 c_1]) :
    Calls Tryz.prog 178 #[.agg cs0.toArray, .slice a_1 n_1 c_1] w (fun en w' => en = .returned (.bool r) ∧ Ext [] w w') := by
 obtain ⟨c10, c11, rfl, g12, g13⟩ := rdo_Timpl_Schema g0
 obtain ⟨a14, c15, rfl⟩ := rd_sl1 g12
 obtain ⟨a16, c17, rfl⟩ := rd_sl1 g13
 obtain rfl := rd_n g1
 unfold spec_AttrsOk at H
 refine f_enter Tryz.func178 rfl Tryz.ntmps178 rfl (St.init w []) <| sR <| ob _ rfl fun b18 => oP rfl <| nQ <| c_seq <| sR <| o1 rfl (rx 0 0 _ rfl ty48 rfl) <| bE H fun y19 h20 H => oq rfl (qc rfl fn68 (fun w1 hw1 => spec_SchemaOk_ok w1 h20 (rdm_Timpl_Schema (rds_bor g12 w1 hw1) (rds_bor g13 w1 hw1)))) tt2 <| oPP rfl <| ow_cut [(13, .bool ((!y19) || ((p1.length : Int) == 0))), (1, .slice a_1 p1.length c_1), (2, .pointer (some ⟨b18, 0, none⟩))] 4 ?_ (fun key => OW.sub (R := [(1, .slice a_1 p1.length c_1), (2, .pointer (some ⟨b18, 0, none⟩)), (9, .bool (!y19))]) ?_ (sb rfl))
 ·refine nQ <| cI H rfl (fun H => ?_) (fun H => ?_)
  ·exact sR <| oP rfl <| nT <| x_qs_ret <| xr 4 rfl (by cases H; exact q1)
  ·refine c_skip <| x_qs <| c_seq <| sR <| oP rfl <| nQ <| c_block <| CW.at (loopI1 (fun (i38 : Int) => St w [] [Res.box b18 48 [.slice a14 p0.Attrs_.length c15, .slice a16 p0.Classes_.length c17]]) (fun i38 => [(1, .slice a_1 p1.length c_1), (2, .pointer (some ⟨b18, 0, none⟩)), (5, .int .i64 i38)]) (fun kk => fun i38 => spec_AttrsOk_L1 p1 p0 kk i38 = some r) (fun _ H => ?_) (fun k1 ihk1 i38 H => ?_) Fuel (0) (H)) (fun _ h => St.sel [0] rfl rfl h) ⟨rfl, rfl, rfl,  trivial⟩
   ·unfold spec_AttrsOk_L1 at H
    exact absurd H (by simp)
   ·unfold spec_AttrsOk_L1 at H
    refine c_seq <| sR <| ow_batch [.p, .p, .lenS 39 3 sl39, .p] rfl <| nQ <| cI H rfl (fun H => ?_) (fun H => ?_)
    ·refine c_skip <| x_qs <| c_seq <| c_block <| c_seq <| c_regQ mixed (by kernel_rfl) <| oPP rfl <| bE H fun e54 h55 H => ow_ixE (e := eI) (xs := p1) (j := i38) rfl rfl rfl rfl rfl sl39 ty3 rfl (fun w1 hw1 => rds_bor g1 w1 hw1) h55 (by rw [Nat.mul_one]) <| o1 rfl (ry_load1 rfl rfl ty3 (at_elV (fun w1 hw1 => rds_bor g1 w1 hw1) h55)) <| ow_batch [.fa 48 0 0 fa48_0] rfl <| o1 rfl (r1 0 0 rfl ty46 rfl) <| ow_batch [.lenS 46 133 sl46, .p] rfl <| bE H fun y56 h57 H => oq rfl (qc rfl fn69 (fun w1 hw1 => spec_l1In_ok w1  h57)) tt2 <| oPP rfl <| bE H fun u58 hu67 H => ow_cut [(45, .bool u58), (1, .slice a_1 p1.length c_1), (2, .pointer (some ⟨b18, 0, none⟩)), (5, .int .i64 i38)] 15 ?_ (fun key => OW.sub (R := [(1, .slice a_1 p1.length c_1), (2, .pointer (some ⟨b18, 0, none⟩)), (5, .int .i64 i38), (30, .bool (!y56))]) ?_ (sb rfl))
     ·refine ow_nilQ <| x_qs <| cI H rfl (fun H => ?_) (fun H => ?_)
      ·exact sR <| oP rfl <| nT <| x_qb_ret <| x_qs_ret <| x_ql_ret <| x_qb_ret <| x_qs_ret <| xr 4 rfl (by cases H; exact q1)
      ·exact c_skip <| x_qb <| x_qs <| c_reg <| ow_batch [.p, .p, .p] rfl <| ow_nil <| x_ql (RW.at (ihk1 (IntKind.i64.wrap (i38 + 1)) (H)) (fun _ h => St.sel [0] rfl rfl h) ⟨rfl, rfl, rfl, trivial⟩)
     ·clear H
      have H := hu67
      clear hu67
      generalize (!y56) = t66 at H key ⊢
      cases t66
      ·have H := of_if_f rfl H
       refine ow_batch [.p, .p, .p] rfl <| bE H fun u59 hu65 H => ow_cut [(44, .bool u59), (1, .slice a_1 p1.length c_1), (2, .pointer (some ⟨b18, 0, none⟩)), (5, .int .i64 i38), (30, .bool false)] 11 ?_ (fun key => OW.sub (R := [(1, .slice a_1 p1.length c_1), (2, .pointer (some ⟨b18, 0, none⟩)), (5, .int .i64 i38), (30, .bool false), (33, .bool (decide (i38 > 0)))]) ?_ (sb rfl))
       ·refine ow_batch [.p] rfl ?_
        obtain rfl := of_some H
        exact OW.sub key (sb rfl)
       ·clear H
        have H := hu65
        clear hu65
        generalize (decide (i38 > 0)) = t64 at H key ⊢
        cases t64
        ·have H := of_if_f rfl H
         refine ow_batch [.p, .p, .p, .p, .p, .p, .p, .p, .p, .p, .p] rfl ?_
         obtain rfl := of_some H
         exact OW.sub key (sb rfl)
        ·have H := of_if_t rfl H
         refine oPP rfl <| bE H fun e60 h61 H => ow_ixE (e := eI) (xs := p1) (j := i38) rfl rfl rfl rfl rfl sl39 ty3 rfl (fun w1 hw1 => rds_bor g1 w1 hw1) h61 (by rw [Nat.mul_one]) <| o1 rfl (ry_load1 rfl rfl ty3 (at_elV (fun w1 hw1 => rds_bor g1 w1 hw1) h61)) <| ow_batch [.p, .p, .p] rfl <| bE H fun e62 h63 H => ow_ixE (e := eI) (xs := p1) (j := IntKind.i64.wrap (i38 - 1)) rfl rfl rfl rfl rfl sl39 ty3 rfl (fun w1 hw1 => rds_bor g1 w1 hw1) h63 (by rw [Nat.mul_one]) <| o1 rfl (ry_load1 rfl rfl ty3 (at_elV (fun w1 hw1 => rds_bor g1 w1 hw1) h63)) <| oP rfl <| oP rfl <| ?_
         obtain rfl := of_some H
         exact OW.sub key (sb rfl)
      ·have H := of_if_t rfl H
       refine ow_batch [.p, .p, .p, .p, .p, .p, .p, .p, .p, .p, .p, .p, .p, .p, .p] rfl ?_
       obtain rfl := of_some H
       exact OW.sub key (sb rfl)
    ·exact c_exit <| x_qs_exit <| x_ql_exit <| x_qb_here <| x_qs <| sR <| oP rfl <| nT <| xr 4 rfl (by cases H; exact q1)
 ·generalize (!y19) = t22 at key ⊢
  cases t22
  ·exact ow_batch [.p, .lenS 39 3 sl39, .p] rfl <| oP rfl <| OW.sub key (sb rfl)
  ·exact ow_batch [.p, .p, .p, .p] rfl <| OW.sub key (sb rfl)
theorem spec_StatsTotal_ok (w : World) {p0 : Timpl_Schema} {p1 : Timpl_Stats} {cs0 : List Value} {cs1 : List Value} {r : Int} (H : spec_StatsTotal p0 p1 = some r)  (g0 : (eTimpl_Schema).rd w [] p0 cs0) (g1 : (eTimpl_Stats).rd w [] p1 cs1) :
    Calls Tryz.prog 110 #[.agg cs0.toArray, .agg cs1.toArray] w (fun en w' => en = .returned (.int .i64 r) ∧ Ext [] w w') := by
 obtain ⟨c10, c11, rfl, g12, g13⟩ := rdo_Timpl_Schema g0
 obtain ⟨a14, c15, rfl⟩ := rd_sl1 g12
 obtain ⟨a16, c17, rfl⟩ := rd_sl1 g13
 obtain ⟨c18, c19, rfl, g20, g21⟩ := rdo_Timpl_Stats g1
 obtain ⟨a22, c23, rfl⟩ := rd_sl1 g20
 obtain ⟨a24, c25, rfl⟩ := rd_sl1 g21
 unfold spec_StatsTotal at H
 refine f_enter Tryz.func110 rfl Tryz.ntmps110 rfl (St.init w []) <| sR <| ob _ rfl fun b26 => ob _ rfl fun b27 => oP rfl <| nQ <| c_seq <| sR <| o1 rfl (rx 0 0 _ rfl ty48 rfl) <| o1 rfl (rx 0 1 _ rfl ty167 rfl) <| bE H fun y28 h29 H => oq rfl (qc rfl fn141 (fun w1 hw1 => spec_StatsOk_ok w1 h29 (rdm_Timpl_Schema (rds_bor g12 w1 hw1) (rds_bor g13 w1 hw1)) (rdm_Timpl_Stats (rds_bor g20 w1 hw1) (rds_bor g21 w1 hw1)))) tt2 <| oP rfl <| nQ <| cI H rfl (fun H => ?_) (fun H => ?_)
 ·exact sR <| oP rfl <| nT <| x_qs_ret <| xr 4 rfl (by cases H; exact q1)
 ·refine c_skip <| x_qs <| sR <| oP rfl <| nQ <| c_seq <| sR <| oP rfl <| nQ <| c_block <| CW.at (loopI2 (fun (i35 : Int) (i36 : Int) => St w [] [Res.box b27 167 [.slice a22 p1.Totals_.length c23, .slice a24 p1.Cells_.length c25]]) (fun i35 i36 => [(3, .pointer (some ⟨b27, 0, none⟩)), (5, .int .i64 i35), (6, .int .i64 i36)]) (fun kk => fun i35 i36 => spec_StatsTotal_L1 p1 kk i35 i36 = some r) (fun _ _ H => ?_) (fun k1 ihk1 i35 i36 H => ?_) Fuel (0) (0) (H)) (fun _ h => St.sel [1] rfl rfl h) ⟨rfl, rfl, rfl,  trivial⟩
  ·unfold spec_StatsTotal_L1 at H
   exact absurd H (by simp)
  ·unfold spec_StatsTotal_L1 at H
   refine c_seq <| sR <| ow_batch [.p, .fa 167 0 0 fa167_0] rfl <| o1 rfl (r1 0 0 rfl ty39 rfl) <| ow_batch [.lenS 39 3 sl39, .p] rfl <| nQ <| cI H rfl (fun H => ?_) (fun H => ?_)
   ·exact c_skip <| x_qs <| c_seq <| c_block <| c_reg <| ow_batch [.p, .fa 167 0 0 fa167_0] rfl <| o1 rfl (r1 0 0 rfl ty39 rfl) <| oP rfl <| bE H fun e41 h42 H => ow_ixE (e := eI) (xs := p1.Totals_) (j := i36) rfl rfl rfl rfl rfl sl39 ty3 rfl (fun w1 hw1 => rds_bor g20 w1 hw1) h42 (by rw [Nat.mul_one]) <| o1 rfl (ry_load1 rfl rfl ty3 (at_elV (fun w1 hw1 => rds_bor g20 w1 hw1) h42)) <| oPP rfl <| ow_nil <| x_qb <| x_qs <| c_reg <| ow_batch [.p, .p, .p] rfl <| ow_nil <| x_ql (RW.at (ihk1 (IntKind.i64.wrap (i35 + e41)) (IntKind.i64.wrap (i36 + 1)) (H)) (fun _ h => St.sel [0] rfl rfl h) ⟨rfl, rfl, rfl, trivial⟩)
   ·exact c_exit <| x_qs_exit <| x_ql_exit <| x_qb_here <| x_qs <| sR <| oPP rfl <| nT <| xr 4 rfl (by cases H; exact q1)
theorem spec_l19Leaf_ok (w : World) {p0 : Timpl_Schema} {p1 : Timpl_Node} {cs0 : List Value} {cs1 : List Value} {r : Bool} (H : spec_l19Leaf p0 p1 = some r)  (g0 : (eTimpl_Schema).rd w [] p0 cs0) (g1 : (eTimpl_Node).rd w [] p1 cs1) :
    Calls Tryz.prog 158 #[.agg cs0.toArray, .agg cs1.toArray] w (fun en w' => en = .returned (.bool r) ∧ Ext [] w w') := by
 obtain ⟨c10, c11, rfl, g12, g13⟩ := rdo_Timpl_Schema g0
 obtain ⟨a14, c15, rfl⟩ := rd_sl1 g12
 obtain ⟨a16, c17, rfl⟩ := rd_sl1 g13
 obtain ⟨c18, c19, c20, c21, c22, c23, c24, c25, c26, c27, rfl, g28, g29, g30, g31, g32, g33, g34, g35, g36, g37⟩ := rdo_Timpl_Node g1
 obtain rfl := g28
 obtain rfl := g29
 obtain ⟨a38, c39, rfl⟩ := rd_sl1 g30
 obtain rfl := g31
 obtain ⟨c40, c41, rfl, g42, g43⟩ := rdo_Timpl_Stats g32
 obtain ⟨a44, c45, rfl⟩ := rd_sl1 g42
 obtain ⟨a46, c47, rfl⟩ := rd_sl1 g43
 obtain rfl := g33
 obtain ⟨a48, c49, rfl⟩ := rd_sl1 g34
 obtain rfl := g35
 obtain rfl := g36
 obtain rfl := g37
 unfold spec_l19Leaf at H
 refine f_enter Tryz.func158 rfl Tryz.ntmps158 rfl (St.init w []) <| sR <| ob _ rfl fun b50 => ob _ rfl fun b51 => oP rfl <| nQ <| c_seq <| sR <| ow_batch [.fa 169 1 1 fa169_1] rfl <| o1 rfl (rx 1 1 _ rfl ty165 rfl) <| o1 rfl (ry_build2 [] [.int .i64 0, .int .i64 0] rfl rfl ty165 fs165 rfl trivial rfl) <| o1 rfl (ry_sneq (xs := [.int .i64 p1.Fork_.Attr_, .int .i64 p1.Fork_.At_]) (ys := [.int .i64 0, .int .i64 0]) rfl rfl rfl (se165 p1.Fork_.Attr_ 0 p1.Fork_.At_ 0)) <| oP rfl <| ow_cut [(14, .bool ((!(p1.Fork_.Attr_ == 0 && (p1.Fork_.At_ == 0 && true))) || (decide ((p1.Kids_.length : Int) > 0)))), (2, .pointer (some ⟨b50, 0, none⟩)), (3, .pointer (some ⟨b51, 0, none⟩))] 5 ?_ (fun key => OW.sub (R := [(2, .pointer (some ⟨b50, 0, none⟩)), (3, .pointer (some ⟨b51, 0, none⟩)), (9, .bool (!(p1.Fork_.Attr_ == 0 && (p1.Fork_.At_ == 0 && true))))]) ?_ (sb rfl))
 ·refine oP rfl <| ow_cut [(19, .bool (((!(p1.Fork_.Attr_ == 0 && (p1.Fork_.At_ == 0 && true))) || (decide ((p1.Kids_.length : Int) > 0))) || (p1.Miss_ != 0))), (2, .pointer (some ⟨b50, 0, none⟩)), (3, .pointer (some ⟨b51, 0, none⟩))] 4 ?_ (fun key => OW.sub (R := [(2, .pointer (some ⟨b50, 0, none⟩)), (3, .pointer (some ⟨b51, 0, none⟩)), (15, .bool ((!(p1.Fork_.Attr_ == 0 && (p1.Fork_.At_ == 0 && true))) || (decide ((p1.Kids_.length : Int) > 0))))]) ?_ (sb rfl))
  ·refine oP rfl <| bE H fun u56 hu60 H => ow_cut [(26, .bool u56), (2, .pointer (some ⟨b50, 0, none⟩)), (3, .pointer (some ⟨b51, 0, none⟩))] 6 ?_ (fun key => OW.sub (R := [(2, .pointer (some ⟨b50, 0, none⟩)), (3, .pointer (some ⟨b51, 0, none⟩)), (20, .bool (((!(p1.Fork_.Attr_ == 0 && (p1.Fork_.At_ == 0 && true))) || (decide ((p1.Kids_.length : Int) > 0))) || (p1.Miss_ != 0)))]) ?_ (sb rfl))
   ·refine oP rfl <| bE H fun u61 hu65 H => ow_cut [(33, .bool u61), (2, .pointer (some ⟨b50, 0, none⟩)), (3, .pointer (some ⟨b51, 0, none⟩))] 6 ?_ (fun key => OW.sub (R := [(2, .pointer (some ⟨b50, 0, none⟩)), (3, .pointer (some ⟨b51, 0, none⟩)), (27, .bool u56)]) ?_ (sb rfl))
    ·refine nQ <| cI H rfl (fun H => ?_) (fun H => ?_)
     ·exact sR <| oP rfl <| nT <| x_qs_ret <| xr 4 rfl (by cases H; exact q1)
     ·refine c_skip <| x_qs <| c_seq <| sR <| ow_batch [.fa 169 4 5 fa169_4, .fa 167 1 1 fa167_1] rfl <| o1 rfl (r1 6 1 rfl ty33 rfl) <| ow_batch [.lenS 33 39 sl33, .p] rfl <| nQ <| cI H rfl (fun H => ?_) (fun H => ?_)
      ·exact sR <| ow_batch [.fa 169 5 7 fa169_5] rfl <| o1 rfl (r1 7 1 rfl ty3 rfl) <| oPP rfl <| nT <| x_qs_ret <| xr 4 rfl (by cases H; exact q1)
      ·exact c_skip <| x_qs <| c_seq <| c_regQ mixed (by kernel_rfl) <| ow_batch [.fa 169 5 7 fa169_5] rfl <| o1 rfl (r1 7 1 rfl ty3 rfl) <| o1 rfl (rx 0 0 _ rfl ty48 rfl) <| ow_batch [.fa 169 4 5 fa169_4] rfl <| o1 rfl (rx 5 1 _ rfl ty167 rfl) <| bE H fun y66 h67 H => oq rfl (qc rfl fn110 (fun w1 hw1 => spec_StatsTotal_ok w1 h67 (rdm_Timpl_Schema (rds_bor g12 w1 hw1) (rds_bor g13 w1 hw1)) (rdm_Timpl_Stats (rds_bor g42 w1 hw1) (rds_bor g43 w1 hw1)))) tt2 <| bE H fun y68 h69 H => oq rfl (qc rfl fn69 (fun w1 hw1 => spec_l1In_ok w1  h69)) tt2 <| oP rfl <| ow_nilQ <| x_qs <| c_ret <| xr 4 rfl (by cases H; exact q1)
    ·clear H
     have H := hu65
     clear hu65
     generalize u56 = t64 at H key ⊢
     cases t64
     ·have H := of_if_f rfl H
      refine o1 rfl (rx 0 0 _ rfl ty48 rfl) <| ow_batch [.fa 169 6 8 fa169_6] rfl <| o1 rfl (r1 8 1 rfl ty39 rfl) <| bE H fun y62 h63 H => oq rfl (qc rfl fn178 (fun w1 hw1 => spec_AttrsOk_ok w1 h63 (rdm_Timpl_Schema (rds_bor g12 w1 hw1) (rds_bor g13 w1 hw1)) (rds_bor g34 w1 hw1))) tt2 <| oP rfl <| oP rfl <| ?_
      obtain rfl := of_some H
      exact OW.sub key (sb rfl)
     ·have H := of_if_t rfl H
      refine ow_batch [.p, .p, .p, .p, .p, .p] rfl ?_
      obtain rfl := of_some H
      exact OW.sub key (sb rfl)
   ·clear H
    have H := hu60
    clear hu60
    generalize (((!(p1.Fork_.Attr_ == 0 && (p1.Fork_.At_ == 0 && true))) || (decide ((p1.Kids_.length : Int) > 0))) || (p1.Miss_ != 0)) = t59 at H key ⊢
    cases t59
    ·have H := of_if_f rfl H
     refine o1 rfl (rx 0 0 _ rfl ty48 rfl) <| ow_batch [.fa 169 4 5 fa169_4] rfl <| o1 rfl (rx 5 1 _ rfl ty167 rfl) <| bE H fun y57 h58 H => oq rfl (qc rfl fn141 (fun w1 hw1 => spec_StatsOk_ok w1 h58 (rdm_Timpl_Schema (rds_bor g12 w1 hw1) (rds_bor g13 w1 hw1)) (rdm_Timpl_Stats (rds_bor g42 w1 hw1) (rds_bor g43 w1 hw1)))) tt2 <| oP rfl <| oP rfl <| ?_
     obtain rfl := of_some H
     exact OW.sub key (sb rfl)
    ·have H := of_if_t rfl H
     refine ow_batch [.p, .p, .p, .p, .p, .p] rfl ?_
     obtain rfl := of_some H
     exact OW.sub key (sb rfl)
  ·generalize ((!(p1.Fork_.Attr_ == 0 && (p1.Fork_.At_ == 0 && true))) || (decide ((p1.Kids_.length : Int) > 0))) = t55 at key ⊢
   cases t55
   ·exact ow_batch [.fa 169 3 4 fa169_3] rfl <| o1 rfl (r1 4 1 rfl ty3 rfl) <| oP rfl <| oP rfl <| OW.sub key (sb rfl)
   ·exact ow_batch [.p, .p, .p, .p] rfl <| OW.sub key (sb rfl)
 ·generalize (!(p1.Fork_.Attr_ == 0 && (p1.Fork_.At_ == 0 && true))) = t53 at key ⊢
  cases t53
  ·exact ow_batch [.fa 169 2 3 fa169_2] rfl <| o1 rfl (r1 3 1 rfl ty39 rfl) <| ow_batch [.lenS 39 3 sl39, .p] rfl <| oP rfl <| OW.sub key (sb rfl)
  ·exact ow_batch [.p, .p, .p, .p, .p] rfl <| OW.sub key (sb rfl)
theorem spec_ForkOk_ok (w : World) {p0 : Timpl_Schema} {p1 : Timpl_Fork} {cs0 : List Value} {r : Bool} (H : spec_ForkOk p0 p1 = some r)  (g0 : (eTimpl_Schema).rd w [] p0 cs0) :
    Calls Tryz.prog 179 #[.agg cs0.toArray, .agg #[.int .i64 p1.Attr_, .int .i64 p1.At_]] w (fun en w' => en = .returned (.bool r) ∧ Ext [] w w') := by
 obtain ⟨c10, c11, rfl, g12, g13⟩ := rdo_Timpl_Schema g0
 obtain ⟨a14, c15, rfl⟩ := rd_sl1 g12
 obtain ⟨a16, c17, rfl⟩ := rd_sl1 g13
 unfold spec_ForkOk at H
 refine f_enter Tryz.func179 rfl Tryz.ntmps179 rfl (St.init w []) <| sR <| ob _ rfl fun b18 => ob _ rfl fun b19 => oP rfl <| nQ <| c_seq <| sR <| o1 rfl (rx 0 0 _ rfl ty48 rfl) <| bE H fun y20 h21 H => oq rfl (qc rfl fn68 (fun w1 hw1 => spec_SchemaOk_ok w1 h21 (rdm_Timpl_Schema (rds_bor g12 w1 hw1) (rds_bor g13 w1 hw1)))) tt2 <| oPP rfl <| bE H fun u22 hu26 H => ow_cut [(17, .bool u22), (2, .pointer (some ⟨b18, 0, none⟩)), (3, .pointer (some ⟨b19, 0, none⟩))] 9 ?_ (fun key => OW.sub (R := [(2, .pointer (some ⟨b18, 0, none⟩)), (3, .pointer (some ⟨b19, 0, none⟩)), (8, .bool (!y20))]) ?_ (sb rfl))
 ·refine nQ <| cI H rfl (fun H => ?_) (fun H => ?_)
  ·exact sR <| oP rfl <| nT <| x_qs_ret <| xr 4 rfl (by cases H; exact q1)
  ·refine c_skip <| x_qs <| c_seq <| sR <| ow_batch [.fa 48 0 0 fa48_0] rfl <| o1 rfl (r1 0 0 rfl ty46 rfl) <| ow_batch [.fa 165 0 0 fa165_0] rfl <| o1 rfl (r1 0 1 rfl ty3 rfl) <| bE H fun e27 h28 H => ow_ixB rfl rfl rfl rfl rfl sl46 ty133 rfl g12 h28 fun q31 c32 hd29 hA30 => ?_
   obtain ⟨c33, c34, c35, rfl, g36, g37, g38⟩ := rdo_Timpl_Attr hd29
   obtain rfl := g36
   obtain ⟨a39, c40, rfl⟩ := rd_sl1 g37
   obtain ⟨a41, c42, rfl⟩ := rd_sl1 g38
   refine ow_batch [.fa 133 1 1 fa133_1] rfl <| o1 rfl (ry_load1 rfl rfl ty39 (at_bor bor (at_K hA30 1 1))) <| ow_batch [.lenS 39 3 sl39, .p] rfl <| nQ <| cI H rfl (fun H => ?_) (fun H => ?_)
   ·refine c_seq <| c_regQ mixed (by kernel_rfl) <| ow_batch [.fa 165 1 1 fa165_1] rfl <| o1 rfl (r1 1 1 rfl ty3 rfl) <| ow_batch [.fa 48 0 0 fa48_0] rfl <| o1 rfl (r1 0 0 rfl ty46 rfl) <| ow_batch [.fa 165 0 0 fa165_0] rfl <| o1 rfl (r1 0 1 rfl ty3 rfl) <| bE H fun e43 h44 H => ow_ixB rfl rfl rfl rfl rfl sl46 ty133 rfl g12 h44 fun q47 c48 hd45 hA46 => ?_
    obtain ⟨c49, c50, c51, rfl, g52, g53, g54⟩ := rdo_Timpl_Attr hd45
    obtain rfl := g52
    obtain ⟨a55, c56, rfl⟩ := rd_sl1 g53
    obtain ⟨a57, c58, rfl⟩ := rd_sl1 g54
    exact o1 rfl (ry_load (cs := [vS e43.Name_, .slice a55 e43.Cuts_.length c56, .slice a57 e43.Values_.length c58]) rfl rfl ty133 (at_bor bor hA46) rfl) <| bE H fun y59 h60 H => oq rfl (qc rfl fn70 (fun w1 hw1 => spec_Bins_ok w1 h60 (rdm_Timpl_Attr rfl (rds_bor g53 w1 hw1) (rds_bor g54 w1 hw1)))) tt2 <| oP rfl <| bE H fun y61 h62 H => oq rfl (qc rfl fn69 (fun w1 hw1 => spec_l1In_ok w1  h62)) tt2 <| oP rfl <| ow_nilQ <| x_qs <| c_ret <| x_qs_ret <| xr 4 rfl (by cases H; exact q1)
   ·refine c_skip <| x_qs <| c_seq <| c_regQ mixed (by kernel_rfl) <| ow_batch [.fa 165 1 1 fa165_1] rfl <| o1 rfl (r1 1 1 rfl ty3 rfl) <| ow_batch [.fa 48 0 0 fa48_0] rfl <| o1 rfl (r1 0 0 rfl ty46 rfl) <| ow_batch [.fa 165 0 0 fa165_0] rfl <| o1 rfl (r1 0 1 rfl ty3 rfl) <| bE H fun e63 h64 H => ow_ixB rfl rfl rfl rfl rfl sl46 ty133 rfl g12 h64 fun q67 c68 hd65 hA66 => ?_
    obtain ⟨c69, c70, c71, rfl, g72, g73, g74⟩ := rdo_Timpl_Attr hd65
    obtain rfl := g72
    obtain ⟨a75, c76, rfl⟩ := rd_sl1 g73
    obtain ⟨a77, c78, rfl⟩ := rd_sl1 g74
    exact o1 rfl (ry_load (cs := [vS e63.Name_, .slice a75 e63.Cuts_.length c76, .slice a77 e63.Values_.length c78]) rfl rfl ty133 (at_bor bor hA66) rfl) <| bE H fun y79 h80 H => oq rfl (qc rfl fn70 (fun w1 hw1 => spec_Bins_ok w1 h80 (rdm_Timpl_Attr rfl (rds_bor g73 w1 hw1) (rds_bor g74 w1 hw1)))) tt2 <| oP rfl <| bE H fun y81 h82 H => oq rfl (qc rfl fn69 (fun w1 hw1 => spec_l1In_ok w1  h82)) tt2 <| oP rfl <| ow_nilQ <| x_qs <| c_ret <| xr 4 rfl (by cases H; exact q1)
 ·clear H
  have H := hu26
  clear hu26
  generalize (!y20) = t25 at H key ⊢
  cases t25
  ·have H := of_if_f rfl H
   refine ow_batch [.fa 165 0 0 fa165_0] rfl <| o1 rfl (r1 0 1 rfl ty3 rfl) <| ow_batch [.fa 48 0 0 fa48_0] rfl <| o1 rfl (r1 0 0 rfl ty46 rfl) <| ow_batch [.lenS 46 133 sl46, .p] rfl <| bE H fun y23 h24 H => oq rfl (qc rfl fn69 (fun w1 hw1 => spec_l1In_ok w1  h24)) tt2 <| oP rfl <| oP rfl <| ?_
   obtain rfl := of_some H
   exact OW.sub key (sb rfl)
  ·have H := of_if_t rfl H
   refine ow_batch [.p, .p, .p, .p, .p, .p, .p, .p, .p] rfl ?_
   obtain rfl := of_some H
   exact OW.sub key (sb rfl)
theorem spec_Branches_ok (w : World) {p0 : Timpl_Schema} {p1 : Timpl_Fork} {cs0 : List Value} {r : Int} (H : spec_Branches p0 p1 = some r)  (g0 : (eTimpl_Schema).rd w [] p0 cs0) :
    Calls Tryz.prog 180 #[.agg cs0.toArray, .agg #[.int .i64 p1.Attr_, .int .i64 p1.At_]] w (fun en w' => en = .returned (.int .i64 r) ∧ Ext [] w w') := by
 obtain ⟨c10, c11, rfl, g12, g13⟩ := rdo_Timpl_Schema g0
 obtain ⟨a14, c15, rfl⟩ := rd_sl1 g12
 obtain ⟨a16, c17, rfl⟩ := rd_sl1 g13
 unfold spec_Branches at H
 refine f_enter Tryz.func180 rfl Tryz.ntmps180 rfl (St.init w []) <| sR <| ob _ rfl fun b18 => ob _ rfl fun b19 => oP rfl <| nQ <| c_seq <| sR <| o1 rfl (rx 0 0 _ rfl ty48 rfl) <| o1 rfl (rx 0 1 _ rfl ty165 rfl) <| bE H fun y20 h21 H => oq rfl (qc rfl fn179 (fun w1 hw1 => spec_ForkOk_ok w1 (p1 := p1) h21 (rdm_Timpl_Schema (rds_bor g12 w1 hw1) (rds_bor g13 w1 hw1)))) tt2 <| oP rfl <| nQ <| cI H rfl (fun H => ?_) (fun H => ?_)
 ·exact sR <| oP rfl <| nT <| x_qs_ret <| xr 4 rfl (by cases H; exact q1)
 ·refine c_skip <| x_qs <| c_seq <| sR <| ow_batch [.fa 165 1 1 fa165_1] rfl <| o1 rfl (r1 1 1 rfl ty3 rfl) <| oP rfl <| nQ <| cI H rfl (fun H => ?_) (fun H => ?_)
  ·refine sR <| ow_batch [.fa 48 0 0 fa48_0] rfl <| o1 rfl (r1 0 0 rfl ty46 rfl) <| ow_batch [.fa 165 0 0 fa165_0] rfl <| o1 rfl (r1 0 1 rfl ty3 rfl) <| bE H fun e22 h23 H => ow_ixB rfl rfl rfl rfl rfl sl46 ty133 rfl g12 h23 fun q26 c27 hd24 hA25 => ?_
   obtain ⟨c28, c29, c30, rfl, g31, g32, g33⟩ := rdo_Timpl_Attr hd24
   obtain rfl := g31
   obtain ⟨a34, c35, rfl⟩ := rd_sl1 g32
   obtain ⟨a36, c37, rfl⟩ := rd_sl1 g33
   exact o1 rfl (ry_load (cs := [vS e22.Name_, .slice a34 e22.Cuts_.length c35, .slice a36 e22.Values_.length c37]) rfl rfl ty133 (at_bor bor hA25) rfl) <| bE H fun y38 h39 H => oq rfl (qc rfl fn70 (fun w1 hw1 => spec_Bins_ok w1 h39 (rdm_Timpl_Attr rfl (rds_bor g32 w1 hw1) (rds_bor g33 w1 hw1)))) tt2 <| oP rfl <| nT <| x_qs_ret <| xr 4 rfl (by cases H; exact q1)
  ·exact c_skip <| x_qs <| sR <| oP rfl <| nT <| xr 4 rfl (by cases H; exact q1)
theorem spec_l19Split_ok (w : World) {p0 : Timpl_Schema} {p1 : Timpl_Tree} {p2 : Int} {cs0 : List Value} {cs1 : List Value} {r : Bool} (H : spec_l19Split p0 p1 p2 = some r)  (g0 : (eTimpl_Schema).rd w [] p0 cs0) (g1 : (eTimpl_Tree).rd w [] p1 cs1) :
    Calls Tryz.prog 159 #[.agg cs0.toArray, .agg cs1.toArray, .int .i64 p2] w (fun en w' => en = .returned (.bool r) ∧ Ext [] w w') := by
 obtain ⟨c10, c11, rfl, g12, g13⟩ := rdo_Timpl_Schema g0
 obtain ⟨a14, c15, rfl⟩ := rd_sl1 g12
 obtain ⟨a16, c17, rfl⟩ := rd_sl1 g13
 obtain ⟨c18, c19, rfl, g20, g21⟩ := rdo_Timpl_Tree g1
 obtain ⟨a22, c23, rfl⟩ := rd_sl1 g20
 obtain rfl := g21
 unfold spec_l19Split at H
 refine f_enter Tryz.func159 rfl Tryz.ntmps159 rfl (St.init w []) <| sR <| ob _ rfl fun b24 => ob _ rfl fun b25 => oP rfl <| nR <| ow_batch [.fa 93 0 0 fa93_0] rfl <| o1 rfl (r1 0 1 rfl ty91 rfl) <| oP rfl <| bE H fun e26 h27 H => ow_ixB rfl rfl rfl rfl rfl sl91 ty169 rfl g20 h27 fun q30 c31 hd28 hA29 => ?_
 obtain ⟨c32, c33, c34, c35, c36, c37, c38, c39, c40, c41, rfl, g42, g43, g44, g45, g46, g47, g48, g49, g50, g51⟩ := rdo_Timpl_Node hd28
 obtain rfl := g42
 obtain rfl := g43
 obtain ⟨a52, c53, rfl⟩ := rd_sl1 g44
 obtain rfl := g45
 obtain ⟨c54, c55, rfl, g56, g57⟩ := rdo_Timpl_Stats g46
 obtain ⟨a58, c59, rfl⟩ := rd_sl1 g56
 obtain ⟨a60, c61, rfl⟩ := rd_sl1 g57
 obtain rfl := g47
 obtain ⟨a62, c63, rfl⟩ := rd_sl1 g48
 obtain rfl := g49
 obtain rfl := g50
 obtain rfl := g51
 refine o1 rfl (ry_load (cs := [.bool e26.Leaf_, .int .i64 e26.Fork_.Attr_, .int .i64 e26.Fork_.At_, .slice a52 e26.Kids_.length c53, .int .i64 e26.Miss_, .slice a58 e26.Stats_.Totals_.length c59, .slice a60 e26.Stats_.Cells_.length c61, .int .i64 e26.Since_, .slice a62 e26.Attrs_.length c63, .int .i64 e26.Depth_, .int .i64 e26.Up_, .int .i64 e26.Born_]) rfl rfl ty169 (at_bor bor hA29) rfl) <| ow_alloc rfl rfl rfl rfl ty169 (fun _ => kp) fun b64 => sC 0 [.bool e26.Leaf_, .int .i64 e26.Fork_.Attr_, .int .i64 e26.Fork_.At_, .slice a52 e26.Kids_.length c53, .int .i64 e26.Miss_, .slice a58 e26.Stats_.Totals_.length c59, .slice a60 e26.Stats_.Cells_.length c61, .int .i64 e26.Since_, .slice a62 e26.Attrs_.length c63, .int .i64 e26.Depth_, .int .i64 e26.Up_, .int .i64 e26.Born_] [_, _, _, _, _, _, _, _, _, _, _, _] 2 rfl ty169 rfl <| nQ <| c_seq <| c_seq <| c_regQ mixed (by kernel_rfl) <| o1 rfl (rx 0 0 _ rfl ty48 rfl) <| ow_batch [.fa 169 1 1 fa169_1] rfl <| o1 rfl (rx 1 2 _ rfl ty165 rfl) <| bE H fun y65 h66 H => oq rfl (qc rfl fn179 (fun w1 hw1 => spec_ForkOk_ok w1 (p1 := e26.Fork_) h66 (rdm_Timpl_Schema (rds_bor g12 w1 hw1) (rds_bor g13 w1 hw1)))) tt2 <| oPP rfl <| bE H fun u67 hu71 H => ow_cut [(28, .bool u67), (2, .int .i64 p2), (3, .pointer (some ⟨b24, 0, none⟩)), (4, .pointer (some ⟨b25, 0, none⟩)), (7, .pointer (some ⟨b64, 0, none⟩))] 9 ?_ (fun key => OW.sub (R := [(2, .int .i64 p2), (3, .pointer (some ⟨b24, 0, none⟩)), (4, .pointer (some ⟨b25, 0, none⟩)), (7, .pointer (some ⟨b64, 0, none⟩)), (19, .bool (!y65))]) ?_ (sb rfl))
 ·refine oP rfl <| bE H fun u72 hu76 H => ow_cut [(38, .bool u72), (2, .int .i64 p2), (3, .pointer (some ⟨b24, 0, none⟩)), (4, .pointer (some ⟨b25, 0, none⟩)), (7, .pointer (some ⟨b64, 0, none⟩))] 9 ?_ (fun key => OW.sub (R := [(2, .int .i64 p2), (3, .pointer (some ⟨b24, 0, none⟩)), (4, .pointer (some ⟨b25, 0, none⟩)), (7, .pointer (some ⟨b64, 0, none⟩)), (29, .bool u67)]) ?_ (sb rfl))
  ·refine oP rfl <| bE H fun u77 hu81 H => ow_cut [(45, .bool u77), (2, .int .i64 p2), (3, .pointer (some ⟨b24, 0, none⟩)), (4, .pointer (some ⟨b25, 0, none⟩)), (7, .pointer (some ⟨b64, 0, none⟩))] 6 ?_ (fun key => OW.sub (R := [(2, .int .i64 p2), (3, .pointer (some ⟨b24, 0, none⟩)), (4, .pointer (some ⟨b25, 0, none⟩)), (7, .pointer (some ⟨b64, 0, none⟩)), (39, .bool u72)]) ?_ (sb rfl))
   ·refine oP rfl <| ow_cut [(52, .bool (u77 || (decide ((e26.Stats_.Cells_.length : Int) > 0)))), (2, .int .i64 p2), (3, .pointer (some ⟨b24, 0, none⟩)), (4, .pointer (some ⟨b25, 0, none⟩)), (7, .pointer (some ⟨b64, 0, none⟩))] 6 ?_ (fun key => OW.sub (R := [(2, .int .i64 p2), (3, .pointer (some ⟨b24, 0, none⟩)), (4, .pointer (some ⟨b25, 0, none⟩)), (7, .pointer (some ⟨b64, 0, none⟩)), (46, .bool u77)]) ?_ (sb rfl))
    ·refine oP rfl <| ow_cut [(57, .bool ((u77 || (decide ((e26.Stats_.Cells_.length : Int) > 0))) || (e26.Since_ != 0))), (2, .int .i64 p2), (3, .pointer (some ⟨b24, 0, none⟩)), (4, .pointer (some ⟨b25, 0, none⟩)), (7, .pointer (some ⟨b64, 0, none⟩))] 4 ?_ (fun key => OW.sub (R := [(2, .int .i64 p2), (3, .pointer (some ⟨b24, 0, none⟩)), (4, .pointer (some ⟨b25, 0, none⟩)), (7, .pointer (some ⟨b64, 0, none⟩)), (53, .bool (u77 || (decide ((e26.Stats_.Cells_.length : Int) > 0))))]) ?_ (sb rfl))
     ·refine oP rfl <| bE H fun u86 hu90 H => ow_cut [(64, .bool u86), (2, .int .i64 p2), (4, .pointer (some ⟨b25, 0, none⟩)), (7, .pointer (some ⟨b64, 0, none⟩))] 6 ?_ (fun key => OW.sub (R := [(2, .int .i64 p2), (3, .pointer (some ⟨b24, 0, none⟩)), (4, .pointer (some ⟨b25, 0, none⟩)), (7, .pointer (some ⟨b64, 0, none⟩)), (58, .bool ((u77 || (decide ((e26.Stats_.Cells_.length : Int) > 0))) || (e26.Since_ != 0)))]) ?_ (sb rfl))
      ·refine ow_nilQ <| x_qs <| cI H rfl (fun H => ?_) (fun H => ?_)
       ·exact sR <| oP rfl <| nT <| x_qs_ret <| xr 6 rfl (by cases H; exact q1)
       ·refine c_skip <| x_qs <| c_seq <| sR <| oP rfl <| nQ <| c_block <| CW.at (loopI1 (fun (i149 : Int) => St w [] [Res.box b25 93 [.slice a22 p1.Nodes_.length c23, .int .i64 p1.Seen_], Res.box b64 169 [.bool e26.Leaf_, .int .i64 e26.Fork_.Attr_, .int .i64 e26.Fork_.At_, .slice a52 e26.Kids_.length c53, .int .i64 e26.Miss_, .slice a58 e26.Stats_.Totals_.length c59, .slice a60 e26.Stats_.Cells_.length c61, .int .i64 e26.Since_, .slice a62 e26.Attrs_.length c63, .int .i64 e26.Depth_, .int .i64 e26.Up_, .int .i64 e26.Born_]]) (fun i149 => [(2, .int .i64 p2), (4, .pointer (some ⟨b25, 0, none⟩)), (7, .pointer (some ⟨b64, 0, none⟩)), (8, .int .i64 i149)]) (fun kk => fun i149 => spec_l19Split_L1 e26 p2 p1 kk i149 = some r) (fun _ H => ?_) (fun k1 ihk1 i149 H => ?_) Fuel (0) (H)) (fun _ h => St.sel [1, 2] rfl rfl h) ⟨rfl, rfl, rfl, rfl,  trivial⟩
        ·unfold spec_l19Split_L1 at H
         exact absurd H (by simp)
        ·unfold spec_l19Split_L1 at H
         refine c_seq <| sR <| ow_batch [.p, .fa 169 2 3 fa169_2] rfl <| o1 rfl (r1 3 1 rfl ty39 rfl) <| ow_batch [.lenS 39 3 sl39, .p] rfl <| nQ <| cI H rfl (fun H => ?_) (fun H => ?_)
         ·refine c_skip <| x_qs <| c_seq <| c_block <| c_seq <| c_regQ mixed (by kernel_rfl) <| ow_batch [.fa 169 2 3 fa169_2] rfl <| o1 rfl (r1 3 1 rfl ty39 rfl) <| oP rfl <| bE H fun e208 h209 H => ow_ixE (e := eI) (xs := e26.Kids_) (j := i149) rfl rfl rfl rfl rfl sl39 ty3 rfl (fun w1 hw1 => rds_bor g44 w1 hw1) h209 (by rw [Nat.mul_one]) <| o1 rfl (ry_load1 rfl rfl ty3 (at_elV (fun w1 hw1 => rds_bor g44 w1 hw1) h209)) <| ow_batch [.p, .p, .fa 93 0 0 fa93_0] rfl <| o1 rfl (r1 0 0 rfl ty91 rfl) <| ow_batch [.lenS 91 169 sl91, .p] rfl <| bE H fun y210 h211 H => oq rfl (qc rfl fn69 (fun w1 hw1 => spec_l1In_ok w1  h211)) tt2 <| oPP rfl <| bE H fun u212 hu254 H => ow_cut [(98, .bool u212), (2, .int .i64 p2), (4, .pointer (some ⟨b25, 0, none⟩)), (7, .pointer (some ⟨b64, 0, none⟩)), (8, .int .i64 i149)] 13 ?_ (fun key => OW.sub (R := [(2, .int .i64 p2), (4, .pointer (some ⟨b25, 0, none⟩)), (7, .pointer (some ⟨b64, 0, none⟩)), (8, .int .i64 i149), (85, .bool (!y210))]) ?_ (sb rfl))
          ·refine oP rfl <| bE H fun u255 hu264 H => ow_cut [(116, .bool u255), (2, .int .i64 p2), (4, .pointer (some ⟨b25, 0, none⟩)), (7, .pointer (some ⟨b64, 0, none⟩)), (8, .int .i64 i149)] 17 ?_ (fun key => OW.sub (R := [(2, .int .i64 p2), (4, .pointer (some ⟨b25, 0, none⟩)), (7, .pointer (some ⟨b64, 0, none⟩)), (8, .int .i64 i149), (99, .bool u212)]) ?_ (sb rfl))
           ·refine ow_nilQ <| x_qs <| cI H rfl (fun H => ?_) (fun H => ?_)
            ·exact sR <| oP rfl <| nT <| x_qb_ret <| x_qs_ret <| x_ql_ret <| x_qb_ret <| x_qs_ret <| xr 6 rfl (by cases H; exact q1)
            ·exact c_skip <| x_qb <| x_qs <| c_reg <| ow_batch [.p, .p, .p] rfl <| ow_nil <| x_ql (RW.at (ihk1 (IntKind.i64.wrap (i149 + 1)) (H)) (fun _ h => St.sel [0, 1] rfl rfl h) ⟨rfl, rfl, rfl, rfl, trivial⟩)
           ·clear H
            have H := hu264
            clear hu264
            generalize u212 = t263 at H key ⊢
            cases t263
            ·have H := of_if_f rfl H
             refine ow_batch [.p, .p, .p] rfl <| bE H fun u256 hu262 H => ow_cut [(115, .bool u256), (2, .int .i64 p2), (4, .pointer (some ⟨b25, 0, none⟩)), (7, .pointer (some ⟨b64, 0, none⟩)), (8, .int .i64 i149), (99, .bool false)] 13 ?_ (fun key => OW.sub (R := [(2, .int .i64 p2), (4, .pointer (some ⟨b25, 0, none⟩)), (7, .pointer (some ⟨b64, 0, none⟩)), (8, .int .i64 i149), (99, .bool false), (102, .bool (decide (i149 > 0)))]) ?_ (sb rfl))
             ·refine ow_batch [.p] rfl ?_
              obtain rfl := of_some H
              exact OW.sub key (sb rfl)
             ·clear H
              have H := hu262
              clear hu262
              generalize (decide (i149 > 0)) = t261 at H key ⊢
              cases t261
              ·have H := of_if_f rfl H
               refine ow_batch [.p, .p, .p, .p, .p, .p, .p, .p, .p, .p, .p, .p, .p] rfl ?_
               obtain rfl := of_some H
               exact OW.sub key (sb rfl)
              ·have H := of_if_t rfl H
               refine ow_batch [.fa 169 2 3 fa169_2] rfl <| o1 rfl (r1 3 1 rfl ty39 rfl) <| oP rfl <| bE H fun e257 h258 H => ow_ixE (e := eI) (xs := e26.Kids_) (j := i149) rfl rfl rfl rfl rfl sl39 ty3 rfl (fun w1 hw1 => rds_bor g44 w1 hw1) h258 (by rw [Nat.mul_one]) <| o1 rfl (ry_load1 rfl rfl ty3 (at_elV (fun w1 hw1 => rds_bor g44 w1 hw1) h258)) <| ow_batch [.fa 169 2 3 fa169_2] rfl <| o1 rfl (r1 3 1 rfl ty39 rfl) <| oPP rfl <| bE H fun e259 h260 H => ow_ixE (e := eI) (xs := e26.Kids_) (j := IntKind.i64.wrap (i149 - 1)) rfl rfl rfl rfl rfl sl39 ty3 rfl (fun w1 hw1 => rds_bor g44 w1 hw1) h260 (by rw [Nat.mul_one]) <| o1 rfl (ry_load1 rfl rfl ty3 (at_elV (fun w1 hw1 => rds_bor g44 w1 hw1) h260)) <| oP rfl <| oP rfl <| ?_
               obtain rfl := of_some H
               exact OW.sub key (sb rfl)
            ·have H := of_if_t rfl H
             refine ow_batch [.p, .p, .p, .p, .p, .p, .p, .p, .p, .p, .p, .p, .p, .p, .p, .p, .p] rfl ?_
             obtain rfl := of_some H
             exact OW.sub key (sb rfl)
          ·clear H
           have H := hu254
           clear hu254
           generalize (!y210) = t253 at H key ⊢
           cases t253
           ·have H := of_if_f rfl H
            refine ow_batch [.fa 93 0 0 fa93_0] rfl <| o1 rfl (r1 0 0 rfl ty91 rfl) <| ow_batch [.fa 169 2 3 fa169_2] rfl <| o1 rfl (r1 3 1 rfl ty39 rfl) <| oP rfl <| bE H fun e213 h214 H => ow_ixE (e := eI) (xs := e26.Kids_) (j := i149) rfl rfl rfl rfl rfl sl39 ty3 rfl (fun w1 hw1 => rds_bor g44 w1 hw1) h214 (by rw [Nat.mul_one]) <| o1 rfl (ry_load1 rfl rfl ty3 (at_elV (fun w1 hw1 => rds_bor g44 w1 hw1) h214)) <| bE H fun e215 h216 H => ow_ixB rfl rfl rfl rfl rfl sl91 ty169 rfl g20 h216 fun q219 c220 hd217 hA218 => ?_
            obtain ⟨c221, c222, c223, c224, c225, c226, c227, c228, c229, c230, rfl, g231, g232, g233, g234, g235, g236, g237, g238, g239, g240⟩ := rdo_Timpl_Node hd217
            obtain rfl := g231
            obtain rfl := g232
            obtain ⟨a241, c242, rfl⟩ := rd_sl1 g233
            obtain rfl := g234
            obtain ⟨c243, c244, rfl, g245, g246⟩ := rdo_Timpl_Stats g235
            obtain ⟨a247, c248, rfl⟩ := rd_sl1 g245
            obtain ⟨a249, c250, rfl⟩ := rd_sl1 g246
            obtain rfl := g236
            obtain ⟨a251, c252, rfl⟩ := rd_sl1 g237
            obtain rfl := g238
            obtain rfl := g239
            obtain rfl := g240
            refine ow_batch [.fa 169 8 10 fa169_8] rfl <| o1 rfl (ry_load1 rfl rfl ty3 (at_bor bor (at_K hA218 10 1))) <| oPP rfl <| oP rfl <| ?_
            obtain rfl := of_some H
            exact OW.sub key (sb rfl)
           ·have H := of_if_t rfl H
            refine ow_batch [.p, .p, .p, .p, .p, .p, .p, .p, .p, .p, .p, .p, .p] rfl ?_
            obtain rfl := of_some H
            exact OW.sub key (sb rfl)
         ·exact c_exit <| x_qs_exit <| x_ql_exit <| x_qb_here <| x_qs <| sR <| oP rfl <| nT <| xr 6 rfl (by cases H; exact q1)
      ·clear H
       have H := hu90
       clear hu90
       generalize ((u77 || (decide ((e26.Stats_.Cells_.length : Int) > 0))) || (e26.Since_ != 0)) = t89 at H key ⊢
       cases t89
       ·have H := of_if_f rfl H
        refine o1 rfl (rx 0 0 _ rfl ty48 rfl) <| ow_batch [.fa 169 6 8 fa169_6] rfl <| o1 rfl (r1 8 2 rfl ty39 rfl) <| bE H fun y87 h88 H => oq rfl (qc rfl fn178 (fun w1 hw1 => spec_AttrsOk_ok w1 h88 (rdm_Timpl_Schema (rds_bor g12 w1 hw1) (rds_bor g13 w1 hw1)) (rds_bor g48 w1 hw1))) tt2 <| oP rfl <| oP rfl <| ?_
        obtain rfl := of_some H
        exact OW.sub key (sb rfl)
       ·have H := of_if_t rfl H
        refine ow_batch [.p, .p, .p, .p, .p, .p] rfl ?_
        obtain rfl := of_some H
        exact OW.sub key (sb rfl)
     ·generalize (u77 || (decide ((e26.Stats_.Cells_.length : Int) > 0))) = t85 at key ⊢
      cases t85
      ·exact ow_batch [.fa 169 5 7 fa169_5] rfl <| o1 rfl (r1 7 2 rfl ty3 rfl) <| oP rfl <| oP rfl <| OW.sub key (sb rfl)
      ·exact ow_batch [.p, .p, .p, .p] rfl <| OW.sub key (sb rfl)
    ·generalize u77 = t83 at key ⊢
     cases t83
     ·exact ow_batch [.fa 169 4 5 fa169_4, .fa 167 1 1 fa167_1] rfl <| o1 rfl (r1 6 2 rfl ty33 rfl) <| ow_batch [.lenS 33 39 sl33, .p] rfl <| oP rfl <| OW.sub key (sb rfl)
     ·exact ow_batch [.p, .p, .p, .p, .p, .p] rfl <| OW.sub key (sb rfl)
   ·clear H
    have H := hu81
    clear hu81
    generalize u72 = t80 at H key ⊢
    cases t80
    ·have H := of_if_f rfl H
     refine o1 rfl (rx 0 0 _ rfl ty48 rfl) <| ow_batch [.fa 169 4 5 fa169_4] rfl <| o1 rfl (rx 5 2 _ rfl ty167 rfl) <| bE H fun y78 h79 H => oq rfl (qc rfl fn141 (fun w1 hw1 => spec_StatsOk_ok w1 h79 (rdm_Timpl_Schema (rds_bor g12 w1 hw1) (rds_bor g13 w1 hw1)) (rdm_Timpl_Stats (rds_bor g56 w1 hw1) (rds_bor g57 w1 hw1)))) tt2 <| oP rfl <| oP rfl <| ?_
     obtain rfl := of_some H
     exact OW.sub key (sb rfl)
    ·have H := of_if_t rfl H
     refine ow_batch [.p, .p, .p, .p, .p, .p] rfl ?_
     obtain rfl := of_some H
     exact OW.sub key (sb rfl)
  ·clear H
   have H := hu76
   clear hu76
   generalize u67 = t75 at H key ⊢
   cases t75
   ·have H := of_if_f rfl H
    refine ow_batch [.fa 169 3 4 fa169_3] rfl <| o1 rfl (r1 4 2 rfl ty3 rfl) <| ow_batch [.fa 169 2 3 fa169_2] rfl <| o1 rfl (r1 3 2 rfl ty39 rfl) <| ow_batch [.lenS 39 3 sl39, .p] rfl <| bE H fun y73 h74 H => oq rfl (qc rfl fn69 (fun w1 hw1 => spec_l1In_ok w1  h74)) tt2 <| oP rfl <| oP rfl <| ?_
    obtain rfl := of_some H
    exact OW.sub key (sb rfl)
   ·have H := of_if_t rfl H
    refine ow_batch [.p, .p, .p, .p, .p, .p, .p, .p, .p] rfl ?_
    obtain rfl := of_some H
    exact OW.sub key (sb rfl)
 ·clear H
  have H := hu71
  clear hu71
  generalize (!y65) = t70 at H key ⊢
  cases t70
  ·have H := of_if_f rfl H
   refine ow_batch [.fa 169 2 3 fa169_2] rfl <| o1 rfl (r1 3 2 rfl ty39 rfl) <| ow_batch [.lenS 39 3 sl39] rfl <| o1 rfl (rx 0 0 _ rfl ty48 rfl) <| ow_batch [.fa 169 1 1 fa169_1] rfl <| o1 rfl (rx 1 2 _ rfl ty165 rfl) <| bE H fun y68 h69 H => oq rfl (qc rfl fn180 (fun w1 hw1 => spec_Branches_ok w1 (p1 := e26.Fork_) h69 (rdm_Timpl_Schema (rds_bor g12 w1 hw1) (rds_bor g13 w1 hw1)))) tt2 <| oP rfl <| oP rfl <| ?_
   obtain rfl := of_some H
   exact OW.sub key (sb rfl)
  ·have H := of_if_t rfl H
   refine ow_batch [.p, .p, .p, .p, .p, .p, .p, .p, .p] rfl ?_
   obtain rfl := of_some H
   exact OW.sub key (sb rfl)
theorem spec_l19Among_ok (w : World) {p0 : List Int} {p1 : Int} {a_0 : Option Addr} {n_0 c_0 : Nat} {r : Bool} (H : spec_l19Among p0 p1 = some r)  (g0 : (eList eI 3).rd w [] p0 [.slice a_0 n_0 c_0]) :
    Calls Tryz.prog 160 #[.slice a_0 n_0 c_0, .int .i64 p1] w (fun en w' => en = .returned (.bool r) ∧ Ext [] w w') := by
 obtain rfl := rd_n g0
 unfold spec_l19Among at H
 refine f_enter Tryz.func160 rfl Tryz.ntmps160 rfl (St.init w []) <| sR <| oP rfl <| nQ <| c_seq <| sR <| oP rfl <| nQ <| c_block <| CW.at (loopI1 (fun (i13 : Int) => St w [] []) (fun i13 => [(0, .slice a_0 p0.length c_0), (1, .int .i64 p1), (5, .int .i64 i13)]) (fun kk => fun i13 => spec_l19Among_L1 p0 p1 kk i13 = some r) (fun _ H => ?_) (fun k1 ihk1 i13 H => ?_) Fuel (0) (H)) (fun _ h => St.sel [] rfl rfl h) ⟨rfl, rfl, rfl,  trivial⟩
 ·unfold spec_l19Among_L1 at H
  exact absurd H (by simp)
 ·unfold spec_l19Among_L1 at H
  refine c_seq <| sR <| ow_batch [.p, .p, .lenS 39 3 sl39, .p] rfl <| nQ <| cI H rfl (fun H => ?_) (fun H => ?_)
  ·refine c_skip <| x_qs <| c_seq <| c_block <| sR <| oPP rfl <| bE H fun e18 h19 H => ow_ixE (e := eI) (xs := p0) (j := i13) rfl rfl rfl rfl rfl sl39 ty3 rfl (fun w1 hw1 => rds_bor g0 w1 hw1) h19 (by rw [Nat.mul_one]) <| o1 rfl (ry_load1 rfl rfl ty3 (at_elV (fun w1 hw1 => rds_bor g0 w1 hw1) h19)) <| oPP rfl <| nQ <| cI H rfl (fun H => ?_) (fun H => ?_)
   ·exact sR <| oP rfl <| nT <| x_qb_ret <| x_qs_ret <| x_ql_ret <| x_qb_ret <| x_qs_ret <| xr 4 rfl (by cases H; exact q1)
   ·exact c_skip <| x_qb <| x_qs <| c_reg <| ow_batch [.p, .p, .p] rfl <| ow_nil <| x_ql (RW.at (ihk1 (IntKind.i64.wrap (i13 + 1)) (H)) (fun _ h => St.sel [] rfl rfl h) ⟨rfl, rfl, rfl, trivial⟩)
  ·exact c_exit <| x_qs_exit <| x_ql_exit <| x_qb_here <| x_qs <| sR <| oP rfl <| nT <| xr 4 rfl (by cases H; exact q1)
theorem spec_TreeOk_ok (w : World) {p0 : Timpl_Schema} {p1 : Timpl_Tree} {cs0 : List Value} {cs1 : List Value} {r : Bool} (H : spec_TreeOk p0 p1 = some r)  (g0 : (eTimpl_Schema).rd w [] p0 cs0) (g1 : (eTimpl_Tree).rd w [] p1 cs1) :
    Calls Tryz.prog 135 #[.agg cs0.toArray, .agg cs1.toArray] w (fun en w' => en = .returned (.bool r) ∧ Ext [] w w') := by
 obtain ⟨c10, c11, rfl, g12, g13⟩ := rdo_Timpl_Schema g0
 obtain ⟨a14, c15, rfl⟩ := rd_sl1 g12
 obtain ⟨a16, c17, rfl⟩ := rd_sl1 g13
 obtain ⟨c18, c19, rfl, g20, g21⟩ := rdo_Timpl_Tree g1
 obtain ⟨a22, c23, rfl⟩ := rd_sl1 g20
 obtain rfl := g21
 unfold spec_TreeOk at H
 refine f_enter Tryz.func135 rfl Tryz.ntmps135 rfl (St.init w []) <| sR <| ob _ rfl fun b24 => ob _ rfl fun b25 => oP rfl <| nQ <| c_seq <| sR <| o1 rfl (rx 0 0 _ rfl ty48 rfl) <| bE H fun y26 h27 H => oq rfl (qc rfl fn68 (fun w1 hw1 => spec_SchemaOk_ok w1 h27 (rdm_Timpl_Schema (rds_bor g12 w1 hw1) (rds_bor g13 w1 hw1)))) tt2 <| oPP rfl <| bE H fun u28 hu32 H => ow_cut [(17, .bool u28), (2, .pointer (some ⟨b24, 0, none⟩)), (3, .pointer (some ⟨b25, 0, none⟩))] 6 ?_ (fun key => OW.sub (R := [(2, .pointer (some ⟨b24, 0, none⟩)), (3, .pointer (some ⟨b25, 0, none⟩)), (11, .bool (!y26))]) ?_ (sb rfl))
 ·refine oP rfl <| bE H fun u33 hu37 H => ow_cut [(23, .bool u33), (2, .pointer (some ⟨b24, 0, none⟩)), (3, .pointer (some ⟨b25, 0, none⟩))] 5 ?_ (fun key => OW.sub (R := [(2, .pointer (some ⟨b24, 0, none⟩)), (3, .pointer (some ⟨b25, 0, none⟩)), (18, .bool u28)]) ?_ (sb rfl))
  ·refine nQ <| cI H rfl (fun H => ?_) (fun H => ?_)
   ·exact sR <| oP rfl <| nT <| x_qs_ret <| xr 4 rfl (by cases H; exact q1)
   ·refine c_skip <| x_qs <| c_seq <| sR <| oP rfl <| nQ <| c_block <| CW.at (loopI1 (fun (i152 : Int) => St w [] [Res.box b24 48 [.slice a14 p0.Attrs_.length c15, .slice a16 p0.Classes_.length c17], Res.box b25 93 [.slice a22 p1.Nodes_.length c23, .int .i64 p1.Seen_]]) (fun i152 => [(2, .pointer (some ⟨b24, 0, none⟩)), (3, .pointer (some ⟨b25, 0, none⟩)), (5, .int .i64 i152)]) (fun kk => fun i152 => spec_TreeOk_L1 p1 p0 kk i152 = some r) (fun _ H => ?_) (fun k1 ihk1 i152 H => ?_) Fuel (0) (H)) (fun _ h => St.sel [0, 1] rfl rfl h) ⟨rfl, rfl, rfl,  trivial⟩
    ·unfold spec_TreeOk_L1 at H
     exact absurd H (by simp)
    ·unfold spec_TreeOk_L1 at H
     refine c_seq <| sR <| ow_batch [.p, .fa 93 0 0 fa93_0] rfl <| o1 rfl (r1 0 1 rfl ty91 rfl) <| ow_batch [.lenS 91 169 sl91, .p] rfl <| nQ <| cI H rfl (fun H => ?_) (fun H => ?_)
     ·refine c_skip <| x_qs <| c_seq <| c_block <| sR <| ow_batch [.fa 93 0 0 fa93_0] rfl <| o1 rfl (r1 0 1 rfl ty91 rfl) <| oP rfl <| bE H fun e267 h268 H => ow_ixB rfl rfl rfl rfl rfl sl91 ty169 rfl g20 h268 fun q271 c272 hd269 hA270 => ?_
      obtain ⟨c273, c274, c275, c276, c277, c278, c279, c280, c281, c282, rfl, g283, g284, g285, g286, g287, g288, g289, g290, g291, g292⟩ := rdo_Timpl_Node hd269
      obtain rfl := g283
      obtain rfl := g284
      obtain ⟨a293, c294, rfl⟩ := rd_sl1 g285
      obtain rfl := g286
      obtain ⟨c295, c296, rfl, g297, g298⟩ := rdo_Timpl_Stats g287
      obtain ⟨a299, c300, rfl⟩ := rd_sl1 g297
      obtain ⟨a301, c302, rfl⟩ := rd_sl1 g298
      obtain rfl := g288
      obtain ⟨a303, c304, rfl⟩ := rd_sl1 g289
      obtain rfl := g290
      obtain rfl := g291
      obtain rfl := g292
      refine o1 rfl (ry_load (cs := [.bool e267.Leaf_, .int .i64 e267.Fork_.Attr_, .int .i64 e267.Fork_.At_, .slice a293 e267.Kids_.length c294, .int .i64 e267.Miss_, .slice a299 e267.Stats_.Totals_.length c300, .slice a301 e267.Stats_.Cells_.length c302, .int .i64 e267.Since_, .slice a303 e267.Attrs_.length c304, .int .i64 e267.Depth_, .int .i64 e267.Up_, .int .i64 e267.Born_]) rfl rfl ty169 (at_bor bor hA270) rfl) <| ow_alloc rfl rfl rfl rfl ty169 (fun _ => kp) fun b305 => sC 0 [.bool e267.Leaf_, .int .i64 e267.Fork_.Attr_, .int .i64 e267.Fork_.At_, .slice a293 e267.Kids_.length c294, .int .i64 e267.Miss_, .slice a299 e267.Stats_.Totals_.length c300, .slice a301 e267.Stats_.Cells_.length c302, .int .i64 e267.Since_, .slice a303 e267.Attrs_.length c304, .int .i64 e267.Depth_, .int .i64 e267.Up_, .int .i64 e267.Born_] [_, _, _, _, _, _, _, _, _, _, _, _] 2 rfl ty169 rfl <| nQ <| c_seq <| sR <| ow_batch [.fa 169 7 9 fa169_7] rfl <| o1 rfl (r1 9 2 rfl ty3 rfl) <| bE H fun y306 h307 H => oq rfl (qc rfl fn69 (fun w1 hw1 => spec_l1In_ok w1  h307)) tt2 <| oPP rfl <| bE H fun u308 hu312 H => ow_cut [(47, .bool u308), (2, .pointer (some ⟨b24, 0, none⟩)), (3, .pointer (some ⟨b25, 0, none⟩)), (5, .int .i64 i152), (6, .pointer (some ⟨b305, 0, none⟩))] 7 ?_ (fun key => OW.sub (R := [(2, .pointer (some ⟨b24, 0, none⟩)), (3, .pointer (some ⟨b25, 0, none⟩)), (5, .int .i64 i152), (6, .pointer (some ⟨b305, 0, none⟩)), (40, .bool (!y306))]) ?_ (sb rfl))
      ·refine nQ <| cI H rfl (fun H => ?_) (fun H => ?_)
       ·exact sR <| oP rfl <| nT <| x_qs_ret <| x_qb_ret <| x_qs_ret <| x_ql_ret <| x_qb_ret <| x_qs_ret <| xr 4 rfl (by cases H; exact q1)
       ·refine c_skip <| x_qs <| c_seq <| sR <| ow_batch [.fa 169 0 0 fa169_0] rfl <| o1 rfl (r1 0 2 rfl ty4 rfl) <| oP rfl <| bE H fun u313 hu317 H => ow_cut [(55, .bool u313), (2, .pointer (some ⟨b24, 0, none⟩)), (3, .pointer (some ⟨b25, 0, none⟩)), (5, .int .i64 i152), (6, .pointer (some ⟨b305, 0, none⟩))] 5 ?_ (fun key => OW.sub (R := [(2, .pointer (some ⟨b24, 0, none⟩)), (3, .pointer (some ⟨b25, 0, none⟩)), (5, .int .i64 i152), (6, .pointer (some ⟨b305, 0, none⟩)), (50, .bool e267.Leaf_)]) ?_ (sb rfl))
        ·refine oP rfl <| bE H fun u318 hu325 H => ow_cut [(67, .bool u318), (2, .pointer (some ⟨b24, 0, none⟩)), (3, .pointer (some ⟨b25, 0, none⟩)), (5, .int .i64 i152), (6, .pointer (some ⟨b305, 0, none⟩))] 11 ?_ (fun key => OW.sub (R := [(2, .pointer (some ⟨b24, 0, none⟩)), (3, .pointer (some ⟨b25, 0, none⟩)), (5, .int .i64 i152), (6, .pointer (some ⟨b305, 0, none⟩)), (56, .bool u313)]) ?_ (sb rfl))
         ·refine nQ <| cI H rfl (fun H => ?_) (fun H => ?_)
          ·exact sR <| oP rfl <| nT <| x_qs_ret <| x_qb_ret <| x_qs_ret <| x_ql_ret <| x_qb_ret <| x_qs_ret <| xr 4 rfl (by cases H; exact q1)
          ·refine c_skip <| x_qs <| c_seq <| sR <| oPP rfl <| nQ <| cI H rfl (fun H => ?_) (fun H => ?_)
           ·refine c_seq <| sR <| ow_batch [.fa 169 8 10 fa169_8] rfl <| o1 rfl (r1 10 2 rfl ty3 rfl) <| oPP rfl <| ow_cut [(77, .bool ((e267.Up_ != (-1)) || (e267.Depth_ != 0))), (2, .pointer (some ⟨b24, 0, none⟩)), (3, .pointer (some ⟨b25, 0, none⟩)), (5, .int .i64 i152), (6, .pointer (some ⟨b305, 0, none⟩))] 4 ?_ (fun key => OW.sub (R := [(2, .pointer (some ⟨b24, 0, none⟩)), (3, .pointer (some ⟨b25, 0, none⟩)), (5, .int .i64 i152), (6, .pointer (some ⟨b305, 0, none⟩)), (73, .bool (e267.Up_ != (-1)))]) ?_ (sb rfl))
            ·refine oP rfl <| ow_cut [(82, .bool (((e267.Up_ != (-1)) || (e267.Depth_ != 0)) || (e267.Born_ != 0))), (2, .pointer (some ⟨b24, 0, none⟩)), (3, .pointer (some ⟨b25, 0, none⟩)), (5, .int .i64 i152)] 4 ?_ (fun key => OW.sub (R := [(2, .pointer (some ⟨b24, 0, none⟩)), (3, .pointer (some ⟨b25, 0, none⟩)), (5, .int .i64 i152), (6, .pointer (some ⟨b305, 0, none⟩)), (78, .bool ((e267.Up_ != (-1)) || (e267.Depth_ != 0)))]) ?_ (sb rfl))
             ·refine nQ <| cI H rfl (fun H => ?_) (fun H => ?_)
              ·exact sR <| oP rfl <| nT <| x_qs_ret <| x_qs_ret <| x_qb_ret <| x_qs_ret <| x_ql_ret <| x_qb_ret <| x_qs_ret <| xr 4 rfl (by cases H; exact q1)
              ·exact c_skip <| x_qs <| c_exit <| x_qs_exit <| x_qb_here <| x_qs <| c_reg <| ow_batch [.p, .p, .p] rfl <| ow_nil <| x_ql (RW.at (ihk1 (IntKind.i64.wrap (i152 + 1)) (H)) (fun _ h => St.sel [0, 1] rfl rfl h) ⟨rfl, rfl, rfl, trivial⟩)
             ·generalize ((e267.Up_ != (-1)) || (e267.Depth_ != 0)) = t329 at key ⊢
              cases t329
              ·exact ow_batch [.fa 169 9 11 fa169_9] rfl <| o1 rfl (r1 11 2 rfl ty3 rfl) <| oP rfl <| oP rfl <| OW.sub key (sb rfl)
              ·exact ow_batch [.p, .p, .p, .p] rfl <| OW.sub key (sb rfl)
            ·generalize (e267.Up_ != (-1)) = t327 at key ⊢
             cases t327
             ·exact ow_batch [.fa 169 7 9 fa169_7] rfl <| o1 rfl (r1 9 2 rfl ty3 rfl) <| oP rfl <| oP rfl <| OW.sub key (sb rfl)
             ·exact ow_batch [.p, .p, .p, .p] rfl <| OW.sub key (sb rfl)
           ·refine c_skip <| x_qs <| c_seq <| sR <| ow_batch [.fa 169 8 10 fa169_8] rfl <| o1 rfl (r1 10 2 rfl ty3 rfl) <| oPP rfl <| bE H fun y330 h331 H => oq rfl (qc rfl fn69 (fun w1 hw1 => spec_l1In_ok w1  h331)) tt2 <| oP rfl <| nQ <| cI H rfl (fun H => ?_) (fun H => ?_)
            ·exact sR <| oP rfl <| nT <| x_qs_ret <| x_qb_ret <| x_qs_ret <| x_ql_ret <| x_qb_ret <| x_qs_ret <| xr 4 rfl (by cases H; exact q1)
            ·refine c_skip <| x_qs <| sR <| ow_batch [.fa 93 0 0 fa93_0] rfl <| o1 rfl (r1 0 1 rfl ty91 rfl) <| ow_batch [.fa 169 8 10 fa169_8] rfl <| o1 rfl (r1 10 2 rfl ty3 rfl) <| bE H fun e332 h333 H => ow_ixB rfl rfl rfl rfl rfl sl91 ty169 rfl g20 h333 fun q336 c337 hd334 hA335 => ?_
             obtain ⟨c338, c339, c340, c341, c342, c343, c344, c345, c346, c347, rfl, g348, g349, g350, g351, g352, g353, g354, g355, g356, g357⟩ := rdo_Timpl_Node hd334
             obtain rfl := g348
             obtain rfl := g349
             obtain ⟨a358, c359, rfl⟩ := rd_sl1 g350
             obtain rfl := g351
             obtain ⟨c360, c361, rfl, g362, g363⟩ := rdo_Timpl_Stats g352
             obtain ⟨a364, c365, rfl⟩ := rd_sl1 g362
             obtain ⟨a366, c367, rfl⟩ := rd_sl1 g363
             obtain rfl := g353
             obtain ⟨a368, c369, rfl⟩ := rd_sl1 g354
             obtain rfl := g355
             obtain rfl := g356
             obtain rfl := g357
             refine o1 rfl (ry_load (cs := [.bool e332.Leaf_, .int .i64 e332.Fork_.Attr_, .int .i64 e332.Fork_.At_, .slice a358 e332.Kids_.length c359, .int .i64 e332.Miss_, .slice a364 e332.Stats_.Totals_.length c365, .slice a366 e332.Stats_.Cells_.length c367, .int .i64 e332.Since_, .slice a368 e332.Attrs_.length c369, .int .i64 e332.Depth_, .int .i64 e332.Up_, .int .i64 e332.Born_]) rfl rfl ty169 (at_bor bor hA335) rfl) <| ow_alloc rfl rfl rfl rfl ty169 (fun _ => kp) fun b370 => sC 0 [.bool e332.Leaf_, .int .i64 e332.Fork_.Attr_, .int .i64 e332.Fork_.At_, .slice a358 e332.Kids_.length c359, .int .i64 e332.Miss_, .slice a364 e332.Stats_.Totals_.length c365, .slice a366 e332.Stats_.Cells_.length c367, .int .i64 e332.Since_, .slice a368 e332.Attrs_.length c369, .int .i64 e332.Depth_, .int .i64 e332.Up_, .int .i64 e332.Born_] [_, _, _, _, _, _, _, _, _, _, _, _] 3 rfl ty169 rfl <| nR <| ow_batch [.fa 169 0 0 fa169_0] rfl <| o1 rfl (r1 0 3 rfl ty4 rfl) <| oP rfl <| bE H fun u371 hu375 H => ow_cut [(103, .bool u371), (2, .pointer (some ⟨b24, 0, none⟩)), (3, .pointer (some ⟨b25, 0, none⟩)), (5, .int .i64 i152), (6, .pointer (some ⟨b305, 0, none⟩)), (7, .pointer (some ⟨b370, 0, none⟩))] 6 ?_ (fun key => OW.sub (R := [(2, .pointer (some ⟨b24, 0, none⟩)), (3, .pointer (some ⟨b25, 0, none⟩)), (5, .int .i64 i152), (6, .pointer (some ⟨b305, 0, none⟩)), (7, .pointer (some ⟨b370, 0, none⟩)), (97, .bool e332.Leaf_)]) ?_ (sb rfl))
             ·refine oP rfl <| ow_cut [(111, .bool (u371 || ((IntKind.i64.wrap (e332.Depth_ + 1)) != e267.Depth_))), (2, .pointer (some ⟨b24, 0, none⟩)), (3, .pointer (some ⟨b25, 0, none⟩)), (5, .int .i64 i152), (6, .pointer (some ⟨b305, 0, none⟩)), (7, .pointer (some ⟨b370, 0, none⟩))] 7 ?_ (fun key => OW.sub (R := [(2, .pointer (some ⟨b24, 0, none⟩)), (3, .pointer (some ⟨b25, 0, none⟩)), (5, .int .i64 i152), (6, .pointer (some ⟨b305, 0, none⟩)), (7, .pointer (some ⟨b370, 0, none⟩)), (104, .bool u371)]) ?_ (sb rfl))
              ·refine oP rfl <| ow_cut [(118, .bool ((u371 || ((IntKind.i64.wrap (e332.Depth_ + 1)) != e267.Depth_)) || (decide (e332.Born_ > e267.Born_)))), (2, .pointer (some ⟨b24, 0, none⟩)), (3, .pointer (some ⟨b25, 0, none⟩)), (5, .int .i64 i152)] 6 ?_ (fun key => OW.sub (R := [(2, .pointer (some ⟨b24, 0, none⟩)), (3, .pointer (some ⟨b25, 0, none⟩)), (5, .int .i64 i152), (6, .pointer (some ⟨b305, 0, none⟩)), (7, .pointer (some ⟨b370, 0, none⟩)), (112, .bool (u371 || ((IntKind.i64.wrap (e332.Depth_ + 1)) != e267.Depth_)))]) ?_ (sb rfl))
               ·refine nQ <| cI H rfl (fun H => ?_) (fun H => ?_)
                ·exact sR <| oP rfl <| nT <| x_qb_ret <| x_qs_ret <| x_ql_ret <| x_qb_ret <| x_qs_ret <| xr 4 rfl (by cases H; exact q1)
                ·exact c_skip <| x_qb <| x_qs <| c_reg <| ow_batch [.p, .p, .p] rfl <| ow_nil <| x_ql (RW.at (ihk1 (IntKind.i64.wrap (i152 + 1)) (H)) (fun _ h => St.sel [0, 1] rfl rfl h) ⟨rfl, rfl, rfl, trivial⟩)
               ·generalize (u371 || ((IntKind.i64.wrap (e332.Depth_ + 1)) != e267.Depth_)) = t379 at key ⊢
                cases t379
                ·exact ow_batch [.fa 169 9 11 fa169_9] rfl <| o1 rfl (r1 11 3 rfl ty3 rfl) <| ow_batch [.fa 169 9 11 fa169_9] rfl <| o1 rfl (r1 11 2 rfl ty3 rfl) <| oP rfl <| oP rfl <| OW.sub key (sb rfl)
                ·exact ow_batch [.p, .p, .p, .p, .p, .p] rfl <| OW.sub key (sb rfl)
              ·generalize u371 = t377 at key ⊢
               cases t377
               ·exact ow_batch [.fa 169 7 9 fa169_7] rfl <| o1 rfl (r1 9 3 rfl ty3 rfl) <| ow_batch [.p, .fa 169 7 9 fa169_7] rfl <| o1 rfl (r1 9 2 rfl ty3 rfl) <| oP rfl <| oP rfl <| OW.sub key (sb rfl)
               ·exact ow_batch [.p, .p, .p, .p, .p, .p, .p] rfl <| OW.sub key (sb rfl)
             ·clear H
              have H := hu375
              clear hu375
              generalize e332.Leaf_ = t374 at H key ⊢
              cases t374
              ·have H := of_if_f rfl H
               refine ow_batch [.fa 169 2 3 fa169_2] rfl <| o1 rfl (r1 3 3 rfl ty39 rfl) <| oP rfl <| bE H fun y372 h373 H => oq rfl (qc rfl fn160 (fun w1 hw1 => spec_l19Among_ok w1  h373 (rds_bor g350 w1 hw1))) tt2 <| oP rfl <| oP rfl <| ?_
               obtain rfl := of_some H
               exact OW.sub key (sb rfl)
              ·have H := of_if_t rfl H
               refine ow_batch [.p, .p, .p, .p, .p, .p] rfl ?_
               obtain rfl := of_some H
               exact OW.sub key (sb rfl)
         ·clear H
          have H := hu325
          clear hu325
          generalize u313 = t324 at H key ⊢
          cases t324
          ·have H := of_if_f rfl H
           refine ow_batch [.fa 169 0 0 fa169_0] rfl <| o1 rfl (r1 0 2 rfl ty4 rfl) <| oPP rfl <| bE H fun u319 hu323 H => ow_cut [(66, .bool u319), (2, .pointer (some ⟨b24, 0, none⟩)), (3, .pointer (some ⟨b25, 0, none⟩)), (5, .int .i64 i152), (6, .pointer (some ⟨b305, 0, none⟩)), (56, .bool false)] 6 ?_ (fun key => OW.sub (R := [(2, .pointer (some ⟨b24, 0, none⟩)), (3, .pointer (some ⟨b25, 0, none⟩)), (5, .int .i64 i152), (6, .pointer (some ⟨b305, 0, none⟩)), (56, .bool false), (60, .bool (!e267.Leaf_))]) ?_ (sb rfl))
           ·refine ow_batch [.p] rfl ?_
            obtain rfl := of_some H
            exact OW.sub key (sb rfl)
           ·clear H
            have H := hu323
            clear hu323
            generalize (!e267.Leaf_) = t322 at H key ⊢
            cases t322
            ·have H := of_if_f rfl H
             refine ow_batch [.p, .p, .p, .p, .p, .p] rfl ?_
             obtain rfl := of_some H
             exact OW.sub key (sb rfl)
            ·have H := of_if_t rfl H
             refine o1 rfl (rx 0 0 _ rfl ty48 rfl) <| o1 rfl (rx 0 1 _ rfl ty93 rfl) <| oP rfl <| bE H fun y320 h321 H => oq rfl (qc rfl fn159 (fun w1 hw1 => spec_l19Split_ok w1 h321 (rdm_Timpl_Schema (rds_bor g12 w1 hw1) (rds_bor g13 w1 hw1)) (rdm_Timpl_Tree (rds_bor g20 w1 hw1) rfl))) tt2 <| oP rfl <| oP rfl <| ?_
             obtain rfl := of_some H
             exact OW.sub key (sb rfl)
          ·have H := of_if_t rfl H
           refine ow_batch [.p, .p, .p, .p, .p, .p, .p, .p, .p, .p, .p] rfl ?_
           obtain rfl := of_some H
           exact OW.sub key (sb rfl)
        ·clear H
         have H := hu317
         clear hu317
         generalize e267.Leaf_ = t316 at H key ⊢
         cases t316
         ·have H := of_if_f rfl H
          refine ow_batch [.p, .p, .p, .p, .p] rfl ?_
          obtain rfl := of_some H
          exact OW.sub key (sb rfl)
         ·have H := of_if_t rfl H
          refine o1 rfl (rx 0 0 _ rfl ty48 rfl) <| o1 rfl (rx 0 2 _ rfl ty169 rfl) <| bE H fun y314 h315 H => oq rfl (qc rfl fn158 (fun w1 hw1 => spec_l19Leaf_ok w1 h315 (rdm_Timpl_Schema (rds_bor g12 w1 hw1) (rds_bor g13 w1 hw1)) (rdm_Timpl_Node (x := ({ e267 with Leaf_ := true })) rfl rfl (rds_bor g285 w1 hw1) rfl (rdm_Timpl_Stats (rds_bor g297 w1 hw1) (rds_bor g298 w1 hw1)) rfl (rds_bor g289 w1 hw1) rfl rfl rfl))) tt2 <| oP rfl <| oP rfl <| ?_
          obtain rfl := of_some H
          exact OW.sub key (sb rfl)
      ·clear H
       have H := hu312
       clear hu312
       generalize (!y306) = t311 at H key ⊢
       cases t311
       ·have H := of_if_f rfl H
        refine ow_batch [.fa 169 9 11 fa169_9] rfl <| o1 rfl (r1 11 2 rfl ty3 rfl) <| ow_batch [.fa 93 1 1 fa93_1] rfl <| o1 rfl (r1 1 1 rfl ty3 rfl) <| bE H fun y309 h310 H => oq rfl (qc rfl fn69 (fun w1 hw1 => spec_l1In_ok w1  h310)) tt2 <| oP rfl <| oP rfl <| ?_
        obtain rfl := of_some H
        exact OW.sub key (sb rfl)
       ·have H := of_if_t rfl H
        refine ow_batch [.p, .p, .p, .p, .p, .p, .p] rfl ?_
        obtain rfl := of_some H
        exact OW.sub key (sb rfl)
     ·exact c_exit <| x_qs_exit <| x_ql_exit <| x_qb_here <| x_qs <| sR <| oP rfl <| nT <| xr 4 rfl (by cases H; exact q1)
  ·clear H
   have H := hu37
   clear hu37
   generalize u28 = t36 at H key ⊢
   cases t36
   ·have H := of_if_f rfl H
    refine ow_batch [.fa 93 1 1 fa93_1] rfl <| o1 rfl (r1 1 1 rfl ty3 rfl) <| bE H fun y34 h35 H => oq rfl (qc rfl fn69 (fun w1 hw1 => spec_l1In_ok w1  h35)) tt2 <| oP rfl <| oP rfl <| ?_
    obtain rfl := of_some H
    exact OW.sub key (sb rfl)
   ·have H := of_if_t rfl H
    refine ow_batch [.p, .p, .p, .p, .p] rfl ?_
    obtain rfl := of_some H
    exact OW.sub key (sb rfl)
 ·clear H
  have H := hu32
  clear hu32
  generalize (!y26) = t31 at H key ⊢
  cases t31
  ·have H := of_if_f rfl H
   refine ow_batch [.fa 93 0 0 fa93_0] rfl <| o1 rfl (r1 0 1 rfl ty91 rfl) <| ow_batch [.lenS 91 169 sl91] rfl <| bE H fun y29 h30 H => oq rfl (qc rfl fn69 (fun w1 hw1 => spec_l1In_ok w1  h30)) tt2 <| oP rfl <| oP rfl <| ?_
   obtain rfl := of_some H
   exact OW.sub key (sb rfl)
  ·have H := of_if_t rfl H
   refine ow_batch [.p, .p, .p, .p, .p, .p] rfl ?_
   obtain rfl := of_some H
   exact OW.sub key (sb rfl)
theorem spec_DepthOf_ok (w : World) {p0 : Timpl_Tree} {cs0 : List Value} {r : Int} (H : spec_DepthOf p0 = some r)  (g0 : (eTimpl_Tree).rd w [] p0 cs0) :
    Calls Tryz.prog 136 #[.agg cs0.toArray] w (fun en w' => en = .returned (.int .i64 r) ∧ Ext [] w w') := by
 obtain ⟨c10, c11, rfl, g12, g13⟩ := rdo_Timpl_Tree g0
 obtain ⟨a14, c15, rfl⟩ := rd_sl1 g12
 obtain rfl := g13
 unfold spec_DepthOf at H
 refine f_enter Tryz.func136 rfl Tryz.ntmps136 rfl (St.init w []) <| sR <| ob _ rfl fun b16 => oP rfl <| nR <| oP rfl <| nQ <| c_seq <| sR <| oP rfl <| nQ <| c_block <| CW.at (loopI2 (fun (i98 : Int) (i99 : Int) => St w [] [Res.box b16 93 [.slice a14 p0.Nodes_.length c15, .int .i64 p0.Seen_]]) (fun i98 i99 => [(1, .pointer (some ⟨b16, 0, none⟩)), (3, .int .i64 i98), (4, .int .i64 i99)]) (fun kk => fun i98 i99 => spec_DepthOf_L1 p0 kk i98 i99 = some r) (fun _ _ H => ?_) (fun k1 ihk1 i98 i99 H => ?_) Fuel (0) (0) (H)) (fun _ h => St.sel [0] rfl rfl h) ⟨rfl, rfl, rfl,  trivial⟩
 ·unfold spec_DepthOf_L1 at H
  exact absurd H (by simp)
 ·unfold spec_DepthOf_L1 at H
  refine c_seq <| sR <| ow_batch [.p, .fa 93 0 0 fa93_0] rfl <| o1 rfl (r1 0 0 rfl ty91 rfl) <| ow_batch [.lenS 91 169 sl91, .p] rfl <| nQ <| cI H rfl (fun H => ?_) (fun H => ?_)
  ·refine c_skip <| x_qs <| c_seq <| c_block <| sR <| ow_batch [.p, .p, .p] rfl <| bE H fun u181 hu221 H => ow_cut [(23, .bool u181), (1, .pointer (some ⟨b16, 0, none⟩)), (3, .int .i64 i98), (4, .int .i64 i99)] 9 ?_ (fun key => OW.sub (R := [(1, .pointer (some ⟨b16, 0, none⟩)), (3, .int .i64 i98), (4, .int .i64 i99), (14, .bool (i99 == 0))]) ?_ (sb rfl))
   ·refine nQ <| cI H rfl (fun H => ?_) (fun H => ?_)
    ·refine c_reg <| ow_batch [.fa 93 0 0 fa93_0] rfl <| o1 rfl (r1 0 0 rfl ty91 rfl) <| oP rfl <| bE H fun e222 h223 H => ow_ixB rfl rfl rfl rfl rfl sl91 ty169 rfl g12 h223 fun q226 c227 hd224 hA225 => ?_
     obtain ⟨c228, c229, c230, c231, c232, c233, c234, c235, c236, c237, rfl, g238, g239, g240, g241, g242, g243, g244, g245, g246, g247⟩ := rdo_Timpl_Node hd224
     obtain rfl := g238
     obtain rfl := g239
     obtain ⟨a248, c249, rfl⟩ := rd_sl1 g240
     obtain rfl := g241
     obtain ⟨c250, c251, rfl, g252, g253⟩ := rdo_Timpl_Stats g242
     obtain ⟨a254, c255, rfl⟩ := rd_sl1 g252
     obtain ⟨a256, c257, rfl⟩ := rd_sl1 g253
     obtain rfl := g243
     obtain ⟨a258, c259, rfl⟩ := rd_sl1 g244
     obtain rfl := g245
     obtain rfl := g246
     obtain rfl := g247
     exact ow_batch [.fa 169 7 9 fa169_7] rfl <| o1 rfl (ry_load1 rfl rfl ty3 (at_bor bor (at_K hA225 9 1))) <| oP rfl <| ow_nil <| x_qb <| x_qs <| c_reg <| ow_batch [.p, .p, .p] rfl <| ow_nil <| x_ql (RW.at (ihk1 (e222.Depth_) (IntKind.i64.wrap (i99 + 1)) (H)) (fun _ h => St.sel [0] rfl rfl h) ⟨rfl, rfl, rfl, trivial⟩)
    ·exact c_skip <| x_qb <| x_qs <| c_reg <| ow_batch [.p, .p, .p] rfl <| ow_nil <| x_ql (RW.at (ihk1 (i98) (IntKind.i64.wrap (i99 + 1)) (H)) (fun _ h => St.sel [0] rfl rfl h) ⟨rfl, rfl, rfl, trivial⟩)
   ·clear H
    have H := hu221
    clear hu221
    generalize (i99 == 0) = t220 at H key ⊢
    cases t220
    ·have H := of_if_f rfl H
     refine ow_batch [.fa 93 0 0 fa93_0] rfl <| o1 rfl (r1 0 0 rfl ty91 rfl) <| oP rfl <| bE H fun e182 h183 H => ow_ixB rfl rfl rfl rfl rfl sl91 ty169 rfl g12 h183 fun q186 c187 hd184 hA185 => ?_
     obtain ⟨c188, c189, c190, c191, c192, c193, c194, c195, c196, c197, rfl, g198, g199, g200, g201, g202, g203, g204, g205, g206, g207⟩ := rdo_Timpl_Node hd184
     obtain rfl := g198
     obtain rfl := g199
     obtain ⟨a208, c209, rfl⟩ := rd_sl1 g200
     obtain rfl := g201
     obtain ⟨c210, c211, rfl, g212, g213⟩ := rdo_Timpl_Stats g202
     obtain ⟨a214, c215, rfl⟩ := rd_sl1 g212
     obtain ⟨a216, c217, rfl⟩ := rd_sl1 g213
     obtain rfl := g203
     obtain ⟨a218, c219, rfl⟩ := rd_sl1 g204
     obtain rfl := g205
     obtain rfl := g206
     obtain rfl := g207
     refine ow_batch [.fa 169 7 9 fa169_7] rfl <| o1 rfl (ry_load1 rfl rfl ty3 (at_bor bor (at_K hA185 9 1))) <| oPP rfl <| oP rfl <| ?_
     obtain rfl := of_some H
     exact OW.sub key (sb rfl)
    ·have H := of_if_t rfl H
     refine ow_batch [.p, .p, .p, .p, .p, .p, .p, .p, .p] rfl ?_
     obtain rfl := of_some H
     exact OW.sub key (sb rfl)
  ·exact c_exit <| x_qs_exit <| x_ql_exit <| x_qb_here <| x_qs <| sR <| oPP rfl <| nT <| xr 2 rfl (by cases H; exact q1)
theorem spec_UnitsOf_ok (w : World) {p0 : Timpl_Node} {cs0 : List Value} {r : Int} (H : spec_UnitsOf p0 = some r)  (g0 : (eTimpl_Node).rd w [] p0 cs0) :
    Calls Tryz.prog 161 #[.agg cs0.toArray] w (fun en w' => en = .returned (.int .i64 r) ∧ Ext [] w w') := by
 obtain ⟨c10, c11, c12, c13, c14, c15, c16, c17, c18, c19, rfl, g20, g21, g22, g23, g24, g25, g26, g27, g28, g29⟩ := rdo_Timpl_Node g0
 obtain rfl := g20
 obtain rfl := g21
 obtain ⟨a30, c31, rfl⟩ := rd_sl1 g22
 obtain rfl := g23
 obtain ⟨c32, c33, rfl, g34, g35⟩ := rdo_Timpl_Stats g24
 obtain ⟨a36, c37, rfl⟩ := rd_sl1 g34
 obtain ⟨a38, c39, rfl⟩ := rd_sl1 g35
 obtain rfl := g25
 obtain ⟨a40, c41, rfl⟩ := rd_sl1 g26
 obtain rfl := g27
 obtain rfl := g28
 obtain rfl := g29
 unfold spec_UnitsOf at H
 refine f_enter Tryz.func161 rfl Tryz.ntmps161 rfl (St.init w []) <| sR <| ob _ rfl fun b42 => oP rfl <| nQ <| c_seq <| sR <| ow_batch [.fa 169 0 0 fa169_0] rfl <| o1 rfl (r1 0 0 rfl ty4 rfl) <| oP rfl <| nQ <| cI H rfl (fun H => ?_) (fun H => ?_)
 ·exact sR <| oP rfl <| nT <| x_qs_ret <| xr 2 rfl (by cases H; exact q1)
 ·refine c_skip <| x_qs <| sR <| oP rfl <| nQ <| c_seq <| sR <| oP rfl <| nQ <| c_block <| CW.at (loopI2 (fun (i53 : Int) (i54 : Int) => St w [] [Res.box b42 169 [.bool p0.Leaf_, .int .i64 p0.Fork_.Attr_, .int .i64 p0.Fork_.At_, .slice a30 p0.Kids_.length c31, .int .i64 p0.Miss_, .slice a36 p0.Stats_.Totals_.length c37, .slice a38 p0.Stats_.Cells_.length c39, .int .i64 p0.Since_, .slice a40 p0.Attrs_.length c41, .int .i64 p0.Depth_, .int .i64 p0.Up_, .int .i64 p0.Born_]]) (fun i53 i54 => [(1, .pointer (some ⟨b42, 0, none⟩)), (3, .int .i64 i53), (4, .int .i64 i54)]) (fun kk => fun i53 i54 => spec_UnitsOf_L1 p0 kk i53 i54 = some r) (fun _ _ H => ?_) (fun k1 ihk1 i53 i54 H => ?_) Fuel (2) (0) (H)) (fun _ h => St.sel [0] rfl rfl h) ⟨rfl, rfl, rfl,  trivial⟩
  ·unfold spec_UnitsOf_L1 at H
   exact absurd H (by simp)
  ·unfold spec_UnitsOf_L1 at H
   refine c_seq <| sR <| ow_batch [.p, .fa 169 4 5 fa169_4, .fa 167 1 1 fa167_1] rfl <| o1 rfl (r1 6 0 rfl ty33 rfl) <| ow_batch [.lenS 33 39 sl33, .p] rfl <| nQ <| cI H rfl (fun H => ?_) (fun H => ?_)
   ·refine c_skip <| x_qs <| c_seq <| c_block <| c_reg <| ow_batch [.p, .fa 169 4 5 fa169_4, .fa 167 1 1 fa167_1] rfl <| o1 rfl (r1 6 0 rfl ty33 rfl) <| oP rfl <| bE H fun e66 h67 H => ow_ixB rfl rfl rfl rfl rfl sl33 ty39 rfl g35 h67 fun q70 c71 hd68 hA69 => ?_
    obtain ⟨a72, c73, rfl⟩ := rd_sl1 hd68
    exact o1 rfl (ry_load1 rfl rfl ty39 (at_bor bor hA69)) <| ow_batch [.lenS 39 3 sl39, .p, .p] rfl <| ow_nil <| x_qb <| x_qs <| c_reg <| ow_batch [.p, .p, .p] rfl <| ow_nil <| x_ql (RW.at (ihk1 (IntKind.i64.wrap (i53 + (e66.length : Int))) (IntKind.i64.wrap (i54 + 1)) (H)) (fun _ h => St.sel [0] rfl rfl h) ⟨rfl, rfl, rfl, trivial⟩)
   ·exact c_exit <| x_qs_exit <| x_ql_exit <| x_qb_here <| x_qs <| sR <| oPP rfl <| nT <| xr 2 rfl (by cases H; exact q1)
theorem spec_TreeUnits_ok (w : World) {p0 : Timpl_Tree} {cs0 : List Value} {r : Int} (H : spec_TreeUnits p0 = some r)  (g0 : (eTimpl_Tree).rd w [] p0 cs0) :
    Calls Tryz.prog 137 #[.agg cs0.toArray] w (fun en w' => en = .returned (.int .i64 r) ∧ Ext [] w w') := by
 obtain ⟨c10, c11, rfl, g12, g13⟩ := rdo_Timpl_Tree g0
 obtain ⟨a14, c15, rfl⟩ := rd_sl1 g12
 obtain rfl := g13
 unfold spec_TreeUnits at H
 refine f_enter Tryz.func137 rfl Tryz.ntmps137 rfl (St.init w []) <| sR <| ob _ rfl fun b16 => oP rfl <| nR <| oP rfl <| nQ <| c_seq <| sR <| oP rfl <| nQ <| c_block <| CW.at (loopI2 (fun (i59 : Int) (i60 : Int) => St w [] [Res.box b16 93 [.slice a14 p0.Nodes_.length c15, .int .i64 p0.Seen_]]) (fun i59 i60 => [(1, .pointer (some ⟨b16, 0, none⟩)), (3, .int .i64 i59), (4, .int .i64 i60)]) (fun kk => fun i59 i60 => spec_TreeUnits_L1 p0 kk i59 i60 = some r) (fun _ _ H => ?_) (fun k1 ihk1 i59 i60 H => ?_) Fuel (0) (0) (H)) (fun _ h => St.sel [0] rfl rfl h) ⟨rfl, rfl, rfl,  trivial⟩
 ·unfold spec_TreeUnits_L1 at H
  exact absurd H (by simp)
 ·unfold spec_TreeUnits_L1 at H
  refine c_seq <| sR <| ow_batch [.p, .fa 93 0 0 fa93_0] rfl <| o1 rfl (r1 0 0 rfl ty91 rfl) <| ow_batch [.lenS 91 169 sl91, .p] rfl <| nQ <| cI H rfl (fun H => ?_) (fun H => ?_)
  ·refine c_skip <| x_qs <| c_seq <| c_block <| c_reg <| ow_batch [.p, .fa 93 0 0 fa93_0] rfl <| o1 rfl (r1 0 0 rfl ty91 rfl) <| oP rfl <| bE H fun e103 h104 H => ow_ixB rfl rfl rfl rfl rfl sl91 ty169 rfl g12 h104 fun q107 c108 hd105 hA106 => ?_
   obtain ⟨c109, c110, c111, c112, c113, c114, c115, c116, c117, c118, rfl, g119, g120, g121, g122, g123, g124, g125, g126, g127, g128⟩ := rdo_Timpl_Node hd105
   obtain rfl := g119
   obtain rfl := g120
   obtain ⟨a129, c130, rfl⟩ := rd_sl1 g121
   obtain rfl := g122
   obtain ⟨c131, c132, rfl, g133, g134⟩ := rdo_Timpl_Stats g123
   obtain ⟨a135, c136, rfl⟩ := rd_sl1 g133
   obtain ⟨a137, c138, rfl⟩ := rd_sl1 g134
   obtain rfl := g124
   obtain ⟨a139, c140, rfl⟩ := rd_sl1 g125
   obtain rfl := g126
   obtain rfl := g127
   obtain rfl := g128
   exact o1 rfl (ry_load (cs := [.bool e103.Leaf_, .int .i64 e103.Fork_.Attr_, .int .i64 e103.Fork_.At_, .slice a129 e103.Kids_.length c130, .int .i64 e103.Miss_, .slice a135 e103.Stats_.Totals_.length c136, .slice a137 e103.Stats_.Cells_.length c138, .int .i64 e103.Since_, .slice a139 e103.Attrs_.length c140, .int .i64 e103.Depth_, .int .i64 e103.Up_, .int .i64 e103.Born_]) rfl rfl ty169 (at_bor bor hA106) rfl) <| bE H fun y141 h142 H => oq rfl (qc rfl fn161 (fun w1 hw1 => spec_UnitsOf_ok w1 h142 (rdm_Timpl_Node rfl rfl (rds_bor g121 w1 hw1) rfl (rdm_Timpl_Stats (rds_bor g133 w1 hw1) (rds_bor g134 w1 hw1)) rfl (rds_bor g125 w1 hw1) rfl rfl rfl))) tt2 <| oPP rfl <| ow_nil <| x_qb <| x_qs <| c_reg <| ow_batch [.p, .p, .p] rfl <| ow_nil <| x_ql (RW.at (ihk1 (IntKind.i64.wrap (i59 + y141)) (IntKind.i64.wrap (i60 + 1)) (H)) (fun _ h => St.sel [0] rfl rfl h) ⟨rfl, rfl, rfl, trivial⟩)
  ·exact c_exit <| x_qs_exit <| x_ql_exit <| x_qb_here <| x_qs <| sR <| oPP rfl <| nT <| xr 2 rfl (by cases H; exact q1)
theorem spec_Fits_ok (w : World) {p0 : Timpl_Schema} {p1 : Timpl_Rule} {p2 : Timpl_Tree} {cs0 : List Value} {cs2 : List Value} {r : Bool} (H : spec_Fits p0 p1 p2 = some r)  (g0 : (eTimpl_Schema).rd w [] p0 cs0) (g2 : (eTimpl_Tree).rd w [] p2 cs2) :
    Calls Tryz.prog 105 #[.agg cs0.toArray, .agg #[.int .i64 p1.Sure_, .int .i64 p1.Tie_, .int .i64 p1.Grace_, .int .i64 p1.Depth_, .int .i64 p1.Nodes_, .int .i64 p1.Units_, .bool p1.Two_], .agg cs2.toArray] w (fun en w' => en = .returned (.bool r) ∧ Ext [] w w') := by
 obtain ⟨c10, c11, rfl, g12, g13⟩ := rdo_Timpl_Schema g0
 obtain ⟨a14, c15, rfl⟩ := rd_sl1 g12
 obtain ⟨a16, c17, rfl⟩ := rd_sl1 g13
 obtain ⟨c18, c19, rfl, g20, g21⟩ := rdo_Timpl_Tree g2
 obtain ⟨a22, c23, rfl⟩ := rd_sl1 g20
 obtain rfl := g21
 unfold spec_Fits at H
 refine f_enter Tryz.func105 rfl Tryz.ntmps105 rfl (St.init w []) <| sR <| ob _ rfl fun b24 => ob _ rfl fun b25 => ob _ rfl fun b26 => oP rfl <| nQ <| c_seq <| c_regQ mixed (by kernel_rfl) <| o1 rfl (rx 0 0 _ rfl ty48 rfl) <| o1 rfl (rx 0 2 _ rfl ty93 rfl) <| bE H fun y27 h28 H => oq rfl (qc rfl fn135 (fun w1 hw1 => spec_TreeOk_ok w1 h28 (rdm_Timpl_Schema (rds_bor g12 w1 hw1) (rds_bor g13 w1 hw1)) (rdm_Timpl_Tree (rds_bor g20 w1 hw1) rfl))) tt2 <| oP rfl <| bE H fun u29 hu33 H => ow_cut [(13, .bool u29), (4, .pointer (some ⟨b25, 0, none⟩)), (5, .pointer (some ⟨b26, 0, none⟩)), (6, .bool false)] 3 ?_ (fun key => OW.sub (R := [(4, .pointer (some ⟨b25, 0, none⟩)), (5, .pointer (some ⟨b26, 0, none⟩)), (6, .bool false), (10, .bool y27)]) ?_ (sb rfl))
 ·refine oP rfl <| ow_cut [(21, .bool (u29 && (decide ((p2.Nodes_.length : Int) ≤ p1.Nodes_)))), (4, .pointer (some ⟨b25, 0, none⟩)), (5, .pointer (some ⟨b26, 0, none⟩)), (6, .bool false)] 7 ?_ (fun key => OW.sub (R := [(4, .pointer (some ⟨b25, 0, none⟩)), (5, .pointer (some ⟨b26, 0, none⟩)), (6, .bool false), (14, .bool u29)]) ?_ (sb rfl))
  ·refine oP rfl <| bE H fun u36 hu40 H => ow_cut [(28, .bool u36), (4, .pointer (some ⟨b25, 0, none⟩)), (5, .pointer (some ⟨b26, 0, none⟩)), (6, .bool false)] 6 ?_ (fun key => OW.sub (R := [(4, .pointer (some ⟨b25, 0, none⟩)), (5, .pointer (some ⟨b26, 0, none⟩)), (6, .bool false), (22, .bool (u29 && (decide ((p2.Nodes_.length : Int) ≤ p1.Nodes_))))]) ?_ (sb rfl))
   ·refine oP rfl <| bE H fun u41 hu45 H => ow_cut [(35, .bool u41), (6, .bool false)] 6 ?_ (fun key => OW.sub (R := [(4, .pointer (some ⟨b25, 0, none⟩)), (5, .pointer (some ⟨b26, 0, none⟩)), (6, .bool false), (29, .bool u36)]) ?_ (sb rfl))
    ·exact oP rfl <| ow_nilQ <| x_qs <| c_ret <| xr 6 rfl (by cases H; exact q1)
    ·clear H
     have H := hu45
     clear hu45
     generalize u36 = t44 at H key ⊢
     cases t44
     ·have H := of_if_f rfl H
      refine ow_batch [.p, .p, .p, .p, .p, .p] rfl ?_
      obtain rfl := of_some H
      exact OW.sub key (sb rfl)
     ·have H := of_if_t rfl H
      refine o1 rfl (rx 0 2 _ rfl ty93 rfl) <| bE H fun y42 h43 H => oq rfl (qc rfl fn137 (fun w1 hw1 => spec_TreeUnits_ok w1 h43 (rdm_Timpl_Tree (rds_bor g20 w1 hw1) rfl))) tt2 <| ow_batch [.fa 49 5 5 fa49_5] rfl <| o1 rfl (r1 5 1 rfl ty3 rfl) <| oP rfl <| oP rfl <| ?_
      obtain rfl := of_some H
      exact OW.sub key (sb rfl)
   ·clear H
    have H := hu40
    clear hu40
    generalize (u29 && (decide ((p2.Nodes_.length : Int) ≤ p1.Nodes_))) = t39 at H key ⊢
    cases t39
    ·have H := of_if_f rfl H
     refine ow_batch [.p, .p, .p, .p, .p, .p] rfl ?_
     obtain rfl := of_some H
     exact OW.sub key (sb rfl)
    ·have H := of_if_t rfl H
     refine o1 rfl (rx 0 2 _ rfl ty93 rfl) <| bE H fun y37 h38 H => oq rfl (qc rfl fn136 (fun w1 hw1 => spec_DepthOf_ok w1 h38 (rdm_Timpl_Tree (rds_bor g20 w1 hw1) rfl))) tt2 <| ow_batch [.fa 49 3 3 fa49_3] rfl <| o1 rfl (r1 3 1 rfl ty3 rfl) <| oP rfl <| oP rfl <| ?_
     obtain rfl := of_some H
     exact OW.sub key (sb rfl)
  ·generalize u29 = t35 at key ⊢
   cases t35
   ·exact ow_batch [.p, .p, .p, .p, .p, .p, .p] rfl <| OW.sub key (sb rfl)
   ·exact ow_batch [.fa 93 0 0 fa93_0] rfl <| o1 rfl (r1 0 2 rfl ty91 rfl) <| ow_batch [.lenS 91 169 sl91, .fa 49 4 4 fa49_4] rfl <| o1 rfl (r1 4 1 rfl ty3 rfl) <| oP rfl <| oP rfl <| OW.sub key (sb rfl)
 ·clear H
  have H := hu33
  clear hu33
  generalize y27 = t32 at H key ⊢
  cases t32
  ·have H := of_if_f rfl H
   refine ow_batch [.p, .p, .p] rfl ?_
   obtain rfl := of_some H
   exact OW.sub key (sb rfl)
  ·have H := of_if_t rfl H
   refine o1 rfl (rx 0 1 _ rfl ty49 rfl) <| bE H fun y30 h31 H => oq rfl (qc rfl fn103 (fun w1 hw1 => spec_RuleOk_ok w1 (p0 := p1) h31)) tt2 <| oP rfl <| ?_
   obtain rfl := of_some H
   exact OW.sub key (sb rfl)
theorem spec_l16Power_ok (w : World) {p0 : Int}  {r : Int} (H : spec_l16Power p0 = some r)   :
    Calls Tryz.prog 142 #[.int .i64 p0] w (fun en w' => en = .returned (.int .i64 r) ∧ Ext [] w w') := by
 unfold spec_l16Power at H
 refine f_enter Tryz.func142 rfl Tryz.ntmps142 rfl (St.init w []) <| sR <| oP rfl <| nR <| oP rfl <| nQ <| c_seq <| sR <| oP rfl <| nQ <| c_block <| CW.at (loopI2 (fun (i12 : Int) (i13 : Int) => St w [] []) (fun i12 i13 => [(0, .int .i64 p0), (3, .int .i64 i12), (4, .int .i64 i13)]) (fun kk => fun i12 i13 => spec_l16Power_L1 p0 kk i12 i13 = some r) (fun _ _ H => ?_) (fun k1 ihk1 i12 i13 H => ?_) Fuel (1) (0) (H)) (fun _ h => St.sel [] rfl rfl h) ⟨rfl, rfl, rfl,  trivial⟩
 ·unfold spec_l16Power_L1 at H
  exact absurd H (by simp)
 ·unfold spec_l16Power_L1 at H
  refine c_seq <| sR <| ow_batch [.p, .p, .p] rfl <| nQ <| cI H rfl (fun H => ?_) (fun H => ?_)
  ·exact c_skip <| x_qs <| c_seq <| c_block <| c_reg <| ow_batch [.p, .p, .p] rfl <| ow_nil <| x_qb <| x_qs <| c_reg <| ow_batch [.p, .p, .p] rfl <| ow_nil <| x_ql (RW.at (ihk1 (IntKind.i64.wrap (i12 * 2)) (IntKind.i64.wrap (i13 + 1)) (H)) (fun _ h => St.sel [] rfl rfl h) ⟨rfl, rfl, rfl, trivial⟩)
  ·exact c_exit <| x_qs_exit <| x_ql_exit <| x_qb_here <| x_qs <| sR <| oPP rfl <| nT <| xr 2 rfl (by cases H; exact q1)
theorem spec_WindowOk_ok (w : World) {p0 : Timpl_Window} {cs0 : List Value} {r : Bool} (H : spec_WindowOk p0 = some r)  (g0 : (eTimpl_Window).rd w [] p0 cs0) :
    Calls Tryz.prog 138 #[.agg cs0.toArray] w (fun en w' => en = .returned (.bool r) ∧ Ext [] w w') := by
 obtain ⟨c10, rfl, g11⟩ := rdo_Timpl_Window g0
 obtain ⟨a12, c13, rfl⟩ := rd_sl1 g11
 unfold spec_WindowOk at H
 refine f_enter Tryz.func138 rfl Tryz.ntmps138 rfl (St.init w []) <| sR <| ob _ rfl fun b14 => oP rfl <| nQ <| c_seq <| sR <| ow_batch [.fa 95 0 0 fa95_0] rfl <| o1 rfl (r1 0 0 rfl ty33 rfl) <| ow_batch [.lenS 33 39 sl33, .p] rfl <| nQ <| cI H rfl (fun H => ?_) (fun H => ?_)
 ·exact sR <| oP rfl <| nT <| x_qs_ret <| xr 2 rfl (by cases H; exact q1)
 ·refine c_skip <| x_qs <| c_seq <| sR <| oP rfl <| nQ <| c_block <| CW.at (loopI1 (fun (i95 : Int) => St w [] [Res.box b14 95 [.slice a12 p0.Rows_.length c13]]) (fun i95 => [(1, .pointer (some ⟨b14, 0, none⟩)), (3, .int .i64 i95)]) (fun kk => fun i95 => spec_WindowOk_L1 p0 kk i95 = some r) (fun _ H => ?_) (fun k1 ihk1 i95 H => ?_) Fuel (0) (H)) (fun _ h => St.sel [0] rfl rfl h) ⟨rfl, rfl,  trivial⟩
  ·unfold spec_WindowOk_L1 at H
   exact absurd H (by simp)
  ·unfold spec_WindowOk_L1 at H
   refine c_seq <| sR <| ow_batch [.p, .fa 95 0 0 fa95_0] rfl <| o1 rfl (r1 0 0 rfl ty33 rfl) <| ow_batch [.lenS 33 39 sl33, .p] rfl <| nQ <| cI H rfl (fun H => ?_) (fun H => ?_)
   ·refine c_skip <| x_qs <| c_seq <| c_block <| c_seq <| sR <| ow_batch [.fa 95 0 0 fa95_0] rfl <| o1 rfl (r1 0 0 rfl ty33 rfl) <| oP rfl <| bE H fun e176 h177 H => ow_ixB rfl rfl rfl rfl rfl sl33 ty39 rfl g11 h177 fun q180 c181 hd178 hA179 => ?_
    obtain ⟨a182, c183, rfl⟩ := rd_sl1 hd178
    refine o1 rfl (ry_load1 rfl rfl ty39 (at_bor bor hA179)) <| ow_batch [.lenS 39 3 sl39] rfl <| bE H fun y184 h185 H => oq rfl (qc rfl fn69 (fun w1 hw1 => spec_l1In_ok w1  h185)) tt2 <| oP rfl <| nQ <| cI H rfl (fun H => ?_) (fun H => ?_)
    ·exact sR <| oP rfl <| nT <| x_qs_ret <| x_qb_ret <| x_qs_ret <| x_ql_ret <| x_qb_ret <| x_qs_ret <| xr 2 rfl (by cases H; exact q1)
    ·refine c_skip <| x_qs <| sR <| oP rfl <| nQ <| c_block <| CW.at (loopI1 (fun (i209 : Int) => St w [] [Res.box b14 95 [.slice a12 p0.Rows_.length c13]]) (fun i209 => [(1, .pointer (some ⟨b14, 0, none⟩)), (3, .int .i64 i95), (4, .int .i64 i209)]) (fun kk => fun i209 => spec_WindowOk_L2 p0 i95 (spec_WindowOk_L1 p0 k1) kk i209 = some r) (fun _ H => ?_) (fun k2 ihk2 i209 H => ?_) Fuel (0) (H)) (fun _ h => St.sel [0] rfl rfl h) ⟨rfl, rfl, rfl,  trivial⟩
     ·unfold spec_WindowOk_L2 at H
      exact absurd H (by simp)
     ·unfold spec_WindowOk_L2 at H
      refine c_seq <| sR <| ow_batch [.p, .fa 95 0 0 fa95_0] rfl <| o1 rfl (r1 0 0 rfl ty33 rfl) <| oP rfl <| bE H fun e233 h234 H => ow_ixB rfl rfl rfl rfl rfl sl33 ty39 rfl g11 h234 fun q237 c238 hd235 hA236 => ?_
      obtain ⟨a239, c240, rfl⟩ := rd_sl1 hd235
      refine o1 rfl (ry_load1 rfl rfl ty39 (at_bor bor hA236)) <| ow_batch [.lenS 39 3 sl39, .p] rfl <| nQ <| cI H rfl (fun H => ?_) (fun H => ?_)
      ·refine c_skip <| x_qs <| c_seq <| c_block <| c_seq <| c_regQ mixed (by kernel_rfl) <| ow_batch [.fa 95 0 0 fa95_0] rfl <| o1 rfl (r1 0 0 rfl ty33 rfl) <| oP rfl <| bE H fun e241 h242 H => ow_ixB rfl rfl rfl rfl rfl sl33 ty39 rfl g11 h242 fun q245 c246 hd243 hA244 => ?_
       obtain ⟨a247, c248, rfl⟩ := rd_sl1 hd243
       refine o1 rfl (ry_load1 rfl rfl ty39 (at_bor bor hA244)) <| oP rfl <| bE H fun e249 h250 H => ow_ixE (e := eI) (xs := e241) (j := i209) rfl rfl rfl rfl rfl sl39 ty3 rfl (fun w1 hw1 => rds_bor hd243 w1 hw1) h250 (by rw [Nat.mul_one]) <| o1 rfl (ry_load1 rfl rfl ty3 (at_elV (fun w1 hw1 => rds_bor hd243 w1 hw1) h250)) <| oP rfl <| bE H fun y251 h252 H => oq rfl (qc rfl fn142 (fun w1 hw1 => spec_l16Power_ok w1  h252)) tt2 <| bE H fun y253 h254 H => oq rfl (qc rfl fn69 (fun w1 hw1 => spec_l1In_ok w1  h254)) tt2 <| oP rfl <| ow_nilQ <| x_qs <| cI H rfl (fun H => ?_) (fun H => ?_)
       ·exact sR <| oP rfl <| nT <| x_qb_ret <| x_qs_ret <| x_ql_ret <| x_qb_ret <| x_qb_ret <| x_qs_ret <| x_ql_ret <| x_qb_ret <| x_qs_ret <| xr 2 rfl (by cases H; exact q1)
       ·exact c_skip <| x_qb <| x_qs <| c_reg <| ow_batch [.p, .p, .p] rfl <| ow_nil <| x_ql (RW.at (ihk2 (IntKind.i64.wrap (i209 + 1)) (H)) (fun _ h => St.sel [0] rfl rfl h) ⟨rfl, rfl, rfl, trivial⟩)
      ·exact c_exit <| x_qs_exit <| x_ql_exit <| x_qb_here <| x_qb <| x_qs <| c_reg <| ow_batch [.p, .p, .p] rfl <| ow_nil <| x_ql (RW.at (ihk1 (IntKind.i64.wrap (i95 + 1)) (H)) (fun _ h => St.sel [0] rfl rfl h) ⟨rfl, rfl, trivial⟩)
   ·exact c_exit <| x_qs_exit <| x_ql_exit <| x_qb_here <| x_qs <| sR <| oP rfl <| nT <| xr 2 rfl (by cases H; exact q1)
theorem spec_DetOk_ok (w : World) {p0 : Timpl_Det} {cs0 : List Value} {r : Bool} (H : spec_DetOk p0 = some r)  (g0 : (eTimpl_Det).rd w [] p0 cs0) :
    Calls Tryz.prog 106 #[.agg cs0.toArray] w (fun en w' => en = .returned (.bool r) ∧ Ext [] w w') := by
 obtain ⟨c10, c11, rfl, g12, g13⟩ := rdo_Timpl_Det g0
 obtain ⟨c14, rfl, g15⟩ := rdo_Timpl_Window g12
 obtain ⟨a16, c17, rfl⟩ := rd_sl1 g15
 obtain ⟨c18, rfl, g19⟩ := rdo_Timpl_Window g13
 obtain ⟨a20, c21, rfl⟩ := rd_sl1 g19
 unfold spec_DetOk at H
 refine f_enter Tryz.func106 rfl Tryz.ntmps106 rfl (St.init w []) <| sR <| ob _ rfl fun b22 => oP rfl <| nR <| ow_batch [.fa 97 0 0 fa97_0] rfl <| o1 rfl (rx 0 0 _ rfl ty95 rfl) <| bE H fun y23 h24 H => oq rfl (qc rfl fn138 (fun w1 hw1 => spec_WindowOk_ok w1 h24 (rdm_Timpl_Window (rds_bor g15 w1 hw1)))) tt2 <| oP rfl <| bE H fun u25 hu29 H => ow_cut [(10, .bool u25), (2, .bool false)] 4 ?_ (fun key => OW.sub (R := [(1, .pointer (some ⟨b22, 0, none⟩)), (2, .bool false), (6, .bool y23)]) ?_ (sb rfl))
 ·exact oP rfl <| nT <| xr 2 rfl (by cases H; exact q1)
 ·clear H
  have H := hu29
  clear hu29
  generalize y23 = t28 at H key ⊢
  cases t28
  ·have H := of_if_f rfl H
   refine ow_batch [.p, .p, .p, .p] rfl ?_
   obtain rfl := of_some H
   exact OW.sub key (sb rfl)
  ·have H := of_if_t rfl H
   refine ow_batch [.fa 97 1 1 fa97_1] rfl <| o1 rfl (rx 1 0 _ rfl ty95 rfl) <| bE H fun y26 h27 H => oq rfl (qc rfl fn138 (fun w1 hw1 => spec_WindowOk_ok w1 h27 (rdm_Timpl_Window (rds_bor g19 w1 hw1)))) tt2 <| oP rfl <| ?_
   obtain rfl := of_some H
   exact OW.sub key (sb rfl)
theorem spec_MemberOk_ok (w : World) {p0 : Timpl_Conf} {p1 : Timpl_Member} {cs0 : List Value} {cs1 : List Value} {r : Bool} (H : spec_MemberOk p0 p1 = some r)  (g0 : (eTimpl_Conf).rd w [] p0 cs0) (g1 : (eTimpl_Member).rd w [] p1 cs1) :
    Calls Tryz.prog 67 #[.agg cs0.toArray, .agg cs1.toArray] w (fun en w' => en = .returned (.bool r) ∧ Ext [] w w') := by
 obtain ⟨c10, c11, c12, c13, c14, c15, c16, rfl, g17, g18, g19, g20, g21, g22, g23⟩ := rdo_Timpl_Conf g0
 obtain ⟨c24, c25, rfl, g26, g27⟩ := rdo_Timpl_Schema g17
 obtain ⟨a28, c29, rfl⟩ := rd_sl1 g26
 obtain ⟨a30, c31, rfl⟩ := rd_sl1 g27
 obtain rfl := g18
 obtain rfl := g19
 obtain rfl := g20
 obtain rfl := g21
 obtain rfl := g22
 obtain rfl := g23
 obtain ⟨c32, c33, c34, c35, rfl, g36, g37, g38, g39⟩ := rdo_Timpl_Member g1
 obtain ⟨c40, c41, rfl, g42, g43⟩ := rdo_Timpl_Tree g36
 obtain ⟨a44, c45, rfl⟩ := rd_sl1 g42
 obtain rfl := g43
 obtain rfl := g37
 obtain ⟨c46, c47, rfl, g48, g49⟩ := rdo_Timpl_Tree g38
 obtain ⟨a50, c51, rfl⟩ := rd_sl1 g48
 obtain rfl := g49
 obtain ⟨c52, c53, rfl, g54, g55⟩ := rdo_Timpl_Det g39
 obtain ⟨c56, rfl, g57⟩ := rdo_Timpl_Window g54
 obtain ⟨a58, c59, rfl⟩ := rd_sl1 g57
 obtain ⟨c60, rfl, g61⟩ := rdo_Timpl_Window g55
 obtain ⟨a62, c63, rfl⟩ := rd_sl1 g61
 unfold spec_MemberOk at H
 refine f_enter Tryz.func67 rfl Tryz.ntmps67 rfl (St.init w []) <| sR <| ob _ rfl fun b64 => ob _ rfl fun b65 => oP rfl <| nQ <| c_seq <| sR <| o1 rfl (rx 0 0 _ rfl ty51 rfl) <| bE H fun y66 h67 H => oq rfl (qc rfl fn66 (fun w1 hw1 => spec_ConfOk_ok w1 h67 (rdm_Timpl_Conf (rdm_Timpl_Schema (rds_bor g26 w1 hw1) (rds_bor g27 w1 hw1)) rfl rfl rfl rfl rfl rfl))) tt2 <| oPP rfl <| bE H fun u68 hu72 H => ow_cut [(17, .bool u68), (2, .pointer (some ⟨b64, 0, none⟩)), (3, .pointer (some ⟨b65, 0, none⟩))] 9 ?_ (fun key => OW.sub (R := [(2, .pointer (some ⟨b64, 0, none⟩)), (3, .pointer (some ⟨b65, 0, none⟩)), (8, .bool (!y66))]) ?_ (sb rfl))
 ·refine oP rfl <| bE H fun u73 hu77 H => ow_cut [(23, .bool u73), (2, .pointer (some ⟨b64, 0, none⟩)), (3, .pointer (some ⟨b65, 0, none⟩))] 5 ?_ (fun key => OW.sub (R := [(2, .pointer (some ⟨b64, 0, none⟩)), (3, .pointer (some ⟨b65, 0, none⟩)), (18, .bool u68)]) ?_ (sb rfl))
  ·refine nQ <| cI H rfl (fun H => ?_) (fun H => ?_)
   ·exact sR <| oP rfl <| nT <| x_qs_ret <| xr 4 rfl (by cases H; exact q1)
   ·refine c_skip <| x_qs <| c_seq <| sR <| ow_batch [.fa 99 1 2 fa99_1] rfl <| o1 rfl (r1 2 1 rfl ty4 rfl) <| nQ <| cI H rfl (fun H => ?_) (fun H => ?_)
    ·exact sR <| ow_batch [.fa 51 0 0 fa51_0] rfl <| o1 rfl (rx 0 0 _ rfl ty48 rfl) <| ow_batch [.fa 51 1 2 fa51_1] rfl <| o1 rfl (rx 2 0 _ rfl ty49 rfl) <| ow_batch [.fa 99 2 3 fa99_2] rfl <| o1 rfl (rx 3 1 _ rfl ty93 rfl) <| bE H fun y78 h79 H => oq rfl (qc rfl fn105 (fun w1 hw1 => spec_Fits_ok w1 (p1 := p0.Rule_) h79 (rdm_Timpl_Schema (rds_bor g26 w1 hw1) (rds_bor g27 w1 hw1)) (rdm_Timpl_Tree (rds_bor g48 w1 hw1) rfl))) tt2 <| oP rfl <| nT <| x_qs_ret <| xr 4 rfl (by cases H; exact q1)
    ·refine c_skip <| x_qs <| sR <| ow_batch [.fa 99 2 3 fa99_2, .fa 93 0 0 fa93_0] rfl <| o1 rfl (r1 3 1 rfl ty91 rfl) <| ow_batch [.lenS 91 169 sl91, .p, .p] rfl <| ow_cut [(43, .bool (((p1.Young_.Nodes_.length : Int) == 0) && (p1.Young_.Seen_ == 0)))] 5 ?_ (fun key => OW.sub (R := [(3, .pointer (some ⟨b65, 0, none⟩)), (38, .bool ((p1.Young_.Nodes_.length : Int) == 0))]) ?_ (sb rfl))
     ·exact oP rfl <| nT <| xr 4 rfl (by cases H; exact q1)
     ·generalize ((p1.Young_.Nodes_.length : Int) == 0) = t81 at key ⊢
      cases t81
      ·exact ow_batch [.p, .p, .p, .p, .p] rfl <| OW.sub key ⟨rfl, trivial⟩
      ·exact ow_batch [.fa 99 2 3 fa99_2, .fa 93 1 1 fa93_1] rfl <| o1 rfl (r1 4 1 rfl ty3 rfl) <| oP rfl <| oP rfl <| OW.sub key ⟨rfl, trivial⟩
  ·clear H
   have H := hu77
   clear hu77
   generalize u68 = t76 at H key ⊢
   cases t76
   ·have H := of_if_f rfl H
    refine ow_batch [.fa 99 3 5 fa99_3] rfl <| o1 rfl (rx 5 1 _ rfl ty97 rfl) <| bE H fun y74 h75 H => oq rfl (qc rfl fn106 (fun w1 hw1 => spec_DetOk_ok w1 h75 (rdm_Timpl_Det (rdm_Timpl_Window (rds_bor g57 w1 hw1)) (rdm_Timpl_Window (rds_bor g61 w1 hw1))))) tt2 <| oP rfl <| oP rfl <| ?_
    obtain rfl := of_some H
    exact OW.sub key (sb rfl)
   ·have H := of_if_t rfl H
    refine ow_batch [.p, .p, .p, .p, .p] rfl ?_
    obtain rfl := of_some H
    exact OW.sub key (sb rfl)
 ·clear H
  have H := hu72
  clear hu72
  generalize (!y66) = t71 at H key ⊢
  cases t71
  ·have H := of_if_f rfl H
   refine ow_batch [.fa 51 0 0 fa51_0] rfl <| o1 rfl (rx 0 0 _ rfl ty48 rfl) <| ow_batch [.fa 51 1 2 fa51_1] rfl <| o1 rfl (rx 2 0 _ rfl ty49 rfl) <| ow_batch [.fa 99 0 0 fa99_0] rfl <| o1 rfl (rx 0 1 _ rfl ty93 rfl) <| bE H fun y69 h70 H => oq rfl (qc rfl fn105 (fun w1 hw1 => spec_Fits_ok w1 (p1 := p0.Rule_) h70 (rdm_Timpl_Schema (rds_bor g26 w1 hw1) (rds_bor g27 w1 hw1)) (rdm_Timpl_Tree (rds_bor g42 w1 hw1) rfl))) tt2 <| oP rfl <| oP rfl <| ?_
   obtain rfl := of_some H
   exact OW.sub key (sb rfl)
  ·have H := of_if_t rfl H
   refine ow_batch [.p, .p, .p, .p, .p, .p, .p, .p, .p] rfl ?_
   obtain rfl := of_some H
   exact OW.sub key (sb rfl)
theorem spec_ForestOk_ok (w : World) {p0 : Timpl_Conf} {p1 : Timpl_Forest} {cs0 : List Value} {cs1 : List Value} {r : Bool} (H : spec_ForestOk p0 p1 = some r)  (g0 : (eTimpl_Conf).rd w [] p0 cs0) (g1 : (eTimpl_Forest).rd w [] p1 cs1) :
    Calls Tryz.prog 37 #[.agg cs0.toArray, .agg cs1.toArray] w (fun en w' => en = .returned (.bool r) ∧ Ext [] w w') := by
 obtain ⟨c10, c11, c12, c13, c14, c15, c16, rfl, g17, g18, g19, g20, g21, g22, g23⟩ := rdo_Timpl_Conf g0
 obtain ⟨c24, c25, rfl, g26, g27⟩ := rdo_Timpl_Schema g17
 obtain ⟨a28, c29, rfl⟩ := rd_sl1 g26
 obtain ⟨a30, c31, rfl⟩ := rd_sl1 g27
 obtain rfl := g18
 obtain rfl := g19
 obtain rfl := g20
 obtain rfl := g21
 obtain rfl := g22
 obtain rfl := g23
 obtain ⟨c32, rfl, g33⟩ := rdo_Timpl_Forest g1
 obtain ⟨a34, c35, rfl⟩ := rd_sl1 g33
 unfold spec_ForestOk at H
 refine f_enter Tryz.func37 rfl Tryz.ntmps37 rfl (St.init w []) <| sR <| ob _ rfl fun b36 => ob _ rfl fun b37 => oP rfl <| nQ <| c_seq <| sR <| o1 rfl (rx 0 0 _ rfl ty51 rfl) <| bE H fun y38 h39 H => oq rfl (qc rfl fn66 (fun w1 hw1 => spec_ConfOk_ok w1 h39 (rdm_Timpl_Conf (rdm_Timpl_Schema (rds_bor g26 w1 hw1) (rds_bor g27 w1 hw1)) rfl rfl rfl rfl rfl rfl))) tt2 <| oPP rfl <| ow_cut [(16, .bool ((!y38) || ((p1.Members_.length : Int) != p0.Members_))), (2, .pointer (some ⟨b36, 0, none⟩)), (3, .pointer (some ⟨b37, 0, none⟩))] 7 ?_ (fun key => OW.sub (R := [(2, .pointer (some ⟨b36, 0, none⟩)), (3, .pointer (some ⟨b37, 0, none⟩)), (9, .bool (!y38))]) ?_ (sb rfl))
 ·refine nQ <| cI H rfl (fun H => ?_) (fun H => ?_)
  ·exact sR <| oP rfl <| nT <| x_qs_ret <| xr 4 rfl (by cases H; exact q1)
  ·refine c_skip <| x_qs <| c_seq <| sR <| oP rfl <| nQ <| c_block <| CW.at (loopI1 (fun (i83 : Int) => St w [] [Res.box b36 51 [.slice a28 p0.Schema_.Attrs_.length c29, .slice a30 p0.Schema_.Classes_.length c31, .int .i64 p0.Rule_.Sure_, .int .i64 p0.Rule_.Tie_, .int .i64 p0.Rule_.Grace_, .int .i64 p0.Rule_.Depth_, .int .i64 p0.Rule_.Nodes_, .int .i64 p0.Rule_.Units_, .bool p0.Rule_.Two_, .int .i64 p0.Members_, .int .i64 p0.Pick_, .int .i64 p0.Lambda_, .int .i64 p0.Warn_, .int .i64 p0.Drift_], Res.box b37 54 [.slice a34 p1.Members_.length c35]]) (fun i83 => [(2, .pointer (some ⟨b36, 0, none⟩)), (3, .pointer (some ⟨b37, 0, none⟩)), (5, .int .i64 i83)]) (fun kk => fun i83 => spec_ForestOk_L1 p1 p0 kk i83 = some r) (fun _ H => ?_) (fun k1 ihk1 i83 H => ?_) Fuel (0) (H)) (fun _ h => St.sel [0, 1] rfl rfl h) ⟨rfl, rfl, rfl,  trivial⟩
   ·unfold spec_ForestOk_L1 at H
    exact absurd H (by simp)
   ·unfold spec_ForestOk_L1 at H
    refine c_seq <| sR <| ow_batch [.p, .fa 54 0 0 fa54_0] rfl <| o1 rfl (r1 0 1 rfl ty52 rfl) <| ow_batch [.lenS 52 99 sl52, .p] rfl <| nQ <| cI H rfl (fun H => ?_) (fun H => ?_)
    ·refine c_skip <| x_qs <| c_seq <| c_block <| c_seq <| c_regQ mixed (by kernel_rfl) <| o1 rfl (rx 0 0 _ rfl ty51 rfl) <| ow_batch [.fa 54 0 0 fa54_0] rfl <| o1 rfl (r1 0 1 rfl ty52 rfl) <| oP rfl <| bE H fun e125 h126 H => ow_ixB rfl rfl rfl rfl rfl sl52 ty99 rfl g33 h126 fun q129 c130 hd127 hA128 => ?_
     obtain ⟨c131, c132, c133, c134, rfl, g135, g136, g137, g138⟩ := rdo_Timpl_Member hd127
     obtain ⟨c139, c140, rfl, g141, g142⟩ := rdo_Timpl_Tree g135
     obtain ⟨a143, c144, rfl⟩ := rd_sl1 g141
     obtain rfl := g142
     obtain rfl := g136
     obtain ⟨c145, c146, rfl, g147, g148⟩ := rdo_Timpl_Tree g137
     obtain ⟨a149, c150, rfl⟩ := rd_sl1 g147
     obtain rfl := g148
     obtain ⟨c151, c152, rfl, g153, g154⟩ := rdo_Timpl_Det g138
     obtain ⟨c155, rfl, g156⟩ := rdo_Timpl_Window g153
     obtain ⟨a157, c158, rfl⟩ := rd_sl1 g156
     obtain ⟨c159, rfl, g160⟩ := rdo_Timpl_Window g154
     obtain ⟨a161, c162, rfl⟩ := rd_sl1 g160
     refine o1 rfl (ry_load (cs := [.slice a143 e125.Tree_.Nodes_.length c144, .int .i64 e125.Tree_.Seen_, .bool e125.HasYoung_, .slice a149 e125.Young_.Nodes_.length c150, .int .i64 e125.Young_.Seen_, .slice a157 e125.Det_.Warn_.Rows_.length c158, .slice a161 e125.Det_.Drift_.Rows_.length c162]) rfl rfl ty99 (at_bor bor hA128) rfl) <| bE H fun y163 h164 H => oq rfl (qc rfl fn67 (fun w1 hw1 => spec_MemberOk_ok w1 h164 (rdm_Timpl_Conf (rdm_Timpl_Schema (rds_bor g26 w1 hw1) (rds_bor g27 w1 hw1)) rfl rfl rfl rfl rfl rfl) (rdm_Timpl_Member (rdm_Timpl_Tree (rds_bor g141 w1 hw1) rfl) rfl (rdm_Timpl_Tree (rds_bor g147 w1 hw1) rfl) (rdm_Timpl_Det (rdm_Timpl_Window (rds_bor g156 w1 hw1)) (rdm_Timpl_Window (rds_bor g160 w1 hw1)))))) tt2 <| oP rfl <| ow_nilQ <| x_qs <| cI H rfl (fun H => ?_) (fun H => ?_)
     ·exact sR <| oP rfl <| nT <| x_qb_ret <| x_qs_ret <| x_ql_ret <| x_qb_ret <| x_qs_ret <| xr 4 rfl (by cases H; exact q1)
     ·exact c_skip <| x_qb <| x_qs <| c_reg <| ow_batch [.p, .p, .p] rfl <| ow_nil <| x_ql (RW.at (ihk1 (IntKind.i64.wrap (i83 + 1)) (H)) (fun _ h => St.sel [0, 1] rfl rfl h) ⟨rfl, rfl, rfl, trivial⟩)
    ·exact c_exit <| x_qs_exit <| x_ql_exit <| x_qb_here <| x_qs <| sR <| oP rfl <| nT <| xr 4 rfl (by cases H; exact q1)
 ·generalize (!y38) = t41 at key ⊢
  cases t41
  ·exact ow_batch [.fa 54 0 0 fa54_0] rfl <| o1 rfl (r1 0 1 rfl ty52 rfl) <| ow_batch [.lenS 52 99 sl52, .fa 51 2 9 fa51_2] rfl <| o1 rfl (r1 9 0 rfl ty3 rfl) <| oP rfl <| oP rfl <| OW.sub key (sb rfl)
  ·exact ow_batch [.p, .p, .p, .p, .p, .p, .p] rfl <| OW.sub key (sb rfl)
theorem spec_ExOk_ok (w : World) {p0 : Timpl_Schema} {p1 : Timpl_Ex} {cs0 : List Value} {cs1 : List Value} {r : Bool} (H : spec_ExOk p0 p1 = some r)  (g0 : (eTimpl_Schema).rd w [] p0 cs0) (g1 : (eTimpl_Ex).rd w [] p1 cs1) :
    Calls Tryz.prog 38 #[.agg cs0.toArray, .agg cs1.toArray] w (fun en w' => en = .returned (.bool r) ∧ Ext [] w w') := by
 obtain ⟨c10, c11, rfl, g12, g13⟩ := rdo_Timpl_Schema g0
 obtain ⟨a14, c15, rfl⟩ := rd_sl1 g12
 obtain ⟨a16, c17, rfl⟩ := rd_sl1 g13
 obtain ⟨c18, c19, rfl, g20, g21⟩ := rdo_Timpl_Ex g1
 obtain ⟨a22, c23, rfl⟩ := rd_sl1 g20
 obtain rfl := g21
 unfold spec_ExOk at H
 refine f_enter Tryz.func38 rfl Tryz.ntmps38 rfl (St.init w []) <| sR <| ob _ rfl fun b24 => ob _ rfl fun b25 => oP rfl <| nQ <| c_seq <| sR <| o1 rfl (rx 0 0 _ rfl ty48 rfl) <| bE H fun y26 h27 H => oq rfl (qc rfl fn68 (fun w1 hw1 => spec_SchemaOk_ok w1 h27 (rdm_Timpl_Schema (rds_bor g12 w1 hw1) (rds_bor g13 w1 hw1)))) tt2 <| oPP rfl <| ow_cut [(17, .bool ((!y26) || ((p1.Bins_.length : Int) != (p0.Attrs_.length : Int)))), (2, .pointer (some ⟨b24, 0, none⟩)), (3, .pointer (some ⟨b25, 0, none⟩))] 8 ?_ (fun key => OW.sub (R := [(2, .pointer (some ⟨b24, 0, none⟩)), (3, .pointer (some ⟨b25, 0, none⟩)), (9, .bool (!y26))]) ?_ (sb rfl))
 ·refine oP rfl <| bE H fun u30 hu34 H => ow_cut [(27, .bool u30), (2, .pointer (some ⟨b24, 0, none⟩)), (3, .pointer (some ⟨b25, 0, none⟩))] 9 ?_ (fun key => OW.sub (R := [(2, .pointer (some ⟨b24, 0, none⟩)), (3, .pointer (some ⟨b25, 0, none⟩)), (18, .bool ((!y26) || ((p1.Bins_.length : Int) != (p0.Attrs_.length : Int))))]) ?_ (sb rfl))
  ·refine nQ <| cI H rfl (fun H => ?_) (fun H => ?_)
   ·exact sR <| oP rfl <| nT <| x_qs_ret <| xr 4 rfl (by cases H; exact q1)
   ·refine c_skip <| x_qs <| c_seq <| sR <| oP rfl <| nQ <| c_block <| CW.at (loopI1 (fun (i58 : Int) => St w [] [Res.box b24 48 [.slice a14 p0.Attrs_.length c15, .slice a16 p0.Classes_.length c17], Res.box b25 61 [.slice a22 p1.Bins_.length c23, .int .i64 p1.Class_]]) (fun i58 => [(2, .pointer (some ⟨b24, 0, none⟩)), (3, .pointer (some ⟨b25, 0, none⟩)), (5, .int .i64 i58)]) (fun kk => fun i58 => spec_ExOk_L1 p1 p0 kk i58 = some r) (fun _ H => ?_) (fun k1 ihk1 i58 H => ?_) Fuel (0) (H)) (fun _ h => St.sel [0, 1] rfl rfl h) ⟨rfl, rfl, rfl,  trivial⟩
    ·unfold spec_ExOk_L1 at H
     exact absurd H (by simp)
    ·unfold spec_ExOk_L1 at H
     refine c_seq <| sR <| ow_batch [.p, .fa 61 0 0 fa61_0] rfl <| o1 rfl (r1 0 1 rfl ty39 rfl) <| ow_batch [.lenS 39 3 sl39, .p] rfl <| nQ <| cI H rfl (fun H => ?_) (fun H => ?_)
     ·refine c_skip <| x_qs <| c_seq <| c_block <| c_seq <| c_regQ mixed (by kernel_rfl) <| ow_batch [.fa 61 0 0 fa61_0] rfl <| o1 rfl (r1 0 1 rfl ty39 rfl) <| oP rfl <| bE H fun e82 h83 H => ow_ixE (e := eI) (xs := p1.Bins_) (j := i58) rfl rfl rfl rfl rfl sl39 ty3 rfl (fun w1 hw1 => rds_bor g20 w1 hw1) h83 (by rw [Nat.mul_one]) <| o1 rfl (ry_load1 rfl rfl ty3 (at_elV (fun w1 hw1 => rds_bor g20 w1 hw1) h83)) <| ow_batch [.fa 48 0 0 fa48_0] rfl <| o1 rfl (r1 0 0 rfl ty46 rfl) <| oP rfl <| bE H fun e84 h85 H => ow_ixB rfl rfl rfl rfl rfl sl46 ty133 rfl g12 h85 fun q88 c89 hd86 hA87 => ?_
      obtain ⟨c90, c91, c92, rfl, g93, g94, g95⟩ := rdo_Timpl_Attr hd86
      obtain rfl := g93
      obtain ⟨a96, c97, rfl⟩ := rd_sl1 g94
      obtain ⟨a98, c99, rfl⟩ := rd_sl1 g95
      refine o1 rfl (ry_load (cs := [vS e84.Name_, .slice a96 e84.Cuts_.length c97, .slice a98 e84.Values_.length c99]) rfl rfl ty133 (at_bor bor hA87) rfl) <| bE H fun y100 h101 H => oq rfl (qc rfl fn70 (fun w1 hw1 => spec_Bins_ok w1 h101 (rdm_Timpl_Attr rfl (rds_bor g94 w1 hw1) (rds_bor g95 w1 hw1)))) tt2 <| oP rfl <| bE H fun y102 h103 H => oq rfl (qc rfl fn69 (fun w1 hw1 => spec_l1In_ok w1  h103)) tt2 <| oP rfl <| ow_nilQ <| x_qs <| cI H rfl (fun H => ?_) (fun H => ?_)
      ·exact sR <| oP rfl <| nT <| x_qb_ret <| x_qs_ret <| x_ql_ret <| x_qb_ret <| x_qs_ret <| xr 4 rfl (by cases H; exact q1)
      ·exact c_skip <| x_qb <| x_qs <| c_reg <| ow_batch [.p, .p, .p] rfl <| ow_nil <| x_ql (RW.at (ihk1 (IntKind.i64.wrap (i58 + 1)) (H)) (fun _ h => St.sel [0, 1] rfl rfl h) ⟨rfl, rfl, rfl, trivial⟩)
     ·exact c_exit <| x_qs_exit <| x_ql_exit <| x_qb_here <| x_qs <| sR <| oP rfl <| nT <| xr 4 rfl (by cases H; exact q1)
  ·clear H
   have H := hu34
   clear hu34
   generalize ((!y26) || ((p1.Bins_.length : Int) != (p0.Attrs_.length : Int))) = t33 at H key ⊢
   cases t33
   ·have H := of_if_f rfl H
    refine ow_batch [.fa 61 1 1 fa61_1] rfl <| o1 rfl (r1 1 1 rfl ty3 rfl) <| ow_batch [.fa 48 1 1 fa48_1] rfl <| o1 rfl (r1 1 0 rfl ty23 rfl) <| ow_batch [.lenS 23 9 sl23, .p] rfl <| bE H fun y31 h32 H => oq rfl (qc rfl fn69 (fun w1 hw1 => spec_l1In_ok w1  h32)) tt2 <| oP rfl <| oP rfl <| ?_
    obtain rfl := of_some H
    exact OW.sub key (sb rfl)
   ·have H := of_if_t rfl H
    refine ow_batch [.p, .p, .p, .p, .p, .p, .p, .p, .p] rfl ?_
    obtain rfl := of_some H
    exact OW.sub key (sb rfl)
 ·generalize (!y26) = t29 at key ⊢
  cases t29
  ·exact ow_batch [.fa 61 0 0 fa61_0] rfl <| o1 rfl (r1 0 1 rfl ty39 rfl) <| ow_batch [.lenS 39 3 sl39, .fa 48 0 0 fa48_0] rfl <| o1 rfl (r1 0 0 rfl ty46 rfl) <| ow_batch [.lenS 46 133 sl46, .p] rfl <| oP rfl <| OW.sub key (sb rfl)
  ·exact ow_batch [.p, .p, .p, .p, .p, .p, .p, .p] rfl <| OW.sub key (sb rfl)
theorem spec_l1Bit_ok (w : World) {p0 : Bool}  {r : Int} (H : spec_l1Bit p0 = some r)   :
    Calls Tryz.prog 181 #[.bool p0] w (fun en w' => en = .returned (.int .i64 r) ∧ Ext [] w w') := by
 unfold spec_l1Bit at H
 refine f_enter Tryz.func181 rfl Tryz.ntmps181 rfl (St.init w []) <| sR <| oP rfl <| nQ <| c_seq <| sR <| oP rfl <| nQ <| cI H rfl (fun H => ?_) (fun H => ?_)
 ·exact sR <| oP rfl <| nT <| x_qs_ret <| xr 2 rfl (by cases H; exact q1)
 ·exact c_skip <| x_qs <| sR <| oP rfl <| nT <| xr 2 rfl (by cases H; exact q1)
theorem spec_BranchOf_ok (w : World) {p0 : Timpl_Schema} {p1 : Timpl_Fork} {p2 : Int} {cs0 : List Value} {r : Int} (H : spec_BranchOf p0 p1 p2 = some r)  (g0 : (eTimpl_Schema).rd w [] p0 cs0) :
    Calls Tryz.prog 162 #[.agg cs0.toArray, .agg #[.int .i64 p1.Attr_, .int .i64 p1.At_], .int .i64 p2] w (fun en w' => en = .returned (.int .i64 r) ∧ Ext [] w w') := by
 obtain ⟨c10, c11, rfl, g12, g13⟩ := rdo_Timpl_Schema g0
 obtain ⟨a14, c15, rfl⟩ := rd_sl1 g12
 obtain ⟨a16, c17, rfl⟩ := rd_sl1 g13
 unfold spec_BranchOf at H
 refine f_enter Tryz.func162 rfl Tryz.ntmps162 rfl (St.init w []) <| sR <| ob _ rfl fun b18 => ob _ rfl fun b19 => oP rfl <| nQ <| c_seq <| sR <| o1 rfl (rx 0 0 _ rfl ty48 rfl) <| o1 rfl (rx 0 1 _ rfl ty165 rfl) <| bE H fun y20 h21 H => oq rfl (qc rfl fn179 (fun w1 hw1 => spec_ForkOk_ok w1 (p1 := p1) h21 (rdm_Timpl_Schema (rds_bor g12 w1 hw1) (rds_bor g13 w1 hw1)))) tt2 <| oPP rfl <| bE H fun u22 hu44 H => ow_cut [(23, .bool u22), (2, .int .i64 p2), (3, .pointer (some ⟨b18, 0, none⟩)), (4, .pointer (some ⟨b19, 0, none⟩))] 12 ?_ (fun key => OW.sub (R := [(2, .int .i64 p2), (3, .pointer (some ⟨b18, 0, none⟩)), (4, .pointer (some ⟨b19, 0, none⟩)), (11, .bool (!y20))]) ?_ (sb rfl))
 ·refine nQ <| cI H rfl (fun H => ?_) (fun H => ?_)
  ·exact sR <| oP rfl <| nT <| x_qs_ret <| xr 6 rfl (by cases H; exact q1)
  ·refine c_skip <| x_qs <| c_seq <| sR <| ow_batch [.fa 165 1 1 fa165_1] rfl <| o1 rfl (r1 1 1 rfl ty3 rfl) <| oP rfl <| nQ <| cI H rfl (fun H => ?_) (fun H => ?_)
   ·exact sR <| oPP rfl <| nT <| x_qs_ret <| xr 6 rfl (by cases H; exact q1)
   ·refine c_skip <| x_qs <| c_seq <| sR <| ow_batch [.fa 48 0 0 fa48_0] rfl <| o1 rfl (r1 0 0 rfl ty46 rfl) <| ow_batch [.fa 165 0 0 fa165_0] rfl <| o1 rfl (r1 0 1 rfl ty3 rfl) <| bE H fun e45 h46 H => ow_ixB rfl rfl rfl rfl rfl sl46 ty133 rfl g12 h46 fun q49 c50 hd47 hA48 => ?_
    obtain ⟨c51, c52, c53, rfl, g54, g55, g56⟩ := rdo_Timpl_Attr hd47
    obtain rfl := g54
    obtain ⟨a57, c58, rfl⟩ := rd_sl1 g55
    obtain ⟨a59, c60, rfl⟩ := rd_sl1 g56
    refine ow_batch [.fa 133 1 1 fa133_1] rfl <| o1 rfl (ry_load1 rfl rfl ty39 (at_bor bor (at_K hA48 1 1))) <| ow_batch [.lenS 39 3 sl39, .p] rfl <| nQ <| cI H rfl (fun H => ?_) (fun H => ?_)
    ·exact sR <| ow_batch [.p, .fa 165 1 1 fa165_1] rfl <| o1 rfl (r1 1 1 rfl ty3 rfl) <| oP rfl <| bE H fun y61 h62 H => oq rfl (qc rfl fn181 (fun w1 hw1 => spec_l1Bit_ok w1  h62)) tt2 <| oP rfl <| nT <| x_qs_ret <| xr 6 rfl (by cases H; exact q1)
    ·exact c_skip <| x_qs <| sR <| ow_batch [.p, .fa 165 1 1 fa165_1] rfl <| o1 rfl (r1 1 1 rfl ty3 rfl) <| oP rfl <| bE H fun y63 h64 H => oq rfl (qc rfl fn181 (fun w1 hw1 => spec_l1Bit_ok w1  h64)) tt2 <| oP rfl <| nT <| xr 6 rfl (by cases H; exact q1)
 ·clear H
  have H := hu44
  clear hu44
  generalize (!y20) = t43 at H key ⊢
  cases t43
  ·have H := of_if_f rfl H
   refine ow_batch [.p, .fa 48 0 0 fa48_0] rfl <| o1 rfl (r1 0 0 rfl ty46 rfl) <| ow_batch [.fa 165 0 0 fa165_0] rfl <| o1 rfl (r1 0 1 rfl ty3 rfl) <| bE H fun e23 h24 H => ow_ixB rfl rfl rfl rfl rfl sl46 ty133 rfl g12 h24 fun q27 c28 hd25 hA26 => ?_
   obtain ⟨c29, c30, c31, rfl, g32, g33, g34⟩ := rdo_Timpl_Attr hd25
   obtain rfl := g32
   obtain ⟨a35, c36, rfl⟩ := rd_sl1 g33
   obtain ⟨a37, c38, rfl⟩ := rd_sl1 g34
   refine o1 rfl (ry_load (cs := [vS e23.Name_, .slice a35 e23.Cuts_.length c36, .slice a37 e23.Values_.length c38]) rfl rfl ty133 (at_bor bor hA26) rfl) <| bE H fun y39 h40 H => oq rfl (qc rfl fn70 (fun w1 hw1 => spec_Bins_ok w1 h40 (rdm_Timpl_Attr rfl (rds_bor g33 w1 hw1) (rds_bor g34 w1 hw1)))) tt2 <| oP rfl <| bE H fun y41 h42 H => oq rfl (qc rfl fn69 (fun w1 hw1 => spec_l1In_ok w1  h42)) tt2 <| oP rfl <| oP rfl <| ?_
   obtain rfl := of_some H
   exact OW.sub key (sb rfl)
  ·have H := of_if_t rfl H
   refine ow_batch [.p, .p, .p, .p, .p, .p, .p, .p, .p, .p, .p, .p] rfl ?_
   obtain rfl := of_some H
   exact OW.sub key (sb rfl)
theorem spec_l19Walk_ok (w : World) {M0 : List Nat} {p0 : Timpl_Schema} {p1 : Timpl_Tree} {p2 : Timpl_Ex} {cs0 : List Value} {cs1 : List Value} {cs2 : List Value} {r : List Int} (H : spec_l19Walk p0 p1 p2 = some r) (HS : St w M0 [] w) (g0 : (eTimpl_Schema).rd w M0 p0 cs0) (g1 : (eTimpl_Tree).rd w M0 p1 cs1) (g2 : (eTimpl_Ex).rd w M0 p2 cs2) :
    Calls Tryz.prog 140 #[.agg cs0.toArray, .agg cs1.toArray, .agg cs2.toArray] w (fun en w' => ∃ v, en = .returned v ∧ ∃ (a0 : Option Addr), ∃ (n0 : Nat), ∃ (c0 : Nat), ∃ (F0 : List Nat), v = .slice a0 n0 c0 ∧ St w M0 [Res.own (eList eI 3) F0 r [.slice a0 n0 c0]] w') := by
 obtain ⟨c10, c11, rfl, g12, g13⟩ := rdo_Timpl_Schema g0
 obtain ⟨a14, c15, rfl⟩ := rd_sl1 g12
 obtain ⟨a16, c17, rfl⟩ := rd_sl1 g13
 obtain ⟨c18, c19, rfl, g20, g21⟩ := rdo_Timpl_Tree g1
 obtain ⟨a22, c23, rfl⟩ := rd_sl1 g20
 obtain rfl := g21
 obtain ⟨c24, c25, rfl, g26, g27⟩ := rdo_Timpl_Ex g2
 obtain ⟨a28, c29, rfl⟩ := rd_sl1 g26
 obtain rfl := g27
 unfold spec_l19Walk at H
 refine f_enter Tryz.func140 rfl Tryz.ntmps140 rfl (HS) <| sR <| ob _ rfl fun b30 => ob _ rfl fun b31 => ob _ rfl fun b32 => oP rfl <| nR <| ow_blit0 (e := eI) rfl rfl rfl rfl sl39 ty3 (fun _ => kp) fun b33 => oP rfl <| nR <| oP rfl <| nQ <| c_seq <| c_block <| CW.at (loopI5 (fun (l134 : List Int) (a135 : Option Addr) (c136 : Nat) (F137 : List Nat) (i139 : Int) => St w M0 [Res.box b30 48 [.slice a14 p0.Attrs_.length c15, .slice a16 p0.Classes_.length c17], Res.box b31 93 [.slice a22 p1.Nodes_.length c23, .int .i64 p1.Seen_], Res.box b32 61 [.slice a28 p2.Bins_.length c29, .int .i64 p2.Class_], Res.own (eList eI 3) F137 l134 [.slice a135 l134.length c136]]) (fun l134 a135 c136 F137 i139 => [(3, .pointer (some ⟨b30, 0, none⟩)), (4, .pointer (some ⟨b31, 0, none⟩)), (5, .pointer (some ⟨b32, 0, none⟩)), (7, .slice a135 l134.length c136), (8, .int .i64 i139)]) (fun kk => fun l134 a135 c136 F137 i139 => a135.isNone = false ∧ spec_l19Walk_L1 p1 p2 p0 kk l134 i139 = some r) (fun _ _ _ _ _ H => ?_) (fun k1 ihk1 l134 a135 c136 F137 i139 ⟨hz138, H⟩ => ?_) Fuel (([] : List Int)) ((some ⟨b33, 0, none⟩)) (0) ([b33]) (0) (⟨rfl, H⟩)) (fun _ h => St.sel [0, 1, 2, 3] rfl rfl h) ⟨rfl, rfl, rfl, rfl, rfl,  trivial⟩
 ·unfold spec_l19Walk_L1 at H
  exact absurd H (by simp)
 ·unfold spec_l19Walk_L1 at H
  refine c_seq <| sR <| ow_batch [.fa 93 0 0 fa93_0] rfl <| o1 rfl (r1 0 1 rfl ty91 rfl) <| oP rfl <| bE H fun e240 h241 H => ow_ixB rfl rfl rfl rfl rfl sl91 ty169 rfl g20 h241 fun q244 c245 hd242 hA243 => ?_
  obtain ⟨c246, c247, c248, c249, c250, c251, c252, c253, c254, c255, rfl, g256, g257, g258, g259, g260, g261, g262, g263, g264, g265⟩ := rdo_Timpl_Node hd242
  obtain rfl := g256
  obtain rfl := g257
  obtain ⟨a266, c267, rfl⟩ := rd_sl1 g258
  obtain rfl := g259
  obtain ⟨c268, c269, rfl, g270, g271⟩ := rdo_Timpl_Stats g260
  obtain ⟨a272, c273, rfl⟩ := rd_sl1 g270
  obtain ⟨a274, c275, rfl⟩ := rd_sl1 g271
  obtain rfl := g261
  obtain ⟨a276, c277, rfl⟩ := rd_sl1 g262
  obtain rfl := g263
  obtain rfl := g264
  obtain rfl := g265
  refine ow_batch [.fa 169 0 0 fa169_0] rfl <| o1 rfl (ry_load1 rfl rfl ty4 (at_bor bor (at_K hA243 0 1))) <| oP rfl <| nQ <| cI H rfl (fun H => ?_) (fun H => ?_)
  ·refine c_skip <| x_qs <| c_block <| sR <| oPP rfl <| ow_blit (val := Value.int .i64) (h1 := fun _ => rfl) [i139] [(0, [.int .i64 i139])] rfl rfl rfl rfl rfl sl39 ty3 rfl rfl rfl ⟨rfl, rfl, Nat.le_of_ble_eq_true rfl,  trivial⟩ rfl rfl (fun _ => kp) fun b278 => bE H fun l279 h280 H => ow_appR (r := 3) (ys := ([i139] : List Int)) rfl rfl rfl rfl rfl rfl sl39 ty3 rfl rfl rfl (fun w1 hw1 => rds_own (e := eList eI 3) (r := 4) rfl w1 hw1) h280 (fun _ _ _ => kp) fun a281 c282 F283 => ow_fact rfl (fun w1 hw1 => own_nn (i := 3) hw1 rfl (app_ne h280)) fun hz284 => oP rfl <| nR <| ow_batch [.fa 93 0 0 fa93_0] rfl <| o1 rfl (r1 0 1 rfl ty91 rfl) <| oP rfl <| bE H fun e285 h286 H => ow_ixB rfl rfl rfl rfl rfl sl91 ty169 rfl g20 h286 fun q289 c290 hd287 hA288 => ?_
   obtain ⟨c291, c292, c293, c294, c295, c296, c297, c298, c299, c300, rfl, g301, g302, g303, g304, g305, g306, g307, g308, g309, g310⟩ := rdo_Timpl_Node hd287
   obtain rfl := g301
   obtain rfl := g302
   obtain ⟨a311, c312, rfl⟩ := rd_sl1 g303
   obtain rfl := g304
   obtain ⟨c313, c314, rfl, g315, g316⟩ := rdo_Timpl_Stats g305
   obtain ⟨a317, c318, rfl⟩ := rd_sl1 g315
   obtain ⟨a319, c320, rfl⟩ := rd_sl1 g316
   obtain rfl := g306
   obtain ⟨a321, c322, rfl⟩ := rd_sl1 g307
   obtain rfl := g308
   obtain rfl := g309
   obtain rfl := g310
   refine o1 rfl (ry_load (cs := [.bool e285.Leaf_, .int .i64 e285.Fork_.Attr_, .int .i64 e285.Fork_.At_, .slice a311 e285.Kids_.length c312, .int .i64 e285.Miss_, .slice a317 e285.Stats_.Totals_.length c318, .slice a319 e285.Stats_.Cells_.length c320, .int .i64 e285.Since_, .slice a321 e285.Attrs_.length c322, .int .i64 e285.Depth_, .int .i64 e285.Up_, .int .i64 e285.Born_]) rfl rfl ty169 (at_bor bor hA288) rfl) <| ow_alloc rfl rfl rfl rfl ty169 (fun _ => kp) fun b323 => sC 0 [.bool e285.Leaf_, .int .i64 e285.Fork_.Attr_, .int .i64 e285.Fork_.At_, .slice a311 e285.Kids_.length c312, .int .i64 e285.Miss_, .slice a317 e285.Stats_.Totals_.length c318, .slice a319 e285.Stats_.Cells_.length c320, .int .i64 e285.Since_, .slice a321 e285.Attrs_.length c322, .int .i64 e285.Depth_, .int .i64 e285.Up_, .int .i64 e285.Born_] [_, _, _, _, _, _, _, _, _, _, _, _] 5 rfl ty169 rfl <| nR <| ow_batch [.fa 169 3 4 fa169_3] rfl <| o1 rfl (r1 4 5 rfl ty3 rfl) <| oP rfl <| nQ <| c_seq <| sR <| ow_batch [.fa 61 0 0 fa61_0] rfl <| o1 rfl (r1 0 2 rfl ty39 rfl) <| ow_batch [.fa 169 1 1 fa169_1, .fa 165 0 0 fa165_0] rfl <| o1 rfl (r1 1 5 rfl ty3 rfl) <| bE H fun e324 h325 H => ow_ixE (e := eI) (xs := p2.Bins_) (j := e285.Fork_.Attr_) rfl rfl rfl rfl rfl sl39 ty3 rfl (fun w1 hw1 => rds_bor g26 w1 hw1) h325 (by rw [Nat.mul_one]) <| o1 rfl (ry_load1 rfl rfl ty3 (at_elV (fun w1 hw1 => rds_bor g26 w1 hw1) h325)) <| oP rfl <| nQ <| cI H rfl (fun H => ?_) (fun H => ?_)
   ·exact c_regQ mixed (by kernel_rfl) <| o1 rfl (rx 0 0 _ rfl ty48 rfl) <| ow_batch [.fa 169 1 1 fa169_1] rfl <| o1 rfl (rx 1 5 _ rfl ty165 rfl) <| ow_batch [.fa 61 0 0 fa61_0] rfl <| o1 rfl (r1 0 2 rfl ty39 rfl) <| ow_batch [.fa 169 1 1 fa169_1, .fa 165 0 0 fa165_0] rfl <| o1 rfl (r1 1 5 rfl ty3 rfl) <| bE H fun e326 h327 H => ow_ixE (e := eI) (xs := p2.Bins_) (j := e285.Fork_.Attr_) rfl rfl rfl rfl rfl sl39 ty3 rfl (fun w1 hw1 => rds_bor g26 w1 hw1) h327 (by rw [Nat.mul_one]) <| o1 rfl (ry_load1 rfl rfl ty3 (at_elV (fun w1 hw1 => rds_bor g26 w1 hw1) h327)) <| bE H fun y328 h329 H => oq rfl (qc rfl fn162 (fun w1 hw1 => spec_BranchOf_ok w1 (p1 := e285.Fork_) h329 (rdm_Timpl_Schema (rds_bor g12 w1 hw1) (rds_bor g13 w1 hw1)))) tt2 <| oP rfl <| ow_nilQ <| x_qs <| c_reg <| ow_batch [.fa 169 2 3 fa169_2] rfl <| o1 rfl (r1 3 5 rfl ty39 rfl) <| oP rfl <| bE H fun e330 h331 H => ow_ixE (e := eI) (xs := e285.Kids_) (j := y328) rfl rfl rfl rfl rfl sl39 ty3 rfl (fun w1 hw1 => rds_bor g303 w1 hw1) h331 (by rw [Nat.mul_one]) <| o1 rfl (ry_load1 rfl rfl ty3 (at_elV (fun w1 hw1 => rds_bor g303 w1 hw1) h331)) <| oP rfl <| ow_nil <| x_qb <| x_ql (RW.at (ihk1 (l279) (a281) (c282) (F283) (e330) (⟨hz284, H⟩)) (fun _ h => St.sel [0, 1, 2, 3] rfl rfl h) ⟨rfl, rfl, rfl, rfl, rfl, trivial⟩)
   ·exact c_skip <| x_qs <| c_reg <| ow_batch [.fa 169 2 3 fa169_2] rfl <| o1 rfl (r1 3 5 rfl ty39 rfl) <| oP rfl <| bE H fun e332 h333 H => ow_ixE (e := eI) (xs := e285.Kids_) (j := e285.Miss_) rfl rfl rfl rfl rfl sl39 ty3 rfl (fun w1 hw1 => rds_bor g303 w1 hw1) h333 (by rw [Nat.mul_one]) <| o1 rfl (ry_load1 rfl rfl ty3 (at_elV (fun w1 hw1 => rds_bor g303 w1 hw1) h333)) <| oP rfl <| ow_nil <| x_qb <| x_ql (RW.at (ihk1 (l279) (a281) (c282) (F283) (e332) (⟨hz284, H⟩)) (fun _ h => St.sel [0, 1, 2, 3] rfl rfl h) ⟨rfl, rfl, rfl, rfl, rfl, trivial⟩)
  ·exact c_exit <| x_qs_exit <| x_ql_exit <| x_qb_here <| x_qs <| sR <| oPP rfl <| ow_blit (val := Value.int .i64) (h1 := fun _ => rfl) [i139] [(0, [.int .i64 i139])] rfl rfl rfl rfl rfl sl39 ty3 rfl rfl rfl ⟨rfl, rfl, Nat.le_of_ble_eq_true rfl,  trivial⟩ rfl rfl (fun _ => kp) fun b334 => bE H fun l335 h336 H => ow_appR (r := 3) (ys := ([i139] : List Int)) rfl rfl rfl rfl rfl rfl sl39 ty3 rfl rfl rfl (fun w1 hw1 => rds_own (e := eList eI 3) (r := 4) rfl w1 hw1) h336 (fun _ _ _ => kp) fun a337 c338 F339 => ow_fact rfl (fun w1 hw1 => own_nn (i := 3) hw1 rfl (app_ne h336)) fun hz340 => oP rfl <| nT <| x_retR (rs := [.tmp 6]) (vs := [.slice a337 l335.length c338]) rfl ⟨rfl, trivial⟩ (fun w' hw' => by
    obtain rfl := of_some H
    exact ⟨_, rfl, a337, l335.length, c338, F339, rfl, hw'.sel [3] rfl rfl⟩)
theorem spec_PathTo_ok (w : World) {M0 : List Nat} {p0 : Timpl_Schema} {p1 : Timpl_Tree} {p2 : Timpl_Ex} {cs0 : List Value} {cs1 : List Value} {cs2 : List Value} {r : List Int} (H : spec_PathTo p0 p1 p2 = some r) (HS : St w M0 [] w) (g0 : (eTimpl_Schema).rd w M0 p0 cs0) (g1 : (eTimpl_Tree).rd w M0 p1 cs1) (g2 : (eTimpl_Ex).rd w M0 p2 cs2) :
    Calls Tryz.prog 109 #[.agg cs0.toArray, .agg cs1.toArray, .agg cs2.toArray] w (fun en w' => ∃ v, en = .returned v ∧ ∃ (a0 : Option Addr), ∃ (n0 : Nat), ∃ (c0 : Nat), ∃ (F0 : List Nat), v = .slice a0 n0 c0 ∧ St w M0 [Res.own (eList eI 3) F0 r [.slice a0 n0 c0]] w') := by
 obtain ⟨c10, c11, rfl, g12, g13⟩ := rdo_Timpl_Schema g0
 obtain ⟨a14, c15, rfl⟩ := rd_sl1 g12
 obtain ⟨a16, c17, rfl⟩ := rd_sl1 g13
 obtain ⟨c18, c19, rfl, g20, g21⟩ := rdo_Timpl_Tree g1
 obtain ⟨a22, c23, rfl⟩ := rd_sl1 g20
 obtain rfl := g21
 obtain ⟨c24, c25, rfl, g26, g27⟩ := rdo_Timpl_Ex g2
 obtain ⟨a28, c29, rfl⟩ := rd_sl1 g26
 obtain rfl := g27
 unfold spec_PathTo at H
 refine f_enter Tryz.func109 rfl Tryz.ntmps109 rfl (HS) <| sR <| ob _ rfl fun b30 => ob _ rfl fun b31 => ob _ rfl fun b32 => oP rfl <| nQ <| c_seq <| sR <| o1 rfl (rx 0 0 _ rfl ty48 rfl) <| o1 rfl (rx 0 1 _ rfl ty93 rfl) <| bE H fun y33 h34 H => oq rfl (qc rfl fn135 (fun w1 hw1 => spec_TreeOk_ok w1 h34 (rdm_Timpl_Schema (rds_bor g12 w1 hw1) (rds_bor g13 w1 hw1)) (rdm_Timpl_Tree (rds_bor g20 w1 hw1) rfl))) tt2 <| oPP rfl <| bE H fun u35 hu39 H => ow_cut [(16, .bool u35), (3, .pointer (some ⟨b30, 0, none⟩)), (4, .pointer (some ⟨b31, 0, none⟩)), (5, .pointer (some ⟨b32, 0, none⟩))] 5 ?_ (fun key => OW.sub (R := [(3, .pointer (some ⟨b30, 0, none⟩)), (4, .pointer (some ⟨b31, 0, none⟩)), (5, .pointer (some ⟨b32, 0, none⟩)), (11, .bool (!y33))]) ?_ (sb rfl))
 ·refine nQ <| cI H rfl (fun H => ?_) (fun H => ?_)
  ·exact sR <| ow_blit0 (e := eI) rfl rfl rfl rfl sl39 ty3 (fun _ => kp) fun b40 => oP rfl <| nT <| x_qs_ret <| x_retR (rs := [.tmp 6]) (vs := [.slice (some ⟨b40, 0, none⟩) 0 0]) rfl ⟨rfl, trivial⟩ (fun w' hw' => by
    obtain rfl := of_some H
    exact ⟨_, rfl, (some ⟨b40, 0, none⟩), 0, 0, [b40], rfl, hw'.sel [3] rfl rfl⟩)
  ·refine c_skip <| x_qs <| sR <| o1 rfl (rx 0 0 _ rfl ty48 rfl) <| o1 rfl (rx 0 1 _ rfl ty93 rfl) <| o1 rfl (rx 0 2 _ rfl ty61 rfl) <| bE H fun y41 h42 H => ow_callS rfl fn140 rfl rfl rfl rfl (fun w1 hw1 => spec_l19Walk_ok w1 h42 (hw1.carve [] rfl rfl) (rdm_Timpl_Schema (rds_bor g12 w1 hw1) (rds_bor g13 w1 hw1)) (rdm_Timpl_Tree (rds_bor g20 w1 hw1) rfl) (rdm_Timpl_Ex (rds_bor g26 w1 hw1) rfl)) fun v43 w1 w2 hw1 hR45 => ?_
   obtain ⟨a46, n47, c48, F49, rfl, hS44⟩ := hR45
   obtain rfl := own_nS (i := 0) hS44 rfl
   refine ⟨St w M0 [_, _, _, _], hw1.comp [] rfl rfl hS44, fun _ _ => trivial, ?_⟩
   exact oP rfl <| nT <| x_retR (rs := [.tmp 6]) (vs := [.slice a46 y41.length c48]) rfl ⟨rfl, trivial⟩ (fun w' hw' => by
    obtain rfl := of_some H
    exact ⟨_, rfl, a46, y41.length, c48, F49, rfl, hw'.sel [3] rfl rfl⟩)
 ·clear H
  have H := hu39
  clear hu39
  generalize (!y33) = t38 at H key ⊢
  cases t38
  ·have H := of_if_f rfl H
   refine o1 rfl (rx 0 0 _ rfl ty48 rfl) <| o1 rfl (rx 0 2 _ rfl ty61 rfl) <| bE H fun y36 h37 H => oq rfl (qc rfl fn38 (fun w1 hw1 => spec_ExOk_ok w1 h37 (rdm_Timpl_Schema (rds_bor g12 w1 hw1) (rds_bor g13 w1 hw1)) (rdm_Timpl_Ex (rds_bor g26 w1 hw1) rfl))) tt2 <| oP rfl <| oP rfl <| ?_
   obtain rfl := of_some H
   exact OW.sub key (sb rfl)
  ·have H := of_if_t rfl H
   refine ow_batch [.p, .p, .p, .p, .p] rfl ?_
   obtain rfl := of_some H
   exact OW.sub key (sb rfl)
end Go.Vk
