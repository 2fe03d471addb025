/- The code does what the functions of data say. Printed by program. -/
import Derived.Test.YthhgdknldbbgoaaGreatWTreeTrueC
namespace Go.Vk
open Go.Proofs Go.RowKit
set_option maxHeartbeats 4000000
set_option maxRecDepth 100000
theorem laws_eqEntryS_ok (w : World) {p0 : List Timpl_Entry} {p1 : List Timpl_Entry} {a_0 : Option Addr} {n_0 c_0 : Nat} {a_1 : Option Addr} {n_1 c_1 : Nat} {r : Bool} (H : laws_eqEntryS p0 p1 = some r)  (g0 : (eList (eTimpl_Entry) 83).rd w [] p0 [.slice a_0 n_0 c_0]) (g1 : (eList (eTimpl_Entry) 83).rd w [] p1 [.slice a_1 n_1 c_1]) :
    Calls Tryz.prog 15 #[.slice a_0 n_0 c_0, .slice a_1 n_1 c_1] w (fun en w' => en = .returned (.bool r) ∧ Ext [] w w') := by
 obtain rfl := rd_n g0
 obtain rfl := rd_n g1
 unfold laws_eqEntryS at H
 refine f_enter Tryz.func15 rfl Tryz.ntmps15 rfl (St.init w []) <| sR <| oP rfl <| nQ <| c_seq <| sR <| ow_batch [.p, .lenS 46 83 sl46, .p, .lenS 46 83 sl46, .p] rfl <| nQ <| cI H rfl (fun H => ?_) (fun H => ?_)
 ·exact sR <| oP rfl <| nT <| x_qs_ret <| xr 4 rfl (by cases H; exact q1)
 ·refine c_skip <| x_qs <| c_seq <| sR <| oP rfl <| nQ <| c_block <| CW.at (loopI1 (fun (i45 : Int) => St w [] []) (fun i45 => [(0, .slice a_0 p0.length c_0), (1, .slice a_1 p1.length c_1), (5, .int .i64 i45)]) (fun kk => fun i45 => laws_eqEntryS_L1 p0 p1 kk i45 = some r) (fun _ H => ?_) (fun k1 ihk1 i45 H => ?_) Fuel (0) (H)) (fun _ h => St.sel [] rfl rfl h) ⟨rfl, rfl, rfl, trivial⟩
  ·unfold laws_eqEntryS_L1 at H
   exact absurd H (by simp)
  ·unfold laws_eqEntryS_L1 at H
   refine c_seq <| sR <| ow_batch [.p, .p, .lenS 46 83 sl46, .p] rfl <| nQ <| cI H rfl (fun H => ?_) (fun H => ?_)
   ·refine c_skip <| x_qs <| c_seq <| c_block <| c_seq <| c_regQ mixed (by kernel_rfl) <| oPP rfl <| bE H fun e81 h82 H => ow_ixB rfl rfl rfl rfl rfl sl46 ty83 rfl g0 h82 fun q85 c86 hd83 hA84 => ?_
    obtain ⟨c87, c88, rfl, g89, g90⟩ := rdo_Timpl_Entry hd83
    obtain ⟨c91, c92, rfl, g93, g94⟩ := rdo_Timpl_Ex g89
    obtain ⟨a95, c96, rfl⟩ := rd_sl1 g93
    obtain rfl := g94
    obtain rfl := g90
    refine o1 rfl (ry_load (cs := [.slice a95 e81.Ex_.Bins_.length c96, .int .i64 e81.Ex_.Class_, .int .i64 e81.Weight_]) rfl rfl ty83 (at_bor bor hA84) rfl) <| oPP rfl <| bE H fun e97 h98 H => ow_ixB rfl rfl rfl rfl rfl sl46 ty83 rfl g1 h98 fun q101 c102 hd99 hA100 => ?_
    obtain ⟨c103, c104, rfl, g105, g106⟩ := rdo_Timpl_Entry hd99
    obtain ⟨c107, c108, rfl, g109, g110⟩ := rdo_Timpl_Ex g105
    obtain ⟨a111, c112, rfl⟩ := rd_sl1 g109
    obtain rfl := g110
    obtain rfl := g106
    refine o1 rfl (ry_load (cs := [.slice a111 e97.Ex_.Bins_.length c112, .int .i64 e97.Ex_.Class_, .int .i64 e97.Weight_]) rfl rfl ty83 (at_bor bor hA100) rfl) <| bE H fun y113 h114 H => oq rfl (qc rfl fn42 (fun w1 hw1 => laws_eqEntry_ok w1 h114 (rdm_Timpl_Entry (rdm_Timpl_Ex (rds_bor g93 w1 hw1) rfl) rfl) (rdm_Timpl_Entry (rdm_Timpl_Ex (rds_bor g109 w1 hw1) rfl) rfl))) tt2 <| oP rfl <| ow_nilQ <| x_qs <| cI H rfl (fun H => ?_) (fun H => ?_)
    ·exact sR <| oP rfl <| nT <| x_qb_ret <| x_qs_ret <| x_ql_ret <| x_qb_ret <| x_qs_ret <| xr 4 rfl (by cases H; exact q1)
    ·exact c_skip <| x_qb <| x_qs <| c_reg <| ow_batch [.p, .p, .p] rfl <| ow_nil <| x_ql (RW.at (ihk1 (IntKind.i64.wrap (i45 + 1)) (H)) (fun _ h => St.sel [] rfl rfl h) ⟨rfl, rfl, rfl, trivial⟩)
   ·exact c_exit <| x_qs_exit <| x_ql_exit <| x_qb_here <| x_qs <| sR <| oP rfl <| nT <| xr 4 rfl (by cases H; exact q1)
theorem laws_FnExactTreeTrue_ok (w : World) {p0 : Tlaws_Schema} {p1 : Tlaws_Rule} {p2 : Tlaws_Tree} {p3 : List Tlaws_Entry} {cs0 : List Value} {cs2 : List Value} {a_3 : Option Addr} {n_3 c_3 : Nat} {r : Bool} (H : laws_FnExactTreeTrue p0 p1 p2 p3 = some r)  (g0 : (eTlaws_Schema).rd w [] p0 cs0) (g2 : (eTlaws_Tree).rd w [] p2 cs2) (g3 : (eList (eTlaws_Entry) 60).rd w [] p3 [.slice a_3 n_3 c_3]) :
    Calls Tryz.prog 3 #[.agg cs0.toArray, .agg #[.int .i64 p1.Sure_, .int .i64 p1.Tie_, .int .i64 p1.Grace_, .int .i64 p1.Depth_, .int .i64 p1.Nodes_, .int .i64 p1.Units_, .bool p1.Two_], .agg cs2.toArray, .slice a_3 n_3 c_3] w (fun en w' => en = .returned (.bool r) ∧ Ext [] w w') := by
 obtain ⟨c10, c11, rfl, g12, g13⟩ := rdo_Tlaws_Schema g0
 obtain ⟨a14, c15, rfl⟩ := rd_sl1 g12
 obtain ⟨a16, c17, rfl⟩ := rd_sl1 g13
 obtain ⟨c18, c19, rfl, g20, g21⟩ := rdo_Tlaws_Tree g2
 obtain ⟨a22, c23, rfl⟩ := rd_sl1 g20
 obtain rfl := g21
 obtain rfl := rd_n g3
 unfold laws_FnExactTreeTrue at H
 refine f_enter Tryz.func3 rfl Tryz.ntmps3 rfl (St.init w []) <| sR <| ob _ rfl fun b24 => ob _ rfl fun b25 => ob _ rfl fun b26 => oP rfl <| nR <| oP rfl <| nR <| o1 rfl (rx 0 0 _ rfl ty25 rfl) <| oP rfl <| bE H fun y27 h28 H => oq rfl (qc rfl fn4 (fun w1 hw1 => laws_szSchema_ok w1 h28 (rdm_Tlaws_Schema (rds_bor g12 w1 hw1) (rds_bor g13 w1 hw1)))) tt2 <| oP rfl <| nQ <| c_seq <| sR <| oPP rfl <| nQ <| cI H rfl (fun H => ?_) (fun H => ?_)
 ·exact sR <| oP rfl <| nT <| x_qs_ret <| xr 8 rfl (by cases H; exact q1)
 ·refine c_skip <| x_qs <| sR <| o1 rfl (rx 0 2 _ rfl ty30 rfl) <| oP rfl <| bE H fun y29 h30 H => oq rfl (qc rfl fn5 (fun w1 hw1 => laws_szTree_ok w1 h30 (rdm_Tlaws_Tree (rds_bor g20 w1 hw1) rfl))) tt2 <| oP rfl <| nQ <| c_seq <| sR <| oPP rfl <| nQ <| cI H rfl (fun H => ?_) (fun H => ?_)
  ·exact sR <| oP rfl <| nT <| x_qs_ret <| xr 8 rfl (by cases H; exact q1)
  ·refine c_skip <| x_qs <| sR <| oPP rfl <| bE H fun y31 h32 H => oq rfl (qc rfl fn6 (fun w1 hw1 => laws_szEntryS_ok w1  h32 (rds_bor g3 w1 hw1))) tt2 <| oP rfl <| nQ <| c_seq <| sR <| oPP rfl <| nQ <| cI H rfl (fun H => ?_) (fun H => ?_)
   ·exact sR <| oP rfl <| nT <| x_qs_ret <| xr 8 rfl (by cases H; exact q1)
   ·refine c_skip <| x_qs <| c_seq <| c_regHT 7 [(0, true), (2, true), (4, true), (6, true), (1, false), (3, false), (5, false)] (St w [] [Res.box b24 25 [.slice a14 p0.Attrs_.length c15, .slice a16 p0.Classes_.length c17], Res.box b25 27 [.int .i64 p1.Sure_, .int .i64 p1.Tie_, .int .i64 p1.Grace_, .int .i64 p1.Depth_, .int .i64 p1.Nodes_, .int .i64 p1.Units_, .bool p1.Two_], Res.box b26 30 [.slice a22 p2.Nodes_.length c23, .int .i64 p2.Seen_]]) mixed (by kernel_rfl) (panicOk_qs panicOk_body) (fun _ h => St.mask [true, true, true] rfl h) <| ow_rH rfl (dstOk_lt rfl) (rx 0 0 _ rfl ty25 rfl) <| ow_rH rfl (dstOk_lt rfl) (rx 0 1 _ rfl ty27 rfl) <| ow_rH rfl (dstOk_lt rfl) (rx 0 2 _ rfl ty30 rfl) <| oP rfl <| bE H fun y57 h58 H => ow_callS rfl fn8 rfl rfl rfl rfl (fun w1 hw1 => laws_toSchema_ok w1 h58 (hw1.carve [] rfl rfl) (rdm_Tlaws_Schema (rds_bor g12 w1 hw1) (rds_bor g13 w1 hw1))) fun v59 w1 w2 hw1 hR61 => ?_
    obtain ⟨a62, n63, c64, F65, a66, n67, c68, F69, rfl, hS60⟩ := hR61
    obtain rfl := own_nS (i := 0) hS60 rfl
    obtain rfl := own_nS (i := 1) hS60 rfl
    refine ⟨St w [] [_, _, _, _, _], hw1.comp [] rfl rfl hS60, (fun _ h => St.mask [true, true, true] rfl h), ?_⟩
    refine bE H fun y70 h71 H => oq rfl (qc rfl fn9 (fun w1 hw1 => laws_toRule_ok w1 (p0 := p1) h71)) (fun _ h => St.mask [true, true, true] rfl h) <| bE H fun y72 h73 H => ow_callS rfl fn10 rfl rfl rfl rfl (fun w1 hw1 => laws_toTree_ok w1 h73 (hw1.carve [] rfl rfl) (rdm_Tlaws_Tree (rds_bor g20 w1 hw1) rfl)) fun v74 w1 w2 hw1 hR76 => ?_
    obtain ⟨a77, n78, c79, F80, rfl, hS75⟩ := hR76
    obtain rfl := own_nS (i := 0) hS75 rfl
    refine ⟨St w [] [_, _, _, _, _, _], hw1.comp [] rfl rfl hS75, (fun _ h => St.mask [true, true, true] rfl h), ?_⟩
    refine ow_nilH <| x_qt <| bE H fun y81 h82 H => ow_callS rfl fn11 rfl rfl rfl rfl (fun w1 hw1 => laws_toEntryS_ok w1  h82 (hw1.carve [] rfl rfl) (rds_bor g3 w1 hw1)) fun v83 w1 w2 hw1 hR85 => ?_
    obtain ⟨a86, n87, c88, F89, rfl, hS84⟩ := hR85
    obtain rfl := own_nS (i := 0) hS84 rfl
    refine ⟨St w [] [_, _, _, _, _, _, _], hw1.comp [] rfl rfl hS84, fun _ _ => trivial, ?_⟩
    refine bE H fun y90 h91 H => oq rfl (qc rfl fn7 (fun w1 hw1 => spec_TreeTrue_ok w1 (p1 := y70) h91 (rdm_Timpl_Schema (x := y57) (c0 := [.slice a62 y57.Attrs_.length c64]) (c1 := [.slice a66 y57.Classes_.length c68]) (rds_own (e := eList (eTimpl_Attr) 113) (r := 3) rfl w1 hw1) (rds_own (e := eList (eStr) 9) (r := 4) rfl w1 hw1)) (rdm_Timpl_Tree (x := y72) (c0 := [.slice a77 y72.Nodes_.length c79]) (c1 := [.int .i64 y72.Seen_]) (rds_own (e := eList (eTimpl_Node) 70) (r := 5) rfl w1 hw1) rfl) (rds_own (e := eList (eTimpl_Entry) 83) (r := 6) rfl w1 hw1))) tt2 <| oP rfl <| nR <| o1 rfl (rx 0 0 _ rfl ty25 rfl) <| bE H fun y92 h93 H => ow_callS rfl fn8 rfl rfl rfl rfl (fun w1 hw1 => laws_toSchema_ok w1 h93 (hw1.carve [] rfl rfl) (rdm_Tlaws_Schema (x := p0) (c0 := [.slice a14 p0.Attrs_.length c15]) (c1 := [.slice a16 p0.Classes_.length c17]) (rds_bor g12 w1 hw1) (rds_bor g13 w1 hw1))) fun v94 w1 w2 hw1 hR96 => ?_
    obtain ⟨a97, n98, c99, F100, a101, n102, c103, F104, rfl, hS95⟩ := hR96
    obtain rfl := own_nS (i := 0) hS95 rfl
    obtain rfl := own_nS (i := 1) hS95 rfl
    refine ⟨St w [] [_, _, _, _, _, _, _, _, _], hw1.comp [] rfl rfl hS95, fun _ _ => trivial, ?_⟩
    refine ow_alloc rfl rfl rfl rfl ty38 (fun _ => kp) fun b105 => sC 0 [.slice a97 y92.Attrs_.length c99, .slice a101 y92.Classes_.length c103] [_, _] 9 rfl ty38 rfl <| nR <| o1 rfl (rx 0 2 _ rfl ty30 rfl) <| bE H fun y106 h107 H => ow_callS rfl fn10 rfl rfl rfl rfl (fun w1 hw1 => laws_toTree_ok w1 h107 (hw1.carve [] rfl rfl) (rdm_Tlaws_Tree (rds_bor g20 w1 hw1) rfl)) fun v108 w1 w2 hw1 hR110 => ?_
    obtain ⟨a111, n112, c113, F114, rfl, hS109⟩ := hR110
    obtain rfl := own_nS (i := 0) hS109 rfl
    refine ⟨St w [] [_, _, _, _, _, _, _, _, _, _, _], hw1.comp [] rfl rfl hS109, fun _ _ => trivial, ?_⟩
    refine ow_alloc rfl rfl rfl rfl ty44 (fun _ => kp) fun b115 => sC 0 [.slice a111 y106.Nodes_.length c113, .int .i64 y106.Seen_] [_, _] 11 rfl ty44 rfl <| nR <| oP rfl <| bE H fun y116 h117 H => ow_callS rfl fn11 rfl rfl rfl rfl (fun w1 hw1 => laws_toEntryS_ok w1  h117 (hw1.carve [] rfl rfl) (rds_bor g3 w1 hw1)) fun v118 w1 w2 hw1 hR120 => ?_
    obtain ⟨a121, n122, c123, F124, rfl, hS119⟩ := hR120
    obtain rfl := own_nS (i := 0) hS119 rfl
    refine ⟨St w [] [_, _, _, _, _, _, _, _, _, _, _, _, _], hw1.comp [] rfl rfl hS119, fun _ _ => trivial, ?_⟩
    refine oP rfl <| nQ <| c_seq <| c_regQ mixed (by kernel_rfl) <| o1 rfl (rx 0 9 _ rfl ty38 rfl) <| o1 rfl (rx 0 1 _ rfl ty27 rfl) <| bE H fun y125 h126 H => oq rfl (qc rfl fn9 (fun w1 hw1 => laws_toRule_ok w1 (p0 := p1) h126)) tt2 <| o1 rfl (rx 0 11 _ rfl ty44 rfl) <| oP rfl <| bE H fun y127 h128 H => oq rfl (qc rfl fn12 (fun w1 hw1 => impl_TreeTrue_ok w1 (p1 := y125) h128 (rdm_Timpl_Schema (x := y92) (c0 := [.slice a97 y92.Attrs_.length c99]) (c1 := [.slice a101 y92.Classes_.length c103]) (rds_own (e := eList (eTimpl_Attr) 113) (r := 7) rfl w1 hw1) (rds_own (e := eList (eStr) 9) (r := 8) rfl w1 hw1)) (rdm_Timpl_Tree (x := y106) (c0 := [.slice a111 y106.Nodes_.length c113]) (c1 := [.int .i64 y106.Seen_]) (rds_own (e := eList (eTimpl_Node) 70) (r := 10) rfl w1 hw1) rfl) (rds_own (e := eList (eTimpl_Entry) 83) (r := 12) rfl w1 hw1))) tt2 <| oP rfl <| ow_nilQ <| x_qs <| c_seq <| sR <| oPP rfl <| o1 rfl (ry_bneq rfl rfl rfl bl4) <| nQ <| cI H rfl (fun H => ?_) (fun H => ?_)
    ·exact sR <| oP rfl <| nT <| x_qs_ret <| xr 8 rfl (by cases H; exact q1)
    ·refine c_skip <| x_qs <| c_seq <| c_seq <| c_regHT 3 [(0, true), (1, true), (2, false)] (St w [] [Res.box b24 25 [.slice a14 p0.Attrs_.length c15, .slice a16 p0.Classes_.length c17], Res.box b25 27 [.int .i64 p1.Sure_, .int .i64 p1.Tie_, .int .i64 p1.Grace_, .int .i64 p1.Depth_, .int .i64 p1.Nodes_, .int .i64 p1.Units_, .bool p1.Two_], Res.box b26 30 [.slice a22 p2.Nodes_.length c23, .int .i64 p2.Seen_], Res.own (eList (eTimpl_Attr) 113) F65 y57.Attrs_ [.slice a62 y57.Attrs_.length c64], Res.own (eList (eStr) 9) F69 y57.Classes_ [.slice a66 y57.Classes_.length c68], Res.own (eList (eTimpl_Node) 70) F80 y72.Nodes_ [.slice a77 y72.Nodes_.length c79], Res.own (eList (eTimpl_Entry) 83) F89 y81 [.slice a86 y81.length c88], Res.own (eList (eTimpl_Attr) 113) F100 y92.Attrs_ [.slice a97 y92.Attrs_.length c99], Res.own (eList (eStr) 9) F104 y92.Classes_ [.slice a101 y92.Classes_.length c103], Res.box b105 38 [.slice a97 y92.Attrs_.length c99, .slice a101 y92.Classes_.length c103], Res.own (eList (eTimpl_Node) 70) F114 y106.Nodes_ [.slice a111 y106.Nodes_.length c113], Res.box b115 44 [.slice a111 y106.Nodes_.length c113, .int .i64 y106.Seen_], Res.own (eList (eTimpl_Entry) 83) F124 y116 [.slice a121 y116.length c123]]) mixed (by kernel_rfl) (panicOk_qs (panicOk_qs panicOk_body)) (fun _ h => St.mask [true, true, true, true, true, true, true, true, true, true, true, true, true] rfl h) <| ow_rH rfl (dstOk_lt rfl) (rx 0 9 _ rfl ty38 rfl) <| ow_rH rfl (dstOk_lt rfl) (rx 0 0 _ rfl ty25 rfl) <| bE H fun y142 h143 H => ow_callS rfl fn8 rfl rfl rfl rfl (fun w1 hw1 => laws_toSchema_ok w1 h143 (hw1.carve [] rfl rfl) (rdm_Tlaws_Schema (rds_bor g12 w1 hw1) (rds_bor g13 w1 hw1))) fun v144 w1 w2 hw1 hR146 => ?_
     obtain ⟨a147, n148, c149, F150, a151, n152, c153, F154, rfl, hS145⟩ := hR146
     obtain rfl := own_nS (i := 0) hS145 rfl
     obtain rfl := own_nS (i := 1) hS145 rfl
     refine ⟨St w [] [_, _, _, _, _, _, _, _, _, _, _, _, _, _, _], hw1.comp [] rfl rfl hS145, (fun _ h => St.mask [true, true, true, true, true, true, true, true, true, true, true, true, true] rfl h), ?_⟩
     refine ow_nilH <| x_qt <| bE H fun y155 h156 H => oq rfl (qc rfl fn13 (fun w1 hw1 => laws_eqSchema_ok w1 h156 (rdm_Timpl_Schema (x := y92) (c0 := [.slice a97 y92.Attrs_.length c99]) (c1 := [.slice a101 y92.Classes_.length c103]) (rds_own (e := eList (eTimpl_Attr) 113) (r := 7) rfl w1 hw1) (rds_own (e := eList (eStr) 9) (r := 8) rfl w1 hw1)) (rdm_Timpl_Schema (x := y142) (c0 := [.slice a147 y142.Attrs_.length c149]) (c1 := [.slice a151 y142.Classes_.length c153]) (rds_own (e := eList (eTimpl_Attr) 113) (r := 13) rfl w1 hw1) (rds_own (e := eList (eStr) 9) (r := 14) rfl w1 hw1)))) tt2 <| oP rfl <| nQ <| cI H rfl (fun H => ?_) (fun H => ?_)
     ·exact sR <| oP rfl <| nT <| x_qs_ret <| xr 8 rfl (by cases H; exact q1)
     ·refine c_skip <| x_qs <| c_seq <| c_seq <| c_regHT 3 [(0, true), (1, true), (2, false)] (St w [] [Res.box b24 25 [.slice a14 p0.Attrs_.length c15, .slice a16 p0.Classes_.length c17], Res.box b25 27 [.int .i64 p1.Sure_, .int .i64 p1.Tie_, .int .i64 p1.Grace_, .int .i64 p1.Depth_, .int .i64 p1.Nodes_, .int .i64 p1.Units_, .bool p1.Two_], Res.box b26 30 [.slice a22 p2.Nodes_.length c23, .int .i64 p2.Seen_], Res.own (eList (eTimpl_Attr) 113) F65 y57.Attrs_ [.slice a62 y57.Attrs_.length c64], Res.own (eList (eStr) 9) F69 y57.Classes_ [.slice a66 y57.Classes_.length c68], Res.own (eList (eTimpl_Node) 70) F80 y72.Nodes_ [.slice a77 y72.Nodes_.length c79], Res.own (eList (eTimpl_Entry) 83) F89 y81 [.slice a86 y81.length c88], Res.own (eList (eTimpl_Attr) 113) F100 y92.Attrs_ [.slice a97 y92.Attrs_.length c99], Res.own (eList (eStr) 9) F104 y92.Classes_ [.slice a101 y92.Classes_.length c103], Res.box b105 38 [.slice a97 y92.Attrs_.length c99, .slice a101 y92.Classes_.length c103], Res.own (eList (eTimpl_Node) 70) F114 y106.Nodes_ [.slice a111 y106.Nodes_.length c113], Res.box b115 44 [.slice a111 y106.Nodes_.length c113, .int .i64 y106.Seen_], Res.own (eList (eTimpl_Entry) 83) F124 y116 [.slice a121 y116.length c123], Res.own (eList (eTimpl_Attr) 113) F150 y142.Attrs_ [.slice a147 y142.Attrs_.length c149], Res.own (eList (eStr) 9) F154 y142.Classes_ [.slice a151 y142.Classes_.length c153]]) mixed (by kernel_rfl) (panicOk_qs (panicOk_qs panicOk_body)) (fun _ h => St.mask [true, true, true, true, true, true, true, true, true, true, true, true, true, true, true] rfl h) <| ow_rH rfl (dstOk_lt rfl) (rx 0 11 _ rfl ty44 rfl) <| ow_rH rfl (dstOk_lt rfl) (rx 0 2 _ rfl ty30 rfl) <| bE H fun y166 h167 H => ow_callS rfl fn10 rfl rfl rfl rfl (fun w1 hw1 => laws_toTree_ok w1 h167 (hw1.carve [] rfl rfl) (rdm_Tlaws_Tree (rds_bor g20 w1 hw1) rfl)) fun v168 w1 w2 hw1 hR170 => ?_
      obtain ⟨a171, n172, c173, F174, rfl, hS169⟩ := hR170
      obtain rfl := own_nS (i := 0) hS169 rfl
      refine ⟨St w [] [_, _, _, _, _, _, _, _, _, _, _, _, _, _, _, _], hw1.comp [] rfl rfl hS169, (fun _ h => St.mask [true, true, true, true, true, true, true, true, true, true, true, true, true, true, true] rfl h), ?_⟩
      refine ow_nilH <| x_qt <| bE H fun y175 h176 H => oq rfl (qc rfl fn14 (fun w1 hw1 => laws_eqTree_ok w1 h176 (rdm_Timpl_Tree (x := y106) (c0 := [.slice a111 y106.Nodes_.length c113]) (c1 := [.int .i64 y106.Seen_]) (rds_own (e := eList (eTimpl_Node) 70) (r := 10) rfl w1 hw1) rfl) (rdm_Timpl_Tree (x := y166) (c0 := [.slice a171 y166.Nodes_.length c173]) (c1 := [.int .i64 y166.Seen_]) (rds_own (e := eList (eTimpl_Node) 70) (r := 15) rfl w1 hw1) rfl))) tt2 <| oP rfl <| nQ <| cI H rfl (fun H => ?_) (fun H => ?_)
      ·exact sR <| oP rfl <| nT <| x_qs_ret <| xr 8 rfl (by cases H; exact q1)
      ·refine c_skip <| x_qs <| c_seq <| sR <| oPP rfl <| bE H fun y177 h178 H => ow_callS rfl fn11 rfl rfl rfl rfl (fun w1 hw1 => laws_toEntryS_ok w1  h178 (hw1.carve [] rfl rfl) (rds_bor g3 w1 hw1)) fun v179 w1 w2 hw1 hR181 => ?_
       obtain ⟨a182, n183, c184, F185, rfl, hS180⟩ := hR181
       obtain rfl := own_nS (i := 0) hS180 rfl
       refine ⟨St w [] [_, _, _, _, _, _, _, _, _, _, _, _, _, _, _, _, _], hw1.comp [] rfl rfl hS180, fun _ _ => trivial, ?_⟩
       refine bE H fun y186 h187 H => oq rfl (qc rfl fn15 (fun w1 hw1 => laws_eqEntryS_ok w1  h187 (rds_own (e := eList (eTimpl_Entry) 83) (r := 12) rfl w1 hw1) (rds_own (e := eList (eTimpl_Entry) 83) (r := 16) rfl w1 hw1))) tt2 <| oP rfl <| nQ <| cI H rfl (fun H => ?_) (fun H => ?_)
       ·exact sR <| oP rfl <| nT <| x_qs_ret <| xr 8 rfl (by cases H; exact q1)
       ·exact c_skip <| x_qs <| sR <| oP rfl <| nT <| xr 8 rfl (by cases H; exact q1)
end Go.Vk
