/- The code does what the functions of data say. Printed by program. -/
import Derived.Test.YtddoligbabahbaaGreatWStateOkB
namespace Go.Vk
open Go.Proofs Go.RowKit
set_option maxHeartbeats 4000000
set_option maxRecDepth 100000
theorem laws_szMemberS_ok (w : World) {p0 : List Tlaws_Member} {p1 : Int} {a_0 : Option Addr} {n_0 c_0 : Nat} {r : Int} (H : laws_szMemberS p0 p1 = some r)  (g0 : (eList (eTlaws_Member) 265).rd w [] p0 [.slice a_0 n_0 c_0]) :
    Calls Tryz.prog 176 #[.slice a_0 n_0 c_0, .int .i64 p1] w (fun en w' => en = .returned (.int .i64 r) ∧ Ext [] w w') := by
 obtain rfl := rd_n g0
 unfold laws_szMemberS at H
 refine f_enter (vs := [.slice a_0 p0.length c_0, .int .i64 p1]) Tryz.func176 rfl Tryz.ntmps176 rfl (St.init w []) <| c_seq <| c_reg <| ow_batch [.p] rfl <| ow_nil <| x_qs <| c_seq <| c_reg <| ow_batch [.p, .p, .lenS 93 265 sl93, .p, .p] rfl <| ow_nil <| x_qs <| c_seq <| c_seq <| c_reg <| ow_batch [.p, .p] rfl <| ow_nil <| x_qs <| cI H rfl (fun H => ?_) (fun H => ?_)
 ·exact c_seq <| c_reg <| ow_batch [.p] rfl <| ow_nil <| x_qs <| c_ret <| x_qs_ret <| xr 4 rfl (by cases H; exact q1)
 ·refine c_skip <| x_qs <| c_seq <| c_seq <| c_reg <| ow_batch [.p] rfl <| ow_nil <| x_qs <| c_block <| CW.at (loopI2 (fun (i52 : Int) (i53 : Int) => St w [] []) (fun (i52 : Int) (i53 : Int) => [(0, .slice a_0 p0.length c_0), (1, .int .i64 i52), (5, .int .i64 i53)]) (fun kk => fun (i52 : Int) (i53 : Int) => laws_szMemberS_L1 p0 kk i52 i53 = some r) (fun _ _ H => ?_) (fun k1 ihk1 i52 i53 H => ?_) Fuel (IntKind.i64.wrap (p1 - (p0.length : Int))) (0) (H)) (fun _ h => St.sel [] rfl rfl h) ⟨rfl, rfl, rfl,  trivial⟩
  ·unfold laws_szMemberS_L1 at H
   exact absurd H (by simp)
  ·unfold laws_szMemberS_L1 at H
   refine c_seq <| c_seq <| c_reg <| ow_batch [.p, .p, .lenS 93 265 sl93, .p] rfl <| ow_nil <| x_qs <| cI H rfl (fun H => ?_) (fun H => ?_)
   ·refine c_skip <| x_qs <| c_seq <| c_block <| c_seq <| c_reg <| ow_batch [.p, .p] rfl <| bE H fun e96 h97 H => ow_ixB rfl rfl rfl rfl rfl sl93 ty265 rfl g0 h97 fun q100 c101 hd98 hA99 => ?_
    obtain ⟨c102, c103, c104, c105, rfl, g106, g107, g108, g109⟩ := rdo_Tlaws_Member hd98
    obtain ⟨c110, c111, rfl, g112, g113⟩ := rdo_Tlaws_Tree g106
    obtain ⟨a114, c115, rfl⟩ := rd_sl1 g112
    obtain rfl : c111 = [.int .i64 e96.Tree_.Seen_] := g113
    obtain rfl : c103 = [.bool e96.HasYoung_] := g107
    obtain ⟨c116, c117, rfl, g118, g119⟩ := rdo_Tlaws_Tree g108
    obtain ⟨a120, c121, rfl⟩ := rd_sl1 g118
    obtain rfl : c117 = [.int .i64 e96.Young_.Seen_] := g119
    obtain ⟨c122, c123, rfl, g124, g125⟩ := rdo_Tlaws_Det g109
    obtain ⟨c126, rfl, g127⟩ := rdo_Tlaws_Window g124
    obtain ⟨a128, c129, rfl⟩ := rd_sl1 g127
    obtain ⟨c130, rfl, g131⟩ := rdo_Tlaws_Window g125
    obtain ⟨a132, c133, rfl⟩ := rd_sl1 g131
    refine o1 rfl (ry_load (cs := [.slice a114 e96.Tree_.Nodes_.length c115, .int .i64 e96.Tree_.Seen_, .bool e96.HasYoung_, .slice a120 e96.Young_.Nodes_.length c121, .int .i64 e96.Young_.Seen_, .slice a128 e96.Det_.Warn_.Rows_.length c129, .slice a132 e96.Det_.Drift_.Rows_.length c133]) rfl rfl ty265 (at_bor bor hA99) rfl) <| ow_batch [.p] rfl <| bE H fun y134 h135 H => oq rfl (qc rfl fn229 (fun w1 hw1 => laws_szMember_ok w1 (cs0 := [.slice a114 e96.Tree_.Nodes_.length c115, .int .i64 e96.Tree_.Seen_, .bool e96.HasYoung_, .slice a120 e96.Young_.Nodes_.length c121, .int .i64 e96.Young_.Seen_, .slice a128 e96.Det_.Warn_.Rows_.length c129, .slice a132 e96.Det_.Drift_.Rows_.length c133]) h135 (rdm_Tlaws_Member (x := e96) (c0 := [.slice a114 e96.Tree_.Nodes_.length c115, .int .i64 e96.Tree_.Seen_]) (c1 := [.bool e96.HasYoung_]) (c2 := [.slice a120 e96.Young_.Nodes_.length c121, .int .i64 e96.Young_.Seen_]) (c3 := [.slice a128 e96.Det_.Warn_.Rows_.length c129, .slice a132 e96.Det_.Drift_.Rows_.length c133]) (rdm_Tlaws_Tree (x := e96.Tree_) (c0 := [.slice a114 e96.Tree_.Nodes_.length c115]) (c1 := [.int .i64 e96.Tree_.Seen_]) (rds_bor g112 w1 hw1) rfl) rfl (rdm_Tlaws_Tree (x := e96.Young_) (c0 := [.slice a120 e96.Young_.Nodes_.length c121]) (c1 := [.int .i64 e96.Young_.Seen_]) (rds_bor g118 w1 hw1) rfl) (rdm_Tlaws_Det (x := e96.Det_) (c0 := [.slice a128 e96.Det_.Warn_.Rows_.length c129]) (c1 := [.slice a132 e96.Det_.Drift_.Rows_.length c133]) (rdm_Tlaws_Window (x := e96.Det_.Warn_) (c0 := [.slice a128 e96.Det_.Warn_.Rows_.length c129]) (rds_bor g127 w1 hw1)) (rdm_Tlaws_Window (x := e96.Det_.Drift_) (c0 := [.slice a132 e96.Det_.Drift_.Rows_.length c133]) (rds_bor g131 w1 hw1)))))) tt2 <| ow_batch [.p] rfl <| ow_nil <| x_qs <| c_seq <| c_reg <| ow_batch [.p, .p] rfl <| ow_nil <| x_qs <| cI H rfl (fun H => ?_) (fun H => ?_)
    ·exact c_seq <| c_reg <| ow_batch [.p] rfl <| ow_nil <| x_qs <| c_ret <| x_qb_ret <| x_qs_ret <| x_ql_ret <| x_qb_ret <| x_qs_ret <| xr 4 rfl (by cases H; exact q1)
    ·exact c_skip <| x_qb <| x_qs <| c_reg <| ow_batch [.p, .p, .p] rfl <| ow_nil <| x_ql (RW.at (ihk1 (y134) (IntKind.i64.wrap (i53 + 1)) (H)) (fun _ h => St.sel [] rfl rfl h) ⟨rfl, rfl, rfl, trivial⟩)
   ·exact c_exit <| x_qs_exit <| x_ql_exit <| x_qb_here <| x_qs <| c_seq <| c_reg <| ow_batch [.p, .p] rfl <| ow_nil <| x_qs <| c_ret <| xr 4 rfl (by cases H; exact q1)
theorem laws_szForest_ok (w : World) {p0 : Tlaws_Forest} {p1 : Int} {cs0 : List Value} {r : Int} (H : laws_szForest p0 p1 = some r)  (g0 : (eTlaws_Forest).rd w [] p0 cs0) :
    Calls Tryz.prog 112 #[.agg cs0.toArray, .int .i64 p1] w (fun en w' => en = .returned (.int .i64 r) ∧ Ext [] w w') := by
 obtain ⟨c10, rfl, g11⟩ := rdo_Tlaws_Forest g0
 obtain ⟨a12, c13, rfl⟩ := rd_sl1 g11
 unfold laws_szForest at H
 refine f_enter (vs := [.agg #[.slice a12 p0.Members_.length c13], .int .i64 p1]) Tryz.func112 rfl Tryz.ntmps112 rfl (St.init w []) <| c_seq <| c_reg <| ob [.slice a12 p0.Members_.length c13] rfl fun b14 => ow_batch [.p] rfl <| ow_nil <| x_qs <| c_seq <| c_reg <| ow_batch [.fa 95 0 0 fa95_0] rfl <| o1 rfl (r1 0 0 rfl ty93 rfl) <| ow_batch [.p] rfl <| bE H fun y15 h16 H => oq rfl (qc rfl fn176 (fun w1 hw1 => laws_szMemberS_ok w1  h16 (rds_bor g11 w1 hw1))) tt2 <| ow_batch [.p] rfl <| ow_nil <| x_qs <| c_seq <| c_seq <| c_reg <| ow_batch [.p, .p] rfl <| ow_nil <| x_qs <| cI H rfl (fun H => ?_) (fun H => ?_)
 ·exact c_seq <| c_reg <| ow_batch [.p] rfl <| ow_nil <| x_qs <| c_ret <| x_qs_ret <| xr 4 rfl (by cases H; exact q1)
 ·exact c_skip <| x_qs <| c_seq <| c_reg <| ow_batch [.p, .p] rfl <| ow_nil <| x_qs <| c_ret <| xr 4 rfl (by cases H; exact q1)
theorem laws_szPairS_ok (w : World) {p0 : List Tlaws_Pair} {p1 : Int} {a_0 : Option Addr} {n_0 c_0 : Nat} {r : Int} (H : laws_szPairS p0 p1 = some r)  (g0 : (eList (eTlaws_Pair) 270).rd w [] p0 [.slice a_0 n_0 c_0]) :
    Calls Tryz.prog 178 #[.slice a_0 n_0 c_0, .int .i64 p1] w (fun en w' => en = .returned (.int .i64 r) ∧ Ext [] w w') := by
 obtain rfl := rd_n g0
 unfold laws_szPairS at H
 refine f_enter (vs := [.slice a_0 p0.length c_0, .int .i64 p1]) Tryz.func178 rfl Tryz.ntmps178 rfl (St.init w []) <| c_seq <| c_reg <| ow_batch [.p] rfl <| ow_nil <| x_qs <| c_seq <| c_reg <| ow_batch [.p, .p, .lenS 96 270 sl96, .p, .p] rfl <| ow_nil <| x_qs <| c_seq <| c_seq <| c_reg <| ow_batch [.p, .p] rfl <| ow_nil <| x_qs <| cI H rfl (fun H => ?_) (fun H => ?_)
 ·exact c_seq <| c_reg <| ow_batch [.p] rfl <| ow_nil <| x_qs <| c_ret <| x_qs_ret <| xr 4 rfl (by cases H; exact q1)
 ·exact c_skip <| x_qs <| c_seq <| c_reg <| ow_batch [.p, .p] rfl <| ow_nil <| x_qs <| c_ret <| xr 4 rfl (by cases H; exact q1)
theorem laws_szScore_ok (w : World) {p0 : Tlaws_Score} {p1 : Int} {cs0 : List Value} {r : Int} (H : laws_szScore p0 p1 = some r)  (g0 : (eTlaws_Score).rd w [] p0 cs0) :
    Calls Tryz.prog 113 #[.agg cs0.toArray, .int .i64 p1] w (fun en w' => en = .returned (.int .i64 r) ∧ Ext [] w w') := by
 obtain ⟨c10, c11, rfl, g12, g13⟩ := rdo_Tlaws_Score g0
 obtain ⟨a14, c15, rfl⟩ := rd_sl1 g12
 obtain ⟨a16, c17, rfl⟩ := rd_sl1 g13
 unfold laws_szScore at H
 refine f_enter (vs := [.agg #[.slice a14 p0.Table_.length c15, .slice a16 p0.Last_.length c17], .int .i64 p1]) Tryz.func113 rfl Tryz.ntmps113 rfl (St.init w []) <| c_seq <| c_reg <| ob [.slice a14 p0.Table_.length c15, .slice a16 p0.Last_.length c17] rfl fun b18 => ow_batch [.p] rfl <| ow_nil <| x_qs <| c_seq <| c_reg <| ow_batch [.fa 98 0 0 fa98_0] rfl <| o1 rfl (r1 0 0 rfl ty60 rfl) <| ow_batch [.p] rfl <| bE H fun y19 h20 H => oq rfl (qc rfl fn177 (fun w1 hw1 => laws_szIntSS_ok w1  h20 (rds_bor g12 w1 hw1))) tt2 <| ow_batch [.p] rfl <| ow_nil <| x_qs <| c_seq <| c_seq <| c_reg <| ow_batch [.p, .p] rfl <| ow_nil <| x_qs <| cI H rfl (fun H => ?_) (fun H => ?_)
 ·exact c_seq <| c_reg <| ow_batch [.p] rfl <| ow_nil <| x_qs <| c_ret <| x_qs_ret <| xr 4 rfl (by cases H; exact q1)
 ·refine c_skip <| x_qs <| c_seq <| c_reg <| ow_batch [.fa 98 1 1 fa98_1] rfl <| o1 rfl (r1 1 0 rfl ty96 rfl) <| ow_batch [.p] rfl <| bE H fun y21 h22 H => oq rfl (qc rfl fn178 (fun w1 hw1 => laws_szPairS_ok w1  h22 (rds_bor g13 w1 hw1))) tt2 <| ow_batch [.p] rfl <| ow_nil <| x_qs <| c_seq <| c_seq <| c_reg <| ow_batch [.p, .p] rfl <| ow_nil <| x_qs <| cI H rfl (fun H => ?_) (fun H => ?_)
  ·exact c_seq <| c_reg <| ow_batch [.p] rfl <| ow_nil <| x_qs <| c_ret <| x_qs_ret <| xr 4 rfl (by cases H; exact q1)
  ·exact c_skip <| x_qs <| c_seq <| c_reg <| ow_batch [.p, .p] rfl <| ow_nil <| x_qs <| c_ret <| xr 4 rfl (by cases H; exact q1)
theorem laws_szState_ok (w : World) {p0 : Tlaws_State} {p1 : Int} {cs0 : List Value} {r : Int} (H : laws_szState p0 p1 = some r)  (g0 : (eTlaws_State).rd w [] p0 cs0) :
    Calls Tryz.prog 45 #[.agg cs0.toArray, .int .i64 p1] w (fun en w' => en = .returned (.int .i64 r) ∧ Ext [] w w') := by
 obtain ⟨c10, c11, c12, rfl, g13, g14, g15⟩ := rdo_Tlaws_State g0
 obtain ⟨c16, c17, c18, c19, c20, c21, c22, rfl, g23, g24, g25, g26, g27, g28, g29⟩ := rdo_Tlaws_Conf g13
 obtain ⟨c30, c31, rfl, g32, g33⟩ := rdo_Tlaws_Schema g23
 obtain ⟨a34, c35, rfl⟩ := rd_sl1 g32
 obtain ⟨a36, c37, rfl⟩ := rd_sl1 g33
 obtain rfl : c17 = [.int .i64 p0.Conf_.Rule_.Sure_, .int .i64 p0.Conf_.Rule_.Tie_, .int .i64 p0.Conf_.Rule_.Grace_, .int .i64 p0.Conf_.Rule_.Depth_, .int .i64 p0.Conf_.Rule_.Nodes_, .int .i64 p0.Conf_.Rule_.Units_, .bool p0.Conf_.Rule_.Two_] := g24
 obtain rfl : c18 = [.int .i64 p0.Conf_.Members_] := g25
 obtain rfl : c19 = [.int .i64 p0.Conf_.Pick_] := g26
 obtain rfl : c20 = [.int .i64 p0.Conf_.Lambda_] := g27
 obtain rfl : c21 = [.int .i64 p0.Conf_.Warn_] := g28
 obtain rfl : c22 = [.int .i64 p0.Conf_.Drift_] := g29
 obtain ⟨c38, rfl, g39⟩ := rdo_Tlaws_Forest g14
 obtain ⟨a40, c41, rfl⟩ := rd_sl1 g39
 obtain ⟨c42, c43, rfl, g44, g45⟩ := rdo_Tlaws_Score g15
 obtain ⟨a46, c47, rfl⟩ := rd_sl1 g44
 obtain ⟨a48, c49, rfl⟩ := rd_sl1 g45
 unfold laws_szState at H
 refine f_enter (vs := [.agg #[.slice a34 p0.Conf_.Schema_.Attrs_.length c35, .slice a36 p0.Conf_.Schema_.Classes_.length c37, .int .i64 p0.Conf_.Rule_.Sure_, .int .i64 p0.Conf_.Rule_.Tie_, .int .i64 p0.Conf_.Rule_.Grace_, .int .i64 p0.Conf_.Rule_.Depth_, .int .i64 p0.Conf_.Rule_.Nodes_, .int .i64 p0.Conf_.Rule_.Units_, .bool p0.Conf_.Rule_.Two_, .int .i64 p0.Conf_.Members_, .int .i64 p0.Conf_.Pick_, .int .i64 p0.Conf_.Lambda_, .int .i64 p0.Conf_.Warn_, .int .i64 p0.Conf_.Drift_, .slice a40 p0.Forest_.Members_.length c41, .slice a46 p0.Score_.Table_.length c47, .slice a48 p0.Score_.Last_.length c49], .int .i64 p1]) Tryz.func45 rfl Tryz.ntmps45 rfl (St.init w []) <| c_seq <| c_reg <| ob [.slice a34 p0.Conf_.Schema_.Attrs_.length c35, .slice a36 p0.Conf_.Schema_.Classes_.length c37, .int .i64 p0.Conf_.Rule_.Sure_, .int .i64 p0.Conf_.Rule_.Tie_, .int .i64 p0.Conf_.Rule_.Grace_, .int .i64 p0.Conf_.Rule_.Depth_, .int .i64 p0.Conf_.Rule_.Nodes_, .int .i64 p0.Conf_.Rule_.Units_, .bool p0.Conf_.Rule_.Two_, .int .i64 p0.Conf_.Members_, .int .i64 p0.Conf_.Pick_, .int .i64 p0.Conf_.Lambda_, .int .i64 p0.Conf_.Warn_, .int .i64 p0.Conf_.Drift_, .slice a40 p0.Forest_.Members_.length c41, .slice a46 p0.Score_.Table_.length c47, .slice a48 p0.Score_.Last_.length c49] rfl fun b50 => ow_batch [.p] rfl <| ow_nil <| x_qs <| c_seq <| c_reg <| ow_batch [.fa 100 0 0 fa100_0] rfl <| o1 rfl (rx 0 0 [.slice a34 p0.Conf_.Schema_.Attrs_.length c35, .slice a36 p0.Conf_.Schema_.Classes_.length c37, .int .i64 p0.Conf_.Rule_.Sure_, .int .i64 p0.Conf_.Rule_.Tie_, .int .i64 p0.Conf_.Rule_.Grace_, .int .i64 p0.Conf_.Rule_.Depth_, .int .i64 p0.Conf_.Rule_.Nodes_, .int .i64 p0.Conf_.Rule_.Units_, .bool p0.Conf_.Rule_.Two_, .int .i64 p0.Conf_.Members_, .int .i64 p0.Conf_.Pick_, .int .i64 p0.Conf_.Lambda_, .int .i64 p0.Conf_.Warn_, .int .i64 p0.Conf_.Drift_] rfl ty69 rfl) <| ow_batch [.p] rfl <| bE H fun y51 h52 H => oq rfl (qc rfl fn33 (fun w1 hw1 => laws_szConf_ok w1 (cs0 := [.slice a34 p0.Conf_.Schema_.Attrs_.length c35, .slice a36 p0.Conf_.Schema_.Classes_.length c37, .int .i64 p0.Conf_.Rule_.Sure_, .int .i64 p0.Conf_.Rule_.Tie_, .int .i64 p0.Conf_.Rule_.Grace_, .int .i64 p0.Conf_.Rule_.Depth_, .int .i64 p0.Conf_.Rule_.Nodes_, .int .i64 p0.Conf_.Rule_.Units_, .bool p0.Conf_.Rule_.Two_, .int .i64 p0.Conf_.Members_, .int .i64 p0.Conf_.Pick_, .int .i64 p0.Conf_.Lambda_, .int .i64 p0.Conf_.Warn_, .int .i64 p0.Conf_.Drift_]) h52 (rdm_Tlaws_Conf (x := p0.Conf_) (c0 := [.slice a34 p0.Conf_.Schema_.Attrs_.length c35, .slice a36 p0.Conf_.Schema_.Classes_.length c37]) (c1 := [.int .i64 p0.Conf_.Rule_.Sure_, .int .i64 p0.Conf_.Rule_.Tie_, .int .i64 p0.Conf_.Rule_.Grace_, .int .i64 p0.Conf_.Rule_.Depth_, .int .i64 p0.Conf_.Rule_.Nodes_, .int .i64 p0.Conf_.Rule_.Units_, .bool p0.Conf_.Rule_.Two_]) (c2 := [.int .i64 p0.Conf_.Members_]) (c3 := [.int .i64 p0.Conf_.Pick_]) (c4 := [.int .i64 p0.Conf_.Lambda_]) (c5 := [.int .i64 p0.Conf_.Warn_]) (c6 := [.int .i64 p0.Conf_.Drift_]) (rdm_Tlaws_Schema (x := p0.Conf_.Schema_) (c0 := [.slice a34 p0.Conf_.Schema_.Attrs_.length c35]) (c1 := [.slice a36 p0.Conf_.Schema_.Classes_.length c37]) (rds_bor g32 w1 hw1) (rds_bor g33 w1 hw1)) rfl rfl rfl rfl rfl rfl))) tt2 <| ow_batch [.p] rfl <| ow_nil <| x_qs <| c_seq <| c_seq <| c_reg <| ow_batch [.p, .p] rfl <| ow_nil <| x_qs <| cI H rfl (fun H => ?_) (fun H => ?_)
 ·exact c_seq <| c_reg <| ow_batch [.p] rfl <| ow_nil <| x_qs <| c_ret <| x_qs_ret <| xr 4 rfl (by cases H; exact q1)
 ·refine c_skip <| x_qs <| c_seq <| c_reg <| ow_batch [.fa 100 1 14 fa100_1] rfl <| o1 rfl (rx 14 0 [.slice a40 p0.Forest_.Members_.length c41] rfl ty95 rfl) <| ow_batch [.p] rfl <| bE H fun y53 h54 H => oq rfl (qc rfl fn112 (fun w1 hw1 => laws_szForest_ok w1 (cs0 := [.slice a40 p0.Forest_.Members_.length c41]) h54 (rdm_Tlaws_Forest (x := p0.Forest_) (c0 := [.slice a40 p0.Forest_.Members_.length c41]) (rds_bor g39 w1 hw1)))) tt2 <| ow_batch [.p] rfl <| ow_nil <| x_qs <| c_seq <| c_seq <| c_reg <| ow_batch [.p, .p] rfl <| ow_nil <| x_qs <| cI H rfl (fun H => ?_) (fun H => ?_)
  ·exact c_seq <| c_reg <| ow_batch [.p] rfl <| ow_nil <| x_qs <| c_ret <| x_qs_ret <| xr 4 rfl (by cases H; exact q1)
  ·refine c_skip <| x_qs <| c_seq <| c_reg <| ow_batch [.fa 100 2 15 fa100_2] rfl <| o1 rfl (rx 15 0 [.slice a46 p0.Score_.Table_.length c47, .slice a48 p0.Score_.Last_.length c49] rfl ty98 rfl) <| ow_batch [.p] rfl <| bE H fun y55 h56 H => oq rfl (qc rfl fn113 (fun w1 hw1 => laws_szScore_ok w1 (cs0 := [.slice a46 p0.Score_.Table_.length c47, .slice a48 p0.Score_.Last_.length c49]) h56 (rdm_Tlaws_Score (x := p0.Score_) (c0 := [.slice a46 p0.Score_.Table_.length c47]) (c1 := [.slice a48 p0.Score_.Last_.length c49]) (rds_bor g44 w1 hw1) (rds_bor g45 w1 hw1)))) tt2 <| ow_batch [.p] rfl <| ow_nil <| x_qs <| c_seq <| c_seq <| c_reg <| ow_batch [.p, .p] rfl <| ow_nil <| x_qs <| cI H rfl (fun H => ?_) (fun H => ?_)
   ·exact c_seq <| c_reg <| ow_batch [.p] rfl <| ow_nil <| x_qs <| c_ret <| x_qs_ret <| xr 4 rfl (by cases H; exact q1)
   ·exact c_skip <| x_qs <| c_seq <| c_reg <| ow_batch [.p, .p] rfl <| ow_nil <| x_qs <| c_ret <| xr 4 rfl (by cases H; exact q1)
theorem laws_toConf_ok (w : World) {M0 : List Nat} {p0 : Tlaws_Conf} {cs0 : List Value} {r : Timpl_Conf} (H : laws_toConf p0 = some r) (HS : St w M0 [] w) (g0 : (eTlaws_Conf).rd w M0 p0 cs0) :
    Calls Tryz.prog 35 #[.agg cs0.toArray] w (fun en w' => ∃ v, en = .returned v ∧ ∃ (a0 : Option Addr), ∃ (n0 : Nat), ∃ (c0 : Nat), ∃ (F0 : List Nat), ∃ (a1 : Option Addr), ∃ (n1 : Nat), ∃ (c1 : Nat), ∃ (F1 : List Nat), v = .agg #[.slice a0 n0 c0, .slice a1 n1 c1, .int .i64 r.Rule_.Sure_, .int .i64 r.Rule_.Tie_, .int .i64 r.Rule_.Grace_, .int .i64 r.Rule_.Depth_, .int .i64 r.Rule_.Nodes_, .int .i64 r.Rule_.Units_, .bool r.Rule_.Two_, .int .i64 r.Members_, .int .i64 r.Pick_, .int .i64 r.Lambda_, .int .i64 r.Warn_, .int .i64 r.Drift_] ∧ St w M0 [Res.own (eList (eTimpl_Attr) 114) F0 r.Schema_.Attrs_ [.slice a0 n0 c0], Res.own (eList (eStr) 9) F1 r.Schema_.Classes_ [.slice a1 n1 c1]] w') := by
 obtain ⟨c10, c11, c12, c13, c14, c15, c16, rfl, g17, g18, g19, g20, g21, g22, g23⟩ := rdo_Tlaws_Conf g0
 obtain ⟨c24, c25, rfl, g26, g27⟩ := rdo_Tlaws_Schema g17
 obtain ⟨a28, c29, rfl⟩ := rd_sl1 g26
 obtain ⟨a30, c31, rfl⟩ := rd_sl1 g27
 obtain rfl : c11 = [.int .i64 p0.Rule_.Sure_, .int .i64 p0.Rule_.Tie_, .int .i64 p0.Rule_.Grace_, .int .i64 p0.Rule_.Depth_, .int .i64 p0.Rule_.Nodes_, .int .i64 p0.Rule_.Units_, .bool p0.Rule_.Two_] := g18
 obtain rfl : c12 = [.int .i64 p0.Members_] := g19
 obtain rfl : c13 = [.int .i64 p0.Pick_] := g20
 obtain rfl : c14 = [.int .i64 p0.Lambda_] := g21
 obtain rfl : c15 = [.int .i64 p0.Warn_] := g22
 obtain rfl : c16 = [.int .i64 p0.Drift_] := g23
 unfold laws_toConf at H
 refine f_enter (vs := [.agg #[.slice a28 p0.Schema_.Attrs_.length c29, .slice a30 p0.Schema_.Classes_.length c31, .int .i64 p0.Rule_.Sure_, .int .i64 p0.Rule_.Tie_, .int .i64 p0.Rule_.Grace_, .int .i64 p0.Rule_.Depth_, .int .i64 p0.Rule_.Nodes_, .int .i64 p0.Rule_.Units_, .bool p0.Rule_.Two_, .int .i64 p0.Members_, .int .i64 p0.Pick_, .int .i64 p0.Lambda_, .int .i64 p0.Warn_, .int .i64 p0.Drift_]]) Tryz.func35 rfl Tryz.ntmps35 rfl (HS) <| c_seq <| c_reg <| ob [.slice a28 p0.Schema_.Attrs_.length c29, .slice a30 p0.Schema_.Classes_.length c31, .int .i64 p0.Rule_.Sure_, .int .i64 p0.Rule_.Tie_, .int .i64 p0.Rule_.Grace_, .int .i64 p0.Rule_.Depth_, .int .i64 p0.Rule_.Nodes_, .int .i64 p0.Rule_.Units_, .bool p0.Rule_.Two_, .int .i64 p0.Members_, .int .i64 p0.Pick_, .int .i64 p0.Lambda_, .int .i64 p0.Warn_, .int .i64 p0.Drift_] rfl fun b32 => ow_alloc rfl rfl rfl rfl ty73 (fun _ => kp) fun b33 => ow_nil <| x_qs <| c_seq <| c_reg <| ow_alloc rfl rfl rfl rfl ty73 (fun _ => kp) fun b34 => ow_nil <| x_qs <| c_seq <| c_reg <| ow_batch [.fa 69 0 0 fa69_0] rfl <| o1 rfl (rx 0 0 [.slice a28 p0.Schema_.Attrs_.length c29, .slice a30 p0.Schema_.Classes_.length c31] rfl ty25 rfl) <| bE H fun y35 h36 H => ow_callS rfl fn11 rfl rfl rfl rfl (fun w1 hw1 => laws_toSchema_ok w1 (cs0 := [.slice a28 p0.Schema_.Attrs_.length c29, .slice a30 p0.Schema_.Classes_.length c31]) h36 (hw1.carve [] rfl rfl) (rdm_Tlaws_Schema (x := p0.Schema_) (c0 := [.slice a28 p0.Schema_.Attrs_.length c29]) (c1 := [.slice a30 p0.Schema_.Classes_.length c31]) (rds_bor g26 w1 hw1) (rds_bor g27 w1 hw1))) fun v37 w1 w2 hw1 hR39 => ?_
 obtain ⟨a40, n41, c42, F43, a44, n45, c46, F47, rfl, hS38⟩ := hR39
 obtain rfl := own_nS (i := 0) hS38 rfl
 obtain rfl := own_nS (i := 1) hS38 rfl
 refine ⟨St w M0 [_, _, _, _, _], hw1.comp [] rfl rfl hS38, fun _ _ => trivial, ?_⟩
 refine ow_batch [.fa 73 0 0 fa73_0] rfl <| sC 0 [.slice a40 y35.Attrs_.length c42, .slice a44 y35.Classes_.length c46] [_, _, _, _, _, _, _, _, _, _, _, _, _, _] 2 rfl ty35 rfl <| ow_nil <| x_qs <| c_seq <| c_reg <| ow_batch [.fa 69 1 2 fa69_1] rfl <| o1 rfl (rx 2 0 [.int .i64 p0.Rule_.Sure_, .int .i64 p0.Rule_.Tie_, .int .i64 p0.Rule_.Grace_, .int .i64 p0.Rule_.Depth_, .int .i64 p0.Rule_.Nodes_, .int .i64 p0.Rule_.Units_, .bool p0.Rule_.Two_] rfl ty49 rfl) <| bE H fun y48 h49 H => oq rfl (qc rfl fn23 (fun w1 hw1 => laws_toRule_ok w1 (p0 := p0.Rule_) h49)) tt2 <| ow_batch [.fa 73 1 2 fa73_1] rfl <| sC 2 [.int .i64 y48.Sure_, .int .i64 y48.Tie_, .int .i64 y48.Grace_, .int .i64 y48.Depth_, .int .i64 y48.Nodes_, .int .i64 y48.Units_, .bool y48.Two_] [_, _, _, _, _, _, _, _, _, _, _, _, _, _] 2 rfl ty53 rfl <| ow_nil <| x_qs <| c_seq <| c_reg <| ow_batch [.fa 69 2 9 fa69_2] rfl <| o1 rfl (r1 9 0 rfl ty3 rfl) <| ow_batch [.fa 73 2 9 fa73_2] rfl <| sC 9 [.int .i64 p0.Members_] [_, _, _, _, _, _, _, _, _, _, _, _, _, _] 2 rfl ty3 rfl <| ow_nil <| x_qs <| c_seq <| c_reg <| ow_batch [.fa 69 3 10 fa69_3] rfl <| o1 rfl (r1 10 0 rfl ty3 rfl) <| ow_batch [.fa 73 3 10 fa73_3] rfl <| sC 10 [.int .i64 p0.Pick_] [_, _, _, _, _, _, _, _, _, _, _, _, _, _] 2 rfl ty3 rfl <| ow_nil <| x_qs <| c_seq <| c_reg <| ow_batch [.fa 69 4 11 fa69_4] rfl <| o1 rfl (r1 11 0 rfl ty3 rfl) <| ow_batch [.fa 73 4 11 fa73_4] rfl <| sC 11 [.int .i64 p0.Lambda_] [_, _, _, _, _, _, _, _, _, _, _, _, _, _] 2 rfl ty3 rfl <| ow_nil <| x_qs <| c_seq <| c_reg <| ?_
 refine ow_batch [.fa 69 5 12 fa69_5] rfl <| o1 rfl (r1 12 0 rfl ty3 rfl) <| ow_batch [.fa 73 5 12 fa73_5] rfl <| sC 12 [.int .i64 p0.Warn_] [_, _, _, _, _, _, _, _, _, _, _, _, _, _] 2 rfl ty3 rfl <| ow_nil <| x_qs <| c_seq <| CW.weak (C' := St w M0 [_, _, _, _, _]) ?_ (fun _ h => St.sel [0, 1, 2, 3, 4] rfl rfl h)
 exact c_reg <| ow_batch [.fa 69 6 13 fa69_6] rfl <| o1 rfl (r1 13 0 rfl ty3 rfl) <| ow_batch [.fa 73 6 13 fa73_6] rfl <| sC 13 [.int .i64 p0.Drift_] [_, _, _, _, _, _, _, _, _, _, _, _, _, _] 2 rfl ty3 rfl <| ow_nil <| x_qs <| c_seq <| c_reg <| o1 rfl (rx 0 2 [.slice a40 y35.Attrs_.length c42, .slice a44 y35.Classes_.length c46, .int .i64 y48.Sure_, .int .i64 y48.Tie_, .int .i64 y48.Grace_, .int .i64 y48.Depth_, .int .i64 y48.Nodes_, .int .i64 y48.Units_, .bool y48.Two_, .int .i64 p0.Members_, .int .i64 p0.Pick_, .int .i64 p0.Lambda_, .int .i64 p0.Warn_, .int .i64 p0.Drift_] rfl ty73 rfl) <| sC 0 [.slice a40 y35.Attrs_.length c42, .slice a44 y35.Classes_.length c46, .int .i64 y48.Sure_, .int .i64 y48.Tie_, .int .i64 y48.Grace_, .int .i64 y48.Depth_, .int .i64 y48.Nodes_, .int .i64 y48.Units_, .bool y48.Two_, .int .i64 p0.Members_, .int .i64 p0.Pick_, .int .i64 p0.Lambda_, .int .i64 p0.Warn_, .int .i64 p0.Drift_] [_, _, _, _, _, _, _, _, _, _, _, _, _, _] 1 rfl ty73 rfl <| ow_nil <| x_qs <| c_ret <| x_retR (rs := [.cell 2 73]) (vs := [.agg #[.slice a40 y35.Attrs_.length c42, .slice a44 y35.Classes_.length c46, .int .i64 y48.Sure_, .int .i64 y48.Tie_, .int .i64 y48.Grace_, .int .i64 y48.Depth_, .int .i64 y48.Nodes_, .int .i64 y48.Units_, .bool y48.Two_, .int .i64 p0.Members_, .int .i64 p0.Pick_, .int .i64 p0.Lambda_, .int .i64 p0.Warn_, .int .i64 p0.Drift_]]) rfl ⟨⟨_, [.slice a40 y35.Attrs_.length c42, .slice a44 y35.Classes_.length c46, .int .i64 y48.Sure_, .int .i64 y48.Tie_, .int .i64 y48.Grace_, .int .i64 y48.Depth_, .int .i64 y48.Nodes_, .int .i64 y48.Units_, .bool y48.Two_, .int .i64 p0.Members_, .int .i64 p0.Pick_, .int .i64 p0.Lambda_, .int .i64 p0.Warn_, .int .i64 p0.Drift_], _, _, _, rfl, ty73, (at_box (T := 73) 0 (boxIn (i := 1) rfl) rfl), rfl, rfl⟩, trivial⟩ (fun w' hw' => by
  obtain rfl := of_some H
  exact ⟨_, rfl, a40, y35.Attrs_.length, c42, F43, a44, y35.Classes_.length, c46, F47, rfl, hw'.sel [3, 4] rfl rfl⟩)
theorem laws_toWindow_ok (w : World) {M0 : List Nat} {p0 : Tlaws_Window} {cs0 : List Value} {r : Timpl_Window} (H : laws_toWindow p0 = some r) (HS : St w M0 [] w) (g0 : (eTlaws_Window).rd w M0 p0 cs0) :
    Calls Tryz.prog 270 #[.agg cs0.toArray] w (fun en w' => ∃ v, en = .returned v ∧ ∃ (a0 : Option Addr), ∃ (n0 : Nat), ∃ (c0 : Nat), ∃ (F0 : List Nat), v = .agg #[.slice a0 n0 c0] ∧ St w M0 [Res.own (eList (eList (eVal (Value.int .i64) (fun _ => rfl)) 3) 59) F0 r.Rows_ [.slice a0 n0 c0]] w') := by
 obtain ⟨c10, rfl, g11⟩ := rdo_Tlaws_Window g0
 obtain ⟨a12, c13, rfl⟩ := rd_sl1 g11
 unfold laws_toWindow at H
 refine f_enter (vs := [.agg #[.slice a12 p0.Rows_.length c13]]) Tryz.func270 rfl Tryz.ntmps270 rfl (HS) <| c_seq <| c_reg <| ob [.slice a12 p0.Rows_.length c13] rfl fun b14 => ow_alloc rfl rfl rfl rfl ty212 (fun _ => kp) fun b15 => ow_nil <| x_qs <| c_seq <| c_reg <| ow_alloc rfl rfl rfl rfl ty212 (fun _ => kp) fun b16 => ow_nil <| x_qs <| c_seq <| c_reg <| ow_batch [.fa 261 0 0 fa261_0] rfl <| o1 rfl (r1 0 0 rfl ty60 rfl) <| bE H fun y17 h18 H => ow_callS rfl fn183 rfl rfl rfl rfl (fun w1 hw1 => laws_toIntSS_ok w1  h18 (hw1.carve [] rfl rfl) (rds_bor g11 w1 hw1)) fun v19 w1 w2 hw1 hR21 => ?_
 obtain ⟨a22, n23, c24, F25, rfl, hS20⟩ := hR21
 obtain rfl := own_nS (i := 0) hS20 rfl
 refine ⟨St w M0 [_, _, _, _], hw1.comp [] rfl rfl hS20, fun _ _ => trivial, ?_⟩
 exact ow_batch [.fa 212 0 0 fa212_0] rfl <| sC 0 [.slice a22 y17.length c24] [_] 2 rfl ty60 rfl <| ow_nil <| x_qs <| c_seq <| c_reg <| o1 rfl (rx 0 2 [.slice a22 y17.length c24] rfl ty212 rfl) <| sC 0 [.slice a22 y17.length c24] [_] 1 rfl ty212 rfl <| ow_nil <| x_qs <| c_ret <| x_retR (rs := [.cell 2 212]) (vs := [.agg #[.slice a22 y17.length c24]]) rfl ⟨⟨_, [.slice a22 y17.length c24], _, _, _, rfl, ty212, (at_box (T := 212) 0 (boxIn (i := 1) rfl) rfl), rfl, rfl⟩, trivial⟩ (fun w' hw' => by
  obtain rfl := of_some H
  exact ⟨_, rfl, a22, y17.length, c24, F25, rfl, hw'.sel [3] rfl rfl⟩)
theorem laws_toDet_ok (w : World) {M0 : List Nat} {p0 : Tlaws_Det} {cs0 : List Value} {r : Timpl_Det} (H : laws_toDet p0 = some r) (HS : St w M0 [] w) (g0 : (eTlaws_Det).rd w M0 p0 cs0) :
    Calls Tryz.prog 253 #[.agg cs0.toArray] w (fun en w' => ∃ v, en = .returned v ∧ ∃ (a0 : Option Addr), ∃ (n0 : Nat), ∃ (c0 : Nat), ∃ (F0 : List Nat), ∃ (a1 : Option Addr), ∃ (n1 : Nat), ∃ (c1 : Nat), ∃ (F1 : List Nat), v = .agg #[.slice a0 n0 c0, .slice a1 n1 c1] ∧ St w M0 [Res.own (eList (eList (eVal (Value.int .i64) (fun _ => rfl)) 3) 59) F0 r.Warn_.Rows_ [.slice a0 n0 c0], Res.own (eList (eList (eVal (Value.int .i64) (fun _ => rfl)) 3) 59) F1 r.Drift_.Rows_ [.slice a1 n1 c1]] w') := by
 obtain ⟨c10, c11, rfl, g12, g13⟩ := rdo_Tlaws_Det g0
 obtain ⟨c14, rfl, g15⟩ := rdo_Tlaws_Window g12
 obtain ⟨a16, c17, rfl⟩ := rd_sl1 g15
 obtain ⟨c18, rfl, g19⟩ := rdo_Tlaws_Window g13
 obtain ⟨a20, c21, rfl⟩ := rd_sl1 g19
 unfold laws_toDet at H
 refine f_enter (vs := [.agg #[.slice a16 p0.Warn_.Rows_.length c17, .slice a20 p0.Drift_.Rows_.length c21]]) Tryz.func253 rfl Tryz.ntmps253 rfl (HS) <| c_seq <| c_reg <| ob [.slice a16 p0.Warn_.Rows_.length c17, .slice a20 p0.Drift_.Rows_.length c21] rfl fun b22 => ow_alloc rfl rfl rfl rfl ty214 (fun _ => kp) fun b23 => ow_nil <| x_qs <| c_seq <| c_reg <| ow_alloc rfl rfl rfl rfl ty214 (fun _ => kp) fun b24 => ow_nil <| x_qs <| c_seq <| c_reg <| ow_batch [.fa 263 0 0 fa263_0] rfl <| o1 rfl (rx 0 0 [.slice a16 p0.Warn_.Rows_.length c17] rfl ty261 rfl) <| bE H fun y25 h26 H => ow_callS rfl fn270 rfl rfl rfl rfl (fun w1 hw1 => laws_toWindow_ok w1 (cs0 := [.slice a16 p0.Warn_.Rows_.length c17]) h26 (hw1.carve [] rfl rfl) (rdm_Tlaws_Window (x := p0.Warn_) (c0 := [.slice a16 p0.Warn_.Rows_.length c17]) (rds_bor g15 w1 hw1))) fun v27 w1 w2 hw1 hR29 => ?_
 obtain ⟨a30, n31, c32, F33, rfl, hS28⟩ := hR29
 obtain rfl := own_nS (i := 0) hS28 rfl
 refine ⟨St w M0 [_, _, _, _], hw1.comp [] rfl rfl hS28, fun _ _ => trivial, ?_⟩
 refine ow_batch [.fa 214 0 0 fa214_0] rfl <| sC 0 [.slice a30 y25.Rows_.length c32] [_, _] 2 rfl ty212 rfl <| ow_nil <| x_qs <| c_seq <| c_reg <| ow_batch [.fa 263 1 1 fa263_1] rfl <| o1 rfl (rx 1 0 [.slice a20 p0.Drift_.Rows_.length c21] rfl ty261 rfl) <| bE H fun y34 h35 H => ow_callS rfl fn270 rfl rfl rfl rfl (fun w1 hw1 => laws_toWindow_ok w1 (cs0 := [.slice a20 p0.Drift_.Rows_.length c21]) h35 (hw1.carve [] rfl rfl) (rdm_Tlaws_Window (x := p0.Drift_) (c0 := [.slice a20 p0.Drift_.Rows_.length c21]) (rds_bor g19 w1 hw1))) fun v36 w1 w2 hw1 hR38 => ?_
 obtain ⟨a39, n40, c41, F42, rfl, hS37⟩ := hR38
 obtain rfl := own_nS (i := 0) hS37 rfl
 refine ⟨St w M0 [_, _, _, _, _], hw1.comp [] rfl rfl hS37, fun _ _ => trivial, ?_⟩
 exact ow_batch [.fa 214 1 1 fa214_1] rfl <| sC 1 [.slice a39 y34.Rows_.length c41] [_, _] 2 rfl ty212 rfl <| ow_nil <| x_qs <| c_seq <| c_reg <| o1 rfl (rx 0 2 [.slice a30 y25.Rows_.length c32, .slice a39 y34.Rows_.length c41] rfl ty214 rfl) <| sC 0 [.slice a30 y25.Rows_.length c32, .slice a39 y34.Rows_.length c41] [_, _] 1 rfl ty214 rfl <| ow_nil <| x_qs <| c_ret <| x_retR (rs := [.cell 2 214]) (vs := [.agg #[.slice a30 y25.Rows_.length c32, .slice a39 y34.Rows_.length c41]]) rfl ⟨⟨_, [.slice a30 y25.Rows_.length c32, .slice a39 y34.Rows_.length c41], _, _, _, rfl, ty214, (at_box (T := 214) 0 (boxIn (i := 1) rfl) rfl), rfl, rfl⟩, trivial⟩ (fun w' hw' => by
  obtain rfl := of_some H
  exact ⟨_, rfl, a30, y25.Rows_.length, c32, F33, a39, y34.Rows_.length, c41, F42, rfl, hw'.sel [3, 4] rfl rfl⟩)
theorem laws_toMember_ok (w : World) {M0 : List Nat} {p0 : Tlaws_Member} {cs0 : List Value} {r : Timpl_Member} (H : laws_toMember p0 = some r) (HS : St w M0 [] w) (g0 : (eTlaws_Member).rd w M0 p0 cs0) :
    Calls Tryz.prog 232 #[.agg cs0.toArray] w (fun en w' => ∃ v, en = .returned v ∧ ∃ (a0 : Option Addr), ∃ (n0 : Nat), ∃ (c0 : Nat), ∃ (F0 : List Nat), ∃ (a1 : Option Addr), ∃ (n1 : Nat), ∃ (c1 : Nat), ∃ (F1 : List Nat), ∃ (a2 : Option Addr), ∃ (n2 : Nat), ∃ (c2 : Nat), ∃ (F2 : List Nat), ∃ (a3 : Option Addr), ∃ (n3 : Nat), ∃ (c3 : Nat), ∃ (F3 : List Nat), v = .agg #[.slice a0 n0 c0, .int .i64 r.Tree_.Seen_, .bool r.HasYoung_, .slice a1 n1 c1, .int .i64 r.Young_.Seen_, .slice a2 n2 c2, .slice a3 n3 c3] ∧ St w M0 [Res.own (eList (eTimpl_Node) 118) F0 r.Tree_.Nodes_ [.slice a0 n0 c0], Res.own (eList (eTimpl_Node) 118) F1 r.Young_.Nodes_ [.slice a1 n1 c1], Res.own (eList (eList (eVal (Value.int .i64) (fun _ => rfl)) 3) 59) F2 r.Det_.Warn_.Rows_ [.slice a2 n2 c2], Res.own (eList (eList (eVal (Value.int .i64) (fun _ => rfl)) 3) 59) F3 r.Det_.Drift_.Rows_ [.slice a3 n3 c3]] w') := by
 obtain ⟨c10, c11, c12, c13, rfl, g14, g15, g16, g17⟩ := rdo_Tlaws_Member g0
 obtain ⟨c18, c19, rfl, g20, g21⟩ := rdo_Tlaws_Tree g14
 obtain ⟨a22, c23, rfl⟩ := rd_sl1 g20
 obtain rfl : c19 = [.int .i64 p0.Tree_.Seen_] := g21
 obtain rfl : c11 = [.bool p0.HasYoung_] := g15
 obtain ⟨c24, c25, rfl, g26, g27⟩ := rdo_Tlaws_Tree g16
 obtain ⟨a28, c29, rfl⟩ := rd_sl1 g26
 obtain rfl : c25 = [.int .i64 p0.Young_.Seen_] := g27
 obtain ⟨c30, c31, rfl, g32, g33⟩ := rdo_Tlaws_Det g17
 obtain ⟨c34, rfl, g35⟩ := rdo_Tlaws_Window g32
 obtain ⟨a36, c37, rfl⟩ := rd_sl1 g35
 obtain ⟨c38, rfl, g39⟩ := rdo_Tlaws_Window g33
 obtain ⟨a40, c41, rfl⟩ := rd_sl1 g39
 unfold laws_toMember at H
 refine f_enter (vs := [.agg #[.slice a22 p0.Tree_.Nodes_.length c23, .int .i64 p0.Tree_.Seen_, .bool p0.HasYoung_, .slice a28 p0.Young_.Nodes_.length c29, .int .i64 p0.Young_.Seen_, .slice a36 p0.Det_.Warn_.Rows_.length c37, .slice a40 p0.Det_.Drift_.Rows_.length c41]]) Tryz.func232 rfl Tryz.ntmps232 rfl (HS) <| c_seq <| c_reg <| ob [.slice a22 p0.Tree_.Nodes_.length c23, .int .i64 p0.Tree_.Seen_, .bool p0.HasYoung_, .slice a28 p0.Young_.Nodes_.length c29, .int .i64 p0.Young_.Seen_, .slice a36 p0.Det_.Warn_.Rows_.length c37, .slice a40 p0.Det_.Drift_.Rows_.length c41] rfl fun b42 => ow_alloc rfl rfl rfl rfl ty216 (fun _ => kp) fun b43 => ow_nil <| x_qs <| c_seq <| c_reg <| ow_alloc rfl rfl rfl rfl ty216 (fun _ => kp) fun b44 => ow_nil <| x_qs <| c_seq <| c_reg <| ow_batch [.fa 265 0 0 fa265_0] rfl <| o1 rfl (rx 0 0 [.slice a22 p0.Tree_.Nodes_.length c23, .int .i64 p0.Tree_.Seen_] rfl ty28 rfl) <| bE H fun y45 h46 H => ow_callS rfl fn12 rfl rfl rfl rfl (fun w1 hw1 => laws_toTree_ok w1 (cs0 := [.slice a22 p0.Tree_.Nodes_.length c23, .int .i64 p0.Tree_.Seen_]) h46 (hw1.carve [] rfl rfl) (rdm_Tlaws_Tree (x := p0.Tree_) (c0 := [.slice a22 p0.Tree_.Nodes_.length c23]) (c1 := [.int .i64 p0.Tree_.Seen_]) (rds_bor g20 w1 hw1) rfl)) fun v47 w1 w2 hw1 hR49 => ?_
 obtain ⟨a50, n51, c52, F53, rfl, hS48⟩ := hR49
 obtain rfl := own_nS (i := 0) hS48 rfl
 refine ⟨St w M0 [_, _, _, _], hw1.comp [] rfl rfl hS48, fun _ _ => trivial, ?_⟩
 refine ow_batch [.fa 216 0 0 fa216_0] rfl <| sC 0 [.slice a50 y45.Nodes_.length c52, .int .i64 y45.Seen_] [_, _, _, _, _, _, _] 2 rfl ty39 rfl <| ow_nil <| x_qs <| c_seq <| c_reg <| ow_batch [.fa 265 1 2 fa265_1] rfl <| o1 rfl (r1 2 0 rfl ty4 rfl) <| ow_batch [.fa 216 1 2 fa216_1] rfl <| sC 2 [.bool p0.HasYoung_] [_, _, _, _, _, _, _] 2 rfl ty4 rfl <| ow_nil <| x_qs <| c_seq <| c_reg <| ow_batch [.fa 265 2 3 fa265_2] rfl <| o1 rfl (rx 3 0 [.slice a28 p0.Young_.Nodes_.length c29, .int .i64 p0.Young_.Seen_] rfl ty28 rfl) <| bE H fun y54 h55 H => ow_callS rfl fn12 rfl rfl rfl rfl (fun w1 hw1 => laws_toTree_ok w1 (cs0 := [.slice a28 p0.Young_.Nodes_.length c29, .int .i64 p0.Young_.Seen_]) h55 (hw1.carve [] rfl rfl) (rdm_Tlaws_Tree (x := p0.Young_) (c0 := [.slice a28 p0.Young_.Nodes_.length c29]) (c1 := [.int .i64 p0.Young_.Seen_]) (rds_bor g26 w1 hw1) rfl)) fun v56 w1 w2 hw1 hR58 => ?_
 obtain ⟨a59, n60, c61, F62, rfl, hS57⟩ := hR58
 obtain rfl := own_nS (i := 0) hS57 rfl
 refine ⟨St w M0 [_, _, _, _, _], hw1.comp [] rfl rfl hS57, fun _ _ => trivial, ?_⟩
 refine ow_batch [.fa 216 2 3 fa216_2] rfl <| sC 3 [.slice a59 y54.Nodes_.length c61, .int .i64 y54.Seen_] [_, _, _, _, _, _, _] 2 rfl ty39 rfl <| ow_nil <| x_qs <| c_seq <| c_reg <| ow_batch [.fa 265 3 5 fa265_3] rfl <| o1 rfl (rx 5 0 [.slice a36 p0.Det_.Warn_.Rows_.length c37, .slice a40 p0.Det_.Drift_.Rows_.length c41] rfl ty263 rfl) <| bE H fun y63 h64 H => ow_callS rfl fn253 rfl rfl rfl rfl (fun w1 hw1 => laws_toDet_ok w1 (cs0 := [.slice a36 p0.Det_.Warn_.Rows_.length c37, .slice a40 p0.Det_.Drift_.Rows_.length c41]) h64 (hw1.carve [] rfl rfl) (rdm_Tlaws_Det (x := p0.Det_) (c0 := [.slice a36 p0.Det_.Warn_.Rows_.length c37]) (c1 := [.slice a40 p0.Det_.Drift_.Rows_.length c41]) (rdm_Tlaws_Window (x := p0.Det_.Warn_) (c0 := [.slice a36 p0.Det_.Warn_.Rows_.length c37]) (rds_bor g35 w1 hw1)) (rdm_Tlaws_Window (x := p0.Det_.Drift_) (c0 := [.slice a40 p0.Det_.Drift_.Rows_.length c41]) (rds_bor g39 w1 hw1)))) fun v65 w1 w2 hw1 hR67 => ?_
 obtain ⟨a68, n69, c70, F71, a72, n73, c74, F75, rfl, hS66⟩ := hR67
 obtain rfl := own_nS (i := 0) hS66 rfl
 obtain rfl := own_nS (i := 1) hS66 rfl
 refine ⟨St w M0 [_, _, _, _, _, _, _], hw1.comp [] rfl rfl hS66, fun _ _ => trivial, ?_⟩
 exact ow_batch [.fa 216 3 5 fa216_3] rfl <| sC 5 [.slice a68 y63.Warn_.Rows_.length c70, .slice a72 y63.Drift_.Rows_.length c74] [_, _, _, _, _, _, _] 2 rfl ty214 rfl <| ow_nil <| x_qs <| c_seq <| c_reg <| o1 rfl (rx 0 2 [.slice a50 y45.Nodes_.length c52, .int .i64 y45.Seen_, .bool p0.HasYoung_, .slice a59 y54.Nodes_.length c61, .int .i64 y54.Seen_, .slice a68 y63.Warn_.Rows_.length c70, .slice a72 y63.Drift_.Rows_.length c74] rfl ty216 rfl) <| sC 0 [.slice a50 y45.Nodes_.length c52, .int .i64 y45.Seen_, .bool p0.HasYoung_, .slice a59 y54.Nodes_.length c61, .int .i64 y54.Seen_, .slice a68 y63.Warn_.Rows_.length c70, .slice a72 y63.Drift_.Rows_.length c74] [_, _, _, _, _, _, _] 1 rfl ty216 rfl <| ow_nil <| x_qs <| c_ret <| x_retR (rs := [.cell 2 216]) (vs := [.agg #[.slice a50 y45.Nodes_.length c52, .int .i64 y45.Seen_, .bool p0.HasYoung_, .slice a59 y54.Nodes_.length c61, .int .i64 y54.Seen_, .slice a68 y63.Warn_.Rows_.length c70, .slice a72 y63.Drift_.Rows_.length c74]]) rfl ⟨⟨_, [.slice a50 y45.Nodes_.length c52, .int .i64 y45.Seen_, .bool p0.HasYoung_, .slice a59 y54.Nodes_.length c61, .int .i64 y54.Seen_, .slice a68 y63.Warn_.Rows_.length c70, .slice a72 y63.Drift_.Rows_.length c74], _, _, _, rfl, ty216, (at_box (T := 216) 0 (boxIn (i := 1) rfl) rfl), rfl, rfl⟩, trivial⟩ (fun w' hw' => by
  obtain rfl := of_some H
  exact ⟨_, rfl, a50, y45.Nodes_.length, c52, F53, a59, y54.Nodes_.length, c61, F62, a68, y63.Warn_.Rows_.length, c70, F71, a72, y63.Drift_.Rows_.length, c74, F75, rfl, hw'.sel [3, 4, 5, 6] rfl rfl⟩)
theorem laws_toMemberS_ok (w : World) {M0 : List Nat} {p0 : List Tlaws_Member} {a_0 : Option Addr} {n_0 c_0 : Nat} {r : List Timpl_Member} (H : laws_toMemberS p0 = some r) (HS : St w M0 [] w) (g0 : (eList (eTlaws_Member) 265).rd w M0 p0 [.slice a_0 n_0 c_0]) :
    Calls Tryz.prog 182 #[.slice a_0 n_0 c_0] w (fun en w' => ∃ v, en = .returned v ∧ ∃ (a0 : Option Addr), ∃ (n0 : Nat), ∃ (c0 : Nat), ∃ (F0 : List Nat), v = .slice a0 n0 c0 ∧ St w M0 [Res.own (eList (eTimpl_Member) 216) F0 r [.slice a0 n0 c0]] w') := by
 obtain rfl := rd_n g0
 unfold laws_toMemberS at H
 refine f_enter (vs := [.slice a_0 p0.length c_0]) Tryz.func182 rfl Tryz.ntmps182 rfl (HS) <| c_seq <| c_reg <| ow_batch [.p] rfl <| ow_nil <| x_qs <| c_seq <| c_reg <| ow_batch [.p, .lenS 93 265 sl93] rfl <| bE H fun l10 h11 H => ow_make (e := eTimpl_Member) (zero := ((Timpl_Member.mk (Timpl_Tree.mk [] 0) false (Timpl_Tree.mk [] 0) (Timpl_Det.mk (Timpl_Window.mk []) (Timpl_Window.mk []))) : Timpl_Member)) rfl rfl rfl rfl rfl rfl sl74 ty216 rfl rfl rfl rfl (fun _ => (ownm_Timpl_Member (x := (Timpl_Member.mk (Timpl_Tree.mk [] 0) false (Timpl_Tree.mk [] 0) (Timpl_Det.mk (Timpl_Window.mk []) (Timpl_Window.mk [])))) ((ownm_Timpl_Tree (x := (Timpl_Tree.mk [] 0)) ((.inl ⟨rfl, rfl, rfl⟩) : (eList (eTimpl_Node) 118).own _ [] ([] : List Timpl_Node) _) (⟨rfl, rfl⟩ : (eVal (Value.int .i64) (fun _ => rfl)).own _ [] (0 : Int) _)) : (eTimpl_Tree).own _ [] ((Timpl_Tree.mk [] 0) : Timpl_Tree) _) (⟨rfl, rfl⟩ : (eBool).own _ [] (false : Bool) _) ((ownm_Timpl_Tree (x := (Timpl_Tree.mk [] 0)) ((.inl ⟨rfl, rfl, rfl⟩) : (eList (eTimpl_Node) 118).own _ [] ([] : List Timpl_Node) _) (⟨rfl, rfl⟩ : (eVal (Value.int .i64) (fun _ => rfl)).own _ [] (0 : Int) _)) : (eTimpl_Tree).own _ [] ((Timpl_Tree.mk [] 0) : Timpl_Tree) _) ((ownm_Timpl_Det (x := (Timpl_Det.mk (Timpl_Window.mk []) (Timpl_Window.mk []))) ((ownm_Timpl_Window (x := (Timpl_Window.mk [])) ((.inl ⟨rfl, rfl, rfl⟩) : (eList (eList (eVal (Value.int .i64) (fun _ => rfl)) 3) 59).own _ [] ([] : List (List Int)) _)) : (eTimpl_Window).own _ [] ((Timpl_Window.mk []) : Timpl_Window) _) ((ownm_Timpl_Window (x := (Timpl_Window.mk [])) ((.inl ⟨rfl, rfl, rfl⟩) : (eList (eList (eVal (Value.int .i64) (fun _ => rfl)) 3) 59).own _ [] ([] : List (List Int)) _)) : (eTimpl_Window).own _ [] ((Timpl_Window.mk []) : Timpl_Window) _)) : (eTimpl_Det).own _ [] ((Timpl_Det.mk (Timpl_Window.mk []) (Timpl_Window.mk [])) : Timpl_Det) _))) h11 (fun _ => kp) fun b12 => ow_batch [.p] rfl <| ow_nil <| x_qs <| c_seq <| c_seq <| c_reg <| ow_batch [.p] rfl <| ow_nil <| x_qs <| c_block <| CW.at (loopI3 (fun (l99 : List Timpl_Member) (F100 : List Nat) (i101 : Int) => St w M0 [Res.own (eList (eTimpl_Member) 216) F100 l99 [.slice (some ⟨b12, 0, none⟩) l10.length l10.length]]) (fun (l99 : List Timpl_Member) (F100 : List Nat) (i101 : Int) => [(0, .slice a_0 p0.length c_0), (3, .slice (some ⟨b12, 0, none⟩) l10.length l10.length), (4, .int .i64 i101)]) (fun kk => fun (l99 : List Timpl_Member) (F100 : List Nat) (i101 : Int) => laws_toMemberS_L1 p0 kk l99 i101 = some r) (fun _ _ _ H => ?_) (fun k1 ihk1 l99 F100 i101 H => ?_) Fuel (l10) ([b12]) (0) (H)) (fun _ h => St.sel [0] rfl rfl h) ⟨rfl, rfl, rfl,  trivial⟩
 ·unfold laws_toMemberS_L1 at H
  exact absurd H (by simp)
 ·unfold laws_toMemberS_L1 at H
  refine c_seq <| c_seq <| c_reg <| ow_batch [.p, .p, .lenS 93 265 sl93, .p] rfl <| ow_nil <| x_qs <| cI H rfl (fun H => ?_) (fun H => ?_)
  ·refine c_skip <| x_qs <| c_seq <| c_block <| c_reg <| ow_batch [.p, .p, .p, .p] rfl <| bE H fun e188 h189 H => ow_ixB rfl rfl rfl rfl rfl sl93 ty265 rfl g0 h189 fun q192 c193 hd190 hA191 => ?_
   obtain ⟨c194, c195, c196, c197, rfl, g198, g199, g200, g201⟩ := rdo_Tlaws_Member hd190
   obtain ⟨c202, c203, rfl, g204, g205⟩ := rdo_Tlaws_Tree g198
   obtain ⟨a206, c207, rfl⟩ := rd_sl1 g204
   obtain rfl : c203 = [.int .i64 e188.Tree_.Seen_] := g205
   obtain rfl : c195 = [.bool e188.HasYoung_] := g199
   obtain ⟨c208, c209, rfl, g210, g211⟩ := rdo_Tlaws_Tree g200
   obtain ⟨a212, c213, rfl⟩ := rd_sl1 g210
   obtain rfl : c209 = [.int .i64 e188.Young_.Seen_] := g211
   obtain ⟨c214, c215, rfl, g216, g217⟩ := rdo_Tlaws_Det g201
   obtain ⟨c218, rfl, g219⟩ := rdo_Tlaws_Window g216
   obtain ⟨a220, c221, rfl⟩ := rd_sl1 g219
   obtain ⟨c222, rfl, g223⟩ := rdo_Tlaws_Window g217
   obtain ⟨a224, c225, rfl⟩ := rd_sl1 g223
   refine o1 rfl (ry_load (cs := [.slice a206 e188.Tree_.Nodes_.length c207, .int .i64 e188.Tree_.Seen_, .bool e188.HasYoung_, .slice a212 e188.Young_.Nodes_.length c213, .int .i64 e188.Young_.Seen_, .slice a220 e188.Det_.Warn_.Rows_.length c221, .slice a224 e188.Det_.Drift_.Rows_.length c225]) rfl rfl ty265 (at_bor bor hA191) rfl) <| bE H fun y226 h227 H => ow_callS rfl fn232 rfl rfl rfl rfl (fun w1 hw1 => laws_toMember_ok w1 (cs0 := [.slice a206 e188.Tree_.Nodes_.length c207, .int .i64 e188.Tree_.Seen_, .bool e188.HasYoung_, .slice a212 e188.Young_.Nodes_.length c213, .int .i64 e188.Young_.Seen_, .slice a220 e188.Det_.Warn_.Rows_.length c221, .slice a224 e188.Det_.Drift_.Rows_.length c225]) h227 (hw1.carve [] rfl rfl) (rdm_Tlaws_Member (x := e188) (c0 := [.slice a206 e188.Tree_.Nodes_.length c207, .int .i64 e188.Tree_.Seen_]) (c1 := [.bool e188.HasYoung_]) (c2 := [.slice a212 e188.Young_.Nodes_.length c213, .int .i64 e188.Young_.Seen_]) (c3 := [.slice a220 e188.Det_.Warn_.Rows_.length c221, .slice a224 e188.Det_.Drift_.Rows_.length c225]) (rdm_Tlaws_Tree (x := e188.Tree_) (c0 := [.slice a206 e188.Tree_.Nodes_.length c207]) (c1 := [.int .i64 e188.Tree_.Seen_]) (rds_bor g204 w1 hw1) rfl) rfl (rdm_Tlaws_Tree (x := e188.Young_) (c0 := [.slice a212 e188.Young_.Nodes_.length c213]) (c1 := [.int .i64 e188.Young_.Seen_]) (rds_bor g210 w1 hw1) rfl) (rdm_Tlaws_Det (x := e188.Det_) (c0 := [.slice a220 e188.Det_.Warn_.Rows_.length c221]) (c1 := [.slice a224 e188.Det_.Drift_.Rows_.length c225]) (rdm_Tlaws_Window (x := e188.Det_.Warn_) (c0 := [.slice a220 e188.Det_.Warn_.Rows_.length c221]) (rds_bor g219 w1 hw1)) (rdm_Tlaws_Window (x := e188.Det_.Drift_) (c0 := [.slice a224 e188.Det_.Drift_.Rows_.length c225]) (rds_bor g223 w1 hw1))))) fun v228 w1 w2 hw1 hR230 => ?_
   obtain ⟨a231, n232, c233, F234, a235, n236, c237, F238, a239, n240, c241, F242, a243, n244, c245, F246, rfl, hS229⟩ := hR230
   obtain rfl := own_nS (i := 0) hS229 rfl
   obtain rfl := own_nS (i := 1) hS229 rfl
   obtain rfl := own_nS (i := 2) hS229 rfl
   obtain rfl := own_nS (i := 3) hS229 rfl
   refine ⟨St w M0 [_, _, _, _, _], hw1.comp [] rfl rfl hS229, fun _ _ => trivial, ?_⟩
   refine bE H fun e247 h248 H => ow_ex4 rfl (fun w1 hw1 => foc (r := 0) hw1 rfl h248) fun b250 G251 F252 c253 => ow_fact rfl (fun w1 hw1 => hw1.1) fun q249 => ?_
   obtain ⟨ha254, hn255⟩ := q249
   refine ow_st (C' := St w M0 [_, _, _, _, _, _, _]) rfl (fun w1 hw1 => hw1.2) <| ow_ex3 rfl (fun w1 hw1 => opn_Timpl_Member (i := 6) hw1 rfl) fun a257 c258 F259 => ow_ex3 rfl (fun _ h => h) fun a260 c261 F262 => ow_ex3 rfl (fun _ h => h) fun a263 c264 F265 => ow_ex3 rfl (fun _ h => h) fun a266 c267 F268 => ow_fact rfl (fun w1 hw1 => hw1.1) fun q256 => ?_
   subst q256
   refine ow_st (C' := St w M0 [_, _, _, _, _, _, _, _, _, _, _]) rfl (fun w1 hw1 => hw1.2) <| ow_ixH rfl rfl rfl rfl rfl sl74 ty216 rfl (holeIn (p := 5) rfl) hn255 ha254 (idx_some h248).1 <| ow_storeH (off := 0) [.slice a231 y226.Tree_.Nodes_.length c233, .int .i64 y226.Tree_.Seen_, .bool y226.HasYoung_, .slice a235 y226.Young_.Nodes_.length c237, .int .i64 y226.Young_.Seen_, .slice a239 y226.Det_.Warn_.Rows_.length c241, .slice a243 y226.Det_.Drift_.Rows_.length c245] (p := 5) (c' := [_, _, _, _, _, _, _]) rfl rfl rfl rfl rfl (by first | rfl | simp only [add_lit, add_add, add_zero]) rfl ty216 rfl rfl (by intro u hu; simp only [List.mem_cons, List.not_mem_nil, or_false] at hu; rcases hu with rfl | rfl | rfl | rfl | rfl | rfl | rfl <;> rfl) rfl rfl rfl kp <| ow_nil <| x_qb <| x_qs <| CW.weak (C' := St w M0 [_, _, _, _, _, _, _, _, _]) ?_ (fun _ h => St.sel [1, 2, 3, 4, 5, 7, 8, 9, 10] rfl rfl h)
   exact c_reg <| ow_batch [.p, .p, .p] rfl <| ow_nil <| xw_ex (fun w1 hw1 => fus_Timpl_Member (x1 := y226.Tree_.Seen_) (x2 := y226.HasYoung_) (x4 := y226.Young_.Seen_) [0, 1, 2, 3] hw1 rfl rfl) fun F269 => xw_st (C' := St w M0 [_, _, _, _, _, _, _, _, _, _]) (fun _ h => h) <| xw_ex (fun w1 hw1 => unf (p := 4) (q := 9) hw1 rfl rfl rfl hn255 ha254) fun F270 => xw_st (C' := St w M0 [_, _, _, _, _, _, _, _, _, _, _]) (fun _ h => h) <| x_ql (RW.at (ihk1 ((l99.set i101.toNat y226)) (F270) (IntKind.i64.wrap (i101 + 1)) (H)) (fun _ h => St.sel [10] rfl rfl h) ⟨rfl, rfl, rfl, trivial⟩)
  ·exact c_exit <| x_qs_exit <| x_ql_exit <| x_qb_here <| x_qs <| c_seq <| c_reg <| ow_batch [.p, .p] rfl <| ow_nil <| x_qs <| c_ret <| x_retR (rs := [.tmp 2]) (vs := [.slice (some ⟨b12, 0, none⟩) l10.length l10.length]) rfl ⟨rfl, trivial⟩ (fun w' hw' => by
    obtain rfl := of_some H
    exact ⟨_, rfl, (some ⟨b12, 0, none⟩), l10.length, l10.length, F100, rfl, hw'.sel [0] rfl rfl⟩)
theorem laws_toForest_ok (w : World) {M0 : List Nat} {p0 : Tlaws_Forest} {cs0 : List Value} {r : Timpl_Forest} (H : laws_toForest p0 = some r) (HS : St w M0 [] w) (g0 : (eTlaws_Forest).rd w M0 p0 cs0) :
    Calls Tryz.prog 116 #[.agg cs0.toArray] w (fun en w' => ∃ v, en = .returned v ∧ ∃ (a0 : Option Addr), ∃ (n0 : Nat), ∃ (c0 : Nat), ∃ (F0 : List Nat), v = .agg #[.slice a0 n0 c0] ∧ St w M0 [Res.own (eList (eTimpl_Member) 216) F0 r.Members_ [.slice a0 n0 c0]] w') := by
 obtain ⟨c10, rfl, g11⟩ := rdo_Tlaws_Forest g0
 obtain ⟨a12, c13, rfl⟩ := rd_sl1 g11
 unfold laws_toForest at H
 refine f_enter (vs := [.agg #[.slice a12 p0.Members_.length c13]]) Tryz.func116 rfl Tryz.ntmps116 rfl (HS) <| c_seq <| c_reg <| ob [.slice a12 p0.Members_.length c13] rfl fun b14 => ow_alloc rfl rfl rfl rfl ty76 (fun _ => kp) fun b15 => ow_nil <| x_qs <| c_seq <| c_reg <| ow_alloc rfl rfl rfl rfl ty76 (fun _ => kp) fun b16 => ow_nil <| x_qs <| c_seq <| c_reg <| ow_batch [.fa 95 0 0 fa95_0] rfl <| o1 rfl (r1 0 0 rfl ty93 rfl) <| bE H fun y17 h18 H => ow_callS rfl fn182 rfl rfl rfl rfl (fun w1 hw1 => laws_toMemberS_ok w1  h18 (hw1.carve [] rfl rfl) (rds_bor g11 w1 hw1)) fun v19 w1 w2 hw1 hR21 => ?_
 obtain ⟨a22, n23, c24, F25, rfl, hS20⟩ := hR21
 obtain rfl := own_nS (i := 0) hS20 rfl
 refine ⟨St w M0 [_, _, _, _], hw1.comp [] rfl rfl hS20, fun _ _ => trivial, ?_⟩
 exact ow_batch [.fa 76 0 0 fa76_0] rfl <| sC 0 [.slice a22 y17.length c24] [_] 2 rfl ty74 rfl <| ow_nil <| x_qs <| c_seq <| c_reg <| o1 rfl (rx 0 2 [.slice a22 y17.length c24] rfl ty76 rfl) <| sC 0 [.slice a22 y17.length c24] [_] 1 rfl ty76 rfl <| ow_nil <| x_qs <| c_ret <| x_retR (rs := [.cell 2 76]) (vs := [.agg #[.slice a22 y17.length c24]]) rfl ⟨⟨_, [.slice a22 y17.length c24], _, _, _, rfl, ty76, (at_box (T := 76) 0 (boxIn (i := 1) rfl) rfl), rfl, rfl⟩, trivial⟩ (fun w' hw' => by
  obtain rfl := of_some H
  exact ⟨_, rfl, a22, y17.length, c24, F25, rfl, hw'.sel [3] rfl rfl⟩)
theorem laws_toPair_ok (w : World) {p0 : Tlaws_Pair}  {r : Timpl_Pair} (H : laws_toPair p0 = some r)   :
    Calls Tryz.prog 233 #[.agg #[.int .i64 p0.Truth_, .int .i64 p0.Said_]] w (fun en w' => en = .returned (.agg #[.int .i64 r.Truth_, .int .i64 r.Said_]) ∧ Ext [] w w') := by
 unfold laws_toPair at H
 exact f_enter (vs := [.agg #[.int .i64 p0.Truth_, .int .i64 p0.Said_]]) Tryz.func233 rfl Tryz.ntmps233 rfl (St.init w []) <| c_seq <| c_reg <| ob [.int .i64 p0.Truth_, .int .i64 p0.Said_] rfl fun b10 => ow_alloc rfl rfl rfl rfl ty231 (fun _ => kp) fun b11 => ow_nil <| x_qs <| c_seq <| c_reg <| ow_alloc rfl rfl rfl rfl ty231 (fun _ => kp) fun b12 => ow_nil <| x_qs <| c_seq <| c_reg <| ow_batch [.fa 270 0 0 fa270_0] rfl <| o1 rfl (r1 0 0 rfl ty3 rfl) <| ow_batch [.fa 231 0 0 fa231_0] rfl <| sC 0 [.int .i64 p0.Truth_] [_, _] 2 rfl ty3 rfl <| ow_nil <| x_qs <| c_seq <| c_reg <| ow_batch [.fa 270 1 1 fa270_1] rfl <| o1 rfl (r1 1 0 rfl ty3 rfl) <| ow_batch [.fa 231 1 1 fa231_1] rfl <| sC 1 [.int .i64 p0.Said_] [_, _] 2 rfl ty3 rfl <| ow_nil <| x_qs <| c_seq <| c_reg <| o1 rfl (rx 0 2 [.int .i64 p0.Truth_, .int .i64 p0.Said_] rfl ty231 rfl) <| sC 0 [.int .i64 p0.Truth_, .int .i64 p0.Said_] [_, _] 1 rfl ty231 rfl <| ow_nil <| x_qs <| c_ret <| x_retR (rs := [.cell 2 231]) (vs := [.agg #[.int .i64 p0.Truth_, .int .i64 p0.Said_]]) rfl ⟨⟨_, [.int .i64 p0.Truth_, .int .i64 p0.Said_], _, _, _, rfl, ty231, (at_box (T := 231) 0 (boxIn (i := 1) rfl) rfl), rfl, rfl⟩, trivial⟩ (fun w' hw' => by
  obtain rfl := of_some H
  exact ⟨rfl, hw'.ext⟩)
theorem laws_toPairS_ok (w : World) {M0 : List Nat} {p0 : List Tlaws_Pair} {a_0 : Option Addr} {n_0 c_0 : Nat} {r : List Timpl_Pair} (H : laws_toPairS p0 = some r) (HS : St w M0 [] w) (g0 : (eList (eTlaws_Pair) 270).rd w M0 p0 [.slice a_0 n_0 c_0]) :
    Calls Tryz.prog 184 #[.slice a_0 n_0 c_0] w (fun en w' => ∃ v, en = .returned v ∧ ∃ (a0 : Option Addr), ∃ (n0 : Nat), ∃ (c0 : Nat), ∃ (F0 : List Nat), v = .slice a0 n0 c0 ∧ St w M0 [Res.own (eList (eTimpl_Pair) 231) F0 r [.slice a0 n0 c0]] w') := by
 obtain rfl := rd_n g0
 unfold laws_toPairS at H
 refine f_enter (vs := [.slice a_0 p0.length c_0]) Tryz.func184 rfl Tryz.ntmps184 rfl (HS) <| c_seq <| c_reg <| ow_batch [.p] rfl <| ow_nil <| x_qs <| c_seq <| c_reg <| ow_batch [.p, .lenS 96 270 sl96] rfl <| bE H fun l10 h11 H => ow_make (e := eTimpl_Pair) (zero := ((Timpl_Pair.mk 0 0) : Timpl_Pair)) rfl rfl rfl rfl rfl rfl sl77 ty231 rfl rfl rfl rfl (fun _ => ⟨rfl, rfl⟩) h11 (fun _ => kp) fun b12 => ow_batch [.p] rfl <| ow_nil <| x_qs <| c_seq <| c_seq <| c_reg <| ow_batch [.p] rfl <| ow_nil <| x_qs <| c_block <| CW.at (loopI3 (fun (l30 : List Timpl_Pair) (F31 : List Nat) (i33 : Int) => St w M0 [Res.own (eList (eTimpl_Pair) 231) F31 l30 [.slice (some ⟨b12, 0, none⟩) l10.length l10.length]]) (fun (l30 : List Timpl_Pair) (F31 : List Nat) (i33 : Int) => [(0, .slice a_0 p0.length c_0), (3, .slice (some ⟨b12, 0, none⟩) l10.length l10.length), (4, .int .i64 i33)]) (fun kk => fun (l30 : List Timpl_Pair) (F31 : List Nat) (i33 : Int) => laws_toPairS_L1 p0 kk l30 i33 = some r) (fun _ _ _ H => ?_) (fun k1 ihk1 l30 F31 i33 H => ?_) Fuel (l10) ([b12]) (0) (H)) (fun _ h => St.sel [0] rfl rfl h) ⟨rfl, rfl, rfl,  trivial⟩
 ·unfold laws_toPairS_L1 at H
  exact absurd H (by simp)
 ·unfold laws_toPairS_L1 at H
  refine c_seq <| c_seq <| c_reg <| ow_batch [.p, .p, .lenS 96 270 sl96, .p] rfl <| ow_nil <| x_qs <| cI H rfl (fun H => ?_) (fun H => ?_)
  ·refine c_skip <| x_qs <| c_seq <| c_block <| c_reg <| ow_batch [.p, .p, .p, .p] rfl <| bE H fun e51 h52 H => ow_ixE (e := eTlaws_Pair) (xs := p0) (j := i33) rfl rfl rfl rfl rfl sl96 ty270 rfl (fun w1 hw1 => rds_bor g0 w1 hw1) h52 rfl <| o1 rfl (ry_load (cs := [.int .i64 e51.Truth_, .int .i64 e51.Said_]) rfl rfl ty270 (at_castA (at_eltE (fun w1 hw1 => rds_bor g0 w1 hw1) h52 (fun _ _ h => h)) rfl) rfl) <| bE H fun y53 h54 H => oq rfl (qc rfl fn233 (fun w1 hw1 => laws_toPair_ok w1 (p0 := e51) h54)) tt2 <| bE H fun e55 h56 H => ow_ex4 rfl (fun w1 hw1 => foc (r := 0) hw1 rfl h56) fun b58 G59 F60 c61 => ow_fact rfl (fun w1 hw1 => hw1.1) fun q57 => ?_
   obtain ⟨ha62, hn63⟩ := q57
   refine ow_st (C' := St w M0 [_, _, _]) rfl (fun w1 hw1 => hw1.2) <| ow_fact rfl (fun w1 hw1 => opn_flat (i := 2) hw1 rfl) fun q57 => ?_
   obtain ⟨rfl, rfl⟩ := q57
   exact ow_st (C' := St w M0 [_, _]) rfl (fun w1 hw1 => St.mask [true, true] rfl hw1) <| ow_ixH rfl rfl rfl rfl rfl sl77 ty231 rfl (holeIn (p := 1) rfl) hn63 ha62 (idx_some h56).1 <| ow_storeH (off := 0) [.int .i64 y53.Truth_, .int .i64 y53.Said_] (p := 1) (c' := [_, _]) rfl rfl rfl rfl rfl (by first | rfl | simp only [add_lit, add_add, add_zero]) rfl ty231 rfl rfl (by intro u hu; simp only [List.mem_cons, List.not_mem_nil, or_false] at hu; rcases hu with rfl | rfl <;> rfl) rfl rfl rfl kp <| ow_nil <| x_qb <| x_qs <| c_reg <| ow_batch [.p, .p, .p] rfl <| ow_nil <| xw_st (fun _ h => St.push0 h (Res.own (eTimpl_Pair) [] y53 [.int .i64 y53.Truth_, .int .i64 y53.Said_]) rfl ⟨rfl, rfl⟩) <| xw_ex (fun w1 hw1 => unf (p := 1) (q := 2) hw1 rfl rfl rfl hn63 ha62) fun F64 => xw_st (C' := St w M0 [_, _, _, _]) (fun _ h => h) <| x_ql (RW.at (ihk1 ((l30.set i33.toNat y53)) (F64) (IntKind.i64.wrap (i33 + 1)) (H)) (fun _ h => St.sel [3] rfl rfl h) ⟨rfl, rfl, rfl, trivial⟩)
  ·exact c_exit <| x_qs_exit <| x_ql_exit <| x_qb_here <| x_qs <| c_seq <| c_reg <| ow_batch [.p, .p] rfl <| ow_nil <| x_qs <| c_ret <| x_retR (rs := [.tmp 2]) (vs := [.slice (some ⟨b12, 0, none⟩) l10.length l10.length]) rfl ⟨rfl, trivial⟩ (fun w' hw' => by
    obtain rfl := of_some H
    exact ⟨_, rfl, (some ⟨b12, 0, none⟩), l10.length, l10.length, F31, rfl, hw'.sel [0] rfl rfl⟩)
theorem laws_toScore_ok (w : World) {M0 : List Nat} {p0 : Tlaws_Score} {cs0 : List Value} {r : Timpl_Score} (H : laws_toScore p0 = some r) (HS : St w M0 [] w) (g0 : (eTlaws_Score).rd w M0 p0 cs0) :
    Calls Tryz.prog 117 #[.agg cs0.toArray] w (fun en w' => ∃ v, en = .returned v ∧ ∃ (a0 : Option Addr), ∃ (n0 : Nat), ∃ (c0 : Nat), ∃ (F0 : List Nat), ∃ (a1 : Option Addr), ∃ (n1 : Nat), ∃ (c1 : Nat), ∃ (F1 : List Nat), v = .agg #[.slice a0 n0 c0, .slice a1 n1 c1] ∧ St w M0 [Res.own (eList (eList (eVal (Value.int .i64) (fun _ => rfl)) 3) 59) F0 r.Table_ [.slice a0 n0 c0], Res.own (eList (eTimpl_Pair) 231) F1 r.Last_ [.slice a1 n1 c1]] w') := by
 obtain ⟨c10, c11, rfl, g12, g13⟩ := rdo_Tlaws_Score g0
 obtain ⟨a14, c15, rfl⟩ := rd_sl1 g12
 obtain ⟨a16, c17, rfl⟩ := rd_sl1 g13
 unfold laws_toScore at H
 refine f_enter (vs := [.agg #[.slice a14 p0.Table_.length c15, .slice a16 p0.Last_.length c17]]) Tryz.func117 rfl Tryz.ntmps117 rfl (HS) <| c_seq <| c_reg <| ob [.slice a14 p0.Table_.length c15, .slice a16 p0.Last_.length c17] rfl fun b18 => ow_alloc rfl rfl rfl rfl ty79 (fun _ => kp) fun b19 => ow_nil <| x_qs <| c_seq <| c_reg <| ow_alloc rfl rfl rfl rfl ty79 (fun _ => kp) fun b20 => ow_nil <| x_qs <| c_seq <| c_reg <| ow_batch [.fa 98 0 0 fa98_0] rfl <| o1 rfl (r1 0 0 rfl ty60 rfl) <| bE H fun y21 h22 H => ow_callS rfl fn183 rfl rfl rfl rfl (fun w1 hw1 => laws_toIntSS_ok w1  h22 (hw1.carve [] rfl rfl) (rds_bor g12 w1 hw1)) fun v23 w1 w2 hw1 hR25 => ?_
 obtain ⟨a26, n27, c28, F29, rfl, hS24⟩ := hR25
 obtain rfl := own_nS (i := 0) hS24 rfl
 refine ⟨St w M0 [_, _, _, _], hw1.comp [] rfl rfl hS24, fun _ _ => trivial, ?_⟩
 refine ow_batch [.fa 79 0 0 fa79_0] rfl <| sC 0 [.slice a26 y21.length c28] [_, _] 2 rfl ty60 rfl <| ow_nil <| x_qs <| c_seq <| c_reg <| ow_batch [.fa 98 1 1 fa98_1] rfl <| o1 rfl (r1 1 0 rfl ty96 rfl) <| bE H fun y30 h31 H => ow_callS rfl fn184 rfl rfl rfl rfl (fun w1 hw1 => laws_toPairS_ok w1  h31 (hw1.carve [] rfl rfl) (rds_bor g13 w1 hw1)) fun v32 w1 w2 hw1 hR34 => ?_
 obtain ⟨a35, n36, c37, F38, rfl, hS33⟩ := hR34
 obtain rfl := own_nS (i := 0) hS33 rfl
 refine ⟨St w M0 [_, _, _, _, _], hw1.comp [] rfl rfl hS33, fun _ _ => trivial, ?_⟩
 exact ow_batch [.fa 79 1 1 fa79_1] rfl <| sC 1 [.slice a35 y30.length c37] [_, _] 2 rfl ty77 rfl <| ow_nil <| x_qs <| c_seq <| c_reg <| o1 rfl (rx 0 2 [.slice a26 y21.length c28, .slice a35 y30.length c37] rfl ty79 rfl) <| sC 0 [.slice a26 y21.length c28, .slice a35 y30.length c37] [_, _] 1 rfl ty79 rfl <| ow_nil <| x_qs <| c_ret <| x_retR (rs := [.cell 2 79]) (vs := [.agg #[.slice a26 y21.length c28, .slice a35 y30.length c37]]) rfl ⟨⟨_, [.slice a26 y21.length c28, .slice a35 y30.length c37], _, _, _, rfl, ty79, (at_box (T := 79) 0 (boxIn (i := 1) rfl) rfl), rfl, rfl⟩, trivial⟩ (fun w' hw' => by
  obtain rfl := of_some H
  exact ⟨_, rfl, a26, y21.length, c28, F29, a35, y30.length, c37, F38, rfl, hw'.sel [3, 4] rfl rfl⟩)
theorem laws_toState_ok (w : World) {M0 : List Nat} {p0 : Tlaws_State} {cs0 : List Value} {r : Timpl_State} (H : laws_toState p0 = some r) (HS : St w M0 [] w) (g0 : (eTlaws_State).rd w M0 p0 cs0) :
    Calls Tryz.prog 47 #[.agg cs0.toArray] w (fun en w' => ∃ v, en = .returned v ∧ ∃ (a0 : Option Addr), ∃ (n0 : Nat), ∃ (c0 : Nat), ∃ (F0 : List Nat), ∃ (a1 : Option Addr), ∃ (n1 : Nat), ∃ (c1 : Nat), ∃ (F1 : List Nat), ∃ (a2 : Option Addr), ∃ (n2 : Nat), ∃ (c2 : Nat), ∃ (F2 : List Nat), ∃ (a3 : Option Addr), ∃ (n3 : Nat), ∃ (c3 : Nat), ∃ (F3 : List Nat), ∃ (a4 : Option Addr), ∃ (n4 : Nat), ∃ (c4 : Nat), ∃ (F4 : List Nat), v = .agg #[.slice a0 n0 c0, .slice a1 n1 c1, .int .i64 r.Conf_.Rule_.Sure_, .int .i64 r.Conf_.Rule_.Tie_, .int .i64 r.Conf_.Rule_.Grace_, .int .i64 r.Conf_.Rule_.Depth_, .int .i64 r.Conf_.Rule_.Nodes_, .int .i64 r.Conf_.Rule_.Units_, .bool r.Conf_.Rule_.Two_, .int .i64 r.Conf_.Members_, .int .i64 r.Conf_.Pick_, .int .i64 r.Conf_.Lambda_, .int .i64 r.Conf_.Warn_, .int .i64 r.Conf_.Drift_, .slice a2 n2 c2, .slice a3 n3 c3, .slice a4 n4 c4] ∧ St w M0 [Res.own (eList (eTimpl_Attr) 114) F0 r.Conf_.Schema_.Attrs_ [.slice a0 n0 c0], Res.own (eList (eStr) 9) F1 r.Conf_.Schema_.Classes_ [.slice a1 n1 c1], Res.own (eList (eTimpl_Member) 216) F2 r.Forest_.Members_ [.slice a2 n2 c2], Res.own (eList (eList (eVal (Value.int .i64) (fun _ => rfl)) 3) 59) F3 r.Score_.Table_ [.slice a3 n3 c3], Res.own (eList (eTimpl_Pair) 231) F4 r.Score_.Last_ [.slice a4 n4 c4]] w') := by
 obtain ⟨c10, c11, c12, rfl, g13, g14, g15⟩ := rdo_Tlaws_State g0
 obtain ⟨c16, c17, c18, c19, c20, c21, c22, rfl, g23, g24, g25, g26, g27, g28, g29⟩ := rdo_Tlaws_Conf g13
 obtain ⟨c30, c31, rfl, g32, g33⟩ := rdo_Tlaws_Schema g23
 obtain ⟨a34, c35, rfl⟩ := rd_sl1 g32
 obtain ⟨a36, c37, rfl⟩ := rd_sl1 g33
 obtain rfl : c17 = [.int .i64 p0.Conf_.Rule_.Sure_, .int .i64 p0.Conf_.Rule_.Tie_, .int .i64 p0.Conf_.Rule_.Grace_, .int .i64 p0.Conf_.Rule_.Depth_, .int .i64 p0.Conf_.Rule_.Nodes_, .int .i64 p0.Conf_.Rule_.Units_, .bool p0.Conf_.Rule_.Two_] := g24
 obtain rfl : c18 = [.int .i64 p0.Conf_.Members_] := g25
 obtain rfl : c19 = [.int .i64 p0.Conf_.Pick_] := g26
 obtain rfl : c20 = [.int .i64 p0.Conf_.Lambda_] := g27
 obtain rfl : c21 = [.int .i64 p0.Conf_.Warn_] := g28
 obtain rfl : c22 = [.int .i64 p0.Conf_.Drift_] := g29
 obtain ⟨c38, rfl, g39⟩ := rdo_Tlaws_Forest g14
 obtain ⟨a40, c41, rfl⟩ := rd_sl1 g39
 obtain ⟨c42, c43, rfl, g44, g45⟩ := rdo_Tlaws_Score g15
 obtain ⟨a46, c47, rfl⟩ := rd_sl1 g44
 obtain ⟨a48, c49, rfl⟩ := rd_sl1 g45
 unfold laws_toState at H
 refine f_enter (vs := [.agg #[.slice a34 p0.Conf_.Schema_.Attrs_.length c35, .slice a36 p0.Conf_.Schema_.Classes_.length c37, .int .i64 p0.Conf_.Rule_.Sure_, .int .i64 p0.Conf_.Rule_.Tie_, .int .i64 p0.Conf_.Rule_.Grace_, .int .i64 p0.Conf_.Rule_.Depth_, .int .i64 p0.Conf_.Rule_.Nodes_, .int .i64 p0.Conf_.Rule_.Units_, .bool p0.Conf_.Rule_.Two_, .int .i64 p0.Conf_.Members_, .int .i64 p0.Conf_.Pick_, .int .i64 p0.Conf_.Lambda_, .int .i64 p0.Conf_.Warn_, .int .i64 p0.Conf_.Drift_, .slice a40 p0.Forest_.Members_.length c41, .slice a46 p0.Score_.Table_.length c47, .slice a48 p0.Score_.Last_.length c49]]) Tryz.func47 rfl Tryz.ntmps47 rfl (HS) <| c_seq <| c_reg <| ob [.slice a34 p0.Conf_.Schema_.Attrs_.length c35, .slice a36 p0.Conf_.Schema_.Classes_.length c37, .int .i64 p0.Conf_.Rule_.Sure_, .int .i64 p0.Conf_.Rule_.Tie_, .int .i64 p0.Conf_.Rule_.Grace_, .int .i64 p0.Conf_.Rule_.Depth_, .int .i64 p0.Conf_.Rule_.Nodes_, .int .i64 p0.Conf_.Rule_.Units_, .bool p0.Conf_.Rule_.Two_, .int .i64 p0.Conf_.Members_, .int .i64 p0.Conf_.Pick_, .int .i64 p0.Conf_.Lambda_, .int .i64 p0.Conf_.Warn_, .int .i64 p0.Conf_.Drift_, .slice a40 p0.Forest_.Members_.length c41, .slice a46 p0.Score_.Table_.length c47, .slice a48 p0.Score_.Last_.length c49] rfl fun b50 => ow_alloc rfl rfl rfl rfl ty81 (fun _ => kp) fun b51 => ow_nil <| x_qs <| c_seq <| c_reg <| ow_alloc rfl rfl rfl rfl ty81 (fun _ => kp) fun b52 => ow_nil <| x_qs <| c_seq <| c_reg <| ow_batch [.fa 100 0 0 fa100_0] rfl <| o1 rfl (rx 0 0 [.slice a34 p0.Conf_.Schema_.Attrs_.length c35, .slice a36 p0.Conf_.Schema_.Classes_.length c37, .int .i64 p0.Conf_.Rule_.Sure_, .int .i64 p0.Conf_.Rule_.Tie_, .int .i64 p0.Conf_.Rule_.Grace_, .int .i64 p0.Conf_.Rule_.Depth_, .int .i64 p0.Conf_.Rule_.Nodes_, .int .i64 p0.Conf_.Rule_.Units_, .bool p0.Conf_.Rule_.Two_, .int .i64 p0.Conf_.Members_, .int .i64 p0.Conf_.Pick_, .int .i64 p0.Conf_.Lambda_, .int .i64 p0.Conf_.Warn_, .int .i64 p0.Conf_.Drift_] rfl ty69 rfl) <| bE H fun y53 h54 H => ow_callS rfl fn35 rfl rfl rfl rfl (fun w1 hw1 => laws_toConf_ok w1 (cs0 := [.slice a34 p0.Conf_.Schema_.Attrs_.length c35, .slice a36 p0.Conf_.Schema_.Classes_.length c37, .int .i64 p0.Conf_.Rule_.Sure_, .int .i64 p0.Conf_.Rule_.Tie_, .int .i64 p0.Conf_.Rule_.Grace_, .int .i64 p0.Conf_.Rule_.Depth_, .int .i64 p0.Conf_.Rule_.Nodes_, .int .i64 p0.Conf_.Rule_.Units_, .bool p0.Conf_.Rule_.Two_, .int .i64 p0.Conf_.Members_, .int .i64 p0.Conf_.Pick_, .int .i64 p0.Conf_.Lambda_, .int .i64 p0.Conf_.Warn_, .int .i64 p0.Conf_.Drift_]) h54 (hw1.carve [] rfl rfl) (rdm_Tlaws_Conf (x := p0.Conf_) (c0 := [.slice a34 p0.Conf_.Schema_.Attrs_.length c35, .slice a36 p0.Conf_.Schema_.Classes_.length c37]) (c1 := [.int .i64 p0.Conf_.Rule_.Sure_, .int .i64 p0.Conf_.Rule_.Tie_, .int .i64 p0.Conf_.Rule_.Grace_, .int .i64 p0.Conf_.Rule_.Depth_, .int .i64 p0.Conf_.Rule_.Nodes_, .int .i64 p0.Conf_.Rule_.Units_, .bool p0.Conf_.Rule_.Two_]) (c2 := [.int .i64 p0.Conf_.Members_]) (c3 := [.int .i64 p0.Conf_.Pick_]) (c4 := [.int .i64 p0.Conf_.Lambda_]) (c5 := [.int .i64 p0.Conf_.Warn_]) (c6 := [.int .i64 p0.Conf_.Drift_]) (rdm_Tlaws_Schema (x := p0.Conf_.Schema_) (c0 := [.slice a34 p0.Conf_.Schema_.Attrs_.length c35]) (c1 := [.slice a36 p0.Conf_.Schema_.Classes_.length c37]) (rds_bor g32 w1 hw1) (rds_bor g33 w1 hw1)) rfl rfl rfl rfl rfl rfl)) fun v55 w1 w2 hw1 hR57 => ?_
 obtain ⟨a58, n59, c60, F61, a62, n63, c64, F65, rfl, hS56⟩ := hR57
 obtain rfl := own_nS (i := 0) hS56 rfl
 obtain rfl := own_nS (i := 1) hS56 rfl
 refine ⟨St w M0 [_, _, _, _, _], hw1.comp [] rfl rfl hS56, fun _ _ => trivial, ?_⟩
 refine ow_batch [.fa 81 0 0 fa81_0] rfl <| sC 0 [.slice a58 y53.Schema_.Attrs_.length c60, .slice a62 y53.Schema_.Classes_.length c64, .int .i64 y53.Rule_.Sure_, .int .i64 y53.Rule_.Tie_, .int .i64 y53.Rule_.Grace_, .int .i64 y53.Rule_.Depth_, .int .i64 y53.Rule_.Nodes_, .int .i64 y53.Rule_.Units_, .bool y53.Rule_.Two_, .int .i64 y53.Members_, .int .i64 y53.Pick_, .int .i64 y53.Lambda_, .int .i64 y53.Warn_, .int .i64 y53.Drift_] [_, _, _, _, _, _, _, _, _, _, _, _, _, _, _, _, _] 2 rfl ty73 rfl <| ow_nil <| x_qs <| c_seq <| c_reg <| ow_batch [.fa 100 1 14 fa100_1] rfl <| o1 rfl (rx 14 0 [.slice a40 p0.Forest_.Members_.length c41] rfl ty95 rfl) <| bE H fun y66 h67 H => ow_callS rfl fn116 rfl rfl rfl rfl (fun w1 hw1 => laws_toForest_ok w1 (cs0 := [.slice a40 p0.Forest_.Members_.length c41]) h67 (hw1.carve [] rfl rfl) (rdm_Tlaws_Forest (x := p0.Forest_) (c0 := [.slice a40 p0.Forest_.Members_.length c41]) (rds_bor g39 w1 hw1))) fun v68 w1 w2 hw1 hR70 => ?_
 obtain ⟨a71, n72, c73, F74, rfl, hS69⟩ := hR70
 obtain rfl := own_nS (i := 0) hS69 rfl
 refine ⟨St w M0 [_, _, _, _, _, _], hw1.comp [] rfl rfl hS69, fun _ _ => trivial, ?_⟩
 refine ow_batch [.fa 81 1 14 fa81_1] rfl <| sC 14 [.slice a71 y66.Members_.length c73] [_, _, _, _, _, _, _, _, _, _, _, _, _, _, _, _, _] 2 rfl ty76 rfl <| ow_nil <| x_qs <| c_seq <| c_reg <| ow_batch [.fa 100 2 15 fa100_2] rfl <| o1 rfl (rx 15 0 [.slice a46 p0.Score_.Table_.length c47, .slice a48 p0.Score_.Last_.length c49] rfl ty98 rfl) <| bE H fun y75 h76 H => ow_callS rfl fn117 rfl rfl rfl rfl (fun w1 hw1 => laws_toScore_ok w1 (cs0 := [.slice a46 p0.Score_.Table_.length c47, .slice a48 p0.Score_.Last_.length c49]) h76 (hw1.carve [] rfl rfl) (rdm_Tlaws_Score (x := p0.Score_) (c0 := [.slice a46 p0.Score_.Table_.length c47]) (c1 := [.slice a48 p0.Score_.Last_.length c49]) (rds_bor g44 w1 hw1) (rds_bor g45 w1 hw1))) fun v77 w1 w2 hw1 hR79 => ?_
 obtain ⟨a80, n81, c82, F83, a84, n85, c86, F87, rfl, hS78⟩ := hR79
 obtain rfl := own_nS (i := 0) hS78 rfl
 obtain rfl := own_nS (i := 1) hS78 rfl
 refine ⟨St w M0 [_, _, _, _, _, _, _, _], hw1.comp [] rfl rfl hS78, fun _ _ => trivial, ?_⟩
 exact ow_batch [.fa 81 2 15 fa81_2] rfl <| sC 15 [.slice a80 y75.Table_.length c82, .slice a84 y75.Last_.length c86] [_, _, _, _, _, _, _, _, _, _, _, _, _, _, _, _, _] 2 rfl ty79 rfl <| ow_nil <| x_qs <| c_seq <| c_reg <| o1 rfl (rx 0 2 [.slice a58 y53.Schema_.Attrs_.length c60, .slice a62 y53.Schema_.Classes_.length c64, .int .i64 y53.Rule_.Sure_, .int .i64 y53.Rule_.Tie_, .int .i64 y53.Rule_.Grace_, .int .i64 y53.Rule_.Depth_, .int .i64 y53.Rule_.Nodes_, .int .i64 y53.Rule_.Units_, .bool y53.Rule_.Two_, .int .i64 y53.Members_, .int .i64 y53.Pick_, .int .i64 y53.Lambda_, .int .i64 y53.Warn_, .int .i64 y53.Drift_, .slice a71 y66.Members_.length c73, .slice a80 y75.Table_.length c82, .slice a84 y75.Last_.length c86] rfl ty81 rfl) <| sC 0 [.slice a58 y53.Schema_.Attrs_.length c60, .slice a62 y53.Schema_.Classes_.length c64, .int .i64 y53.Rule_.Sure_, .int .i64 y53.Rule_.Tie_, .int .i64 y53.Rule_.Grace_, .int .i64 y53.Rule_.Depth_, .int .i64 y53.Rule_.Nodes_, .int .i64 y53.Rule_.Units_, .bool y53.Rule_.Two_, .int .i64 y53.Members_, .int .i64 y53.Pick_, .int .i64 y53.Lambda_, .int .i64 y53.Warn_, .int .i64 y53.Drift_, .slice a71 y66.Members_.length c73, .slice a80 y75.Table_.length c82, .slice a84 y75.Last_.length c86] [_, _, _, _, _, _, _, _, _, _, _, _, _, _, _, _, _] 1 rfl ty81 rfl <| ow_nil <| x_qs <| c_ret <| x_retR (rs := [.cell 2 81]) (vs := [.agg #[.slice a58 y53.Schema_.Attrs_.length c60, .slice a62 y53.Schema_.Classes_.length c64, .int .i64 y53.Rule_.Sure_, .int .i64 y53.Rule_.Tie_, .int .i64 y53.Rule_.Grace_, .int .i64 y53.Rule_.Depth_, .int .i64 y53.Rule_.Nodes_, .int .i64 y53.Rule_.Units_, .bool y53.Rule_.Two_, .int .i64 y53.Members_, .int .i64 y53.Pick_, .int .i64 y53.Lambda_, .int .i64 y53.Warn_, .int .i64 y53.Drift_, .slice a71 y66.Members_.length c73, .slice a80 y75.Table_.length c82, .slice a84 y75.Last_.length c86]]) rfl ⟨⟨_, [.slice a58 y53.Schema_.Attrs_.length c60, .slice a62 y53.Schema_.Classes_.length c64, .int .i64 y53.Rule_.Sure_, .int .i64 y53.Rule_.Tie_, .int .i64 y53.Rule_.Grace_, .int .i64 y53.Rule_.Depth_, .int .i64 y53.Rule_.Nodes_, .int .i64 y53.Rule_.Units_, .bool y53.Rule_.Two_, .int .i64 y53.Members_, .int .i64 y53.Pick_, .int .i64 y53.Lambda_, .int .i64 y53.Warn_, .int .i64 y53.Drift_, .slice a71 y66.Members_.length c73, .slice a80 y75.Table_.length c82, .slice a84 y75.Last_.length c86], _, _, _, rfl, ty81, (at_box (T := 81) 0 (boxIn (i := 1) rfl) rfl), rfl, rfl⟩, trivial⟩ (fun w' hw' => by
  obtain rfl := of_some H
  exact ⟨_, rfl, a58, y53.Schema_.Attrs_.length, c60, F61, a62, y53.Schema_.Classes_.length, c64, F65, a71, y66.Members_.length, c73, F74, a80, y75.Table_.length, c82, F83, a84, y75.Last_.length, c86, F87, rfl, hw'.sel [3, 4, 5, 6, 7] rfl rfl⟩)
theorem spec_Thresholds_ok (w : World) {M0 : List Nat} {p0 : Int}  {r : List Int} (H : spec_Thresholds p0 = some r) (HS : St w M0 [] w)  :
    Calls Tryz.prog 218 #[.int .i64 p0] w (fun en w' => ∃ v, en = .returned v ∧ ∃ (a0 : Option Addr), ∃ (n0 : Nat), ∃ (c0 : Nat), ∃ (F0 : List Nat), v = .slice a0 n0 c0 ∧ St w M0 [Res.own (eList (eVal (Value.int .i64) (fun _ => rfl)) 3) F0 r [.slice a0 n0 c0]] w') := by
 unfold spec_Thresholds at H
 refine f_enter (vs := [.int .i64 p0]) Tryz.func218 rfl Tryz.ntmps218 rfl (HS) <| c_seq <| c_reg <| ow_batch [.p] rfl <| ow_nil <| x_qs <| c_seq <| c_seq <| c_reg <| ow_batch [.p] rfl <| ow_nil <| x_qs <| c_block <| c_seq <| c_reg <| ow_batch [.p, .p] rfl <| ow_nil <| x_qs <| cI H rfl (fun H => ?_) (fun H => ?_)
 ·exact c_seq <| c_reg <| ow_blit (val := Value.int .i64) (h1 := fun _ => rfl) [24109, 48218, 60273, 64291, 65296, 65497, 65530] [(0, [.int .i64 24109]), (1, [.int .i64 48218]), (2, [.int .i64 60273]), (3, [.int .i64 64291]), (4, [.int .i64 65296]), (5, [.int .i64 65497]), (6, [.int .i64 65530])] rfl rfl rfl rfl rfl sl59 ty3 rfl rfl rfl ⟨rfl, rfl, Nat.le_of_ble_eq_true rfl, rfl, rfl, Nat.le_of_ble_eq_true rfl, rfl, rfl, Nat.le_of_ble_eq_true rfl, rfl, rfl, Nat.le_of_ble_eq_true rfl, rfl, rfl, Nat.le_of_ble_eq_true rfl, rfl, rfl, Nat.le_of_ble_eq_true rfl, rfl, rfl, Nat.le_of_ble_eq_true rfl,  trivial⟩ rfl rfl (fun _ => kp) fun b10 => ow_batch [.p] rfl <| ow_nil <| x_qs <| c_ret <| x_qb_ret <| x_qs_ret <| x_retR (rs := [.tmp 2]) (vs := [.slice (some ⟨b10, 0, none⟩) (([24109, 48218, 60273, 64291, 65296, 65497, 65530] : List Int).length) 7]) rfl ⟨rfl, trivial⟩ (fun w' hw' => by
   obtain rfl := of_some H
   exact ⟨_, rfl, (some ⟨b10, 0, none⟩), (([24109, 48218, 60273, 64291, 65296, 65497, 65530] : List Int).length), 7, [b10], rfl, hw'.sel [0] rfl rfl⟩)
 ·refine c_seq <| c_reg <| ow_batch [.p, .p] rfl <| ow_nil <| x_qs <| cI H rfl (fun H => ?_) (fun H => ?_)
  ·exact c_seq <| c_reg <| ow_blit (val := Value.int .i64) (h1 := fun _ => rfl) [162, 1137, 4061, 9909, 18681, 29208, 39734] [(0, [.int .i64 162]), (1, [.int .i64 1137]), (2, [.int .i64 4061]), (3, [.int .i64 9909]), (4, [.int .i64 18681]), (5, [.int .i64 29208]), (6, [.int .i64 39734])] rfl rfl rfl rfl rfl sl59 ty3 rfl rfl rfl ⟨rfl, rfl, Nat.le_of_ble_eq_true rfl, rfl, rfl, Nat.le_of_ble_eq_true rfl, rfl, rfl, Nat.le_of_ble_eq_true rfl, rfl, rfl, Nat.le_of_ble_eq_true rfl, rfl, rfl, Nat.le_of_ble_eq_true rfl, rfl, rfl, Nat.le_of_ble_eq_true rfl, rfl, rfl, Nat.le_of_ble_eq_true rfl,  trivial⟩ rfl rfl (fun _ => kp) fun b11 => ow_batch [.p] rfl <| ow_nil <| x_qs <| c_ret <| x_qb_ret <| x_qs_ret <| x_retR (rs := [.tmp 2]) (vs := [.slice (some ⟨b11, 0, none⟩) (([162, 1137, 4061, 9909, 18681, 29208, 39734] : List Int).length) 7]) rfl ⟨rfl, trivial⟩ (fun w' hw' => by
    obtain rfl := of_some H
    exact ⟨_, rfl, (some ⟨b11, 0, none⟩), (([162, 1137, 4061, 9909, 18681, 29208, 39734] : List Int).length), 7, [b11], rfl, hw'.sel [0] rfl rfl⟩)
  ·exact c_skip <| x_qb <| x_qs <| c_seq <| c_reg <| ow_blit0 (e := eVal (Value.int .i64) (fun _ => rfl)) rfl rfl rfl rfl sl59 ty3 (fun _ => kp) fun b12 => ow_batch [.p] rfl <| ow_nil <| x_qs <| c_ret <| x_retR (rs := [.tmp 2]) (vs := [.slice (some ⟨b12, 0, none⟩) 0 0]) rfl ⟨rfl, trivial⟩ (fun w' hw' => by
    obtain rfl := of_some H
    exact ⟨_, rfl, (some ⟨b12, 0, none⟩), 0, 0, [b12], rfl, hw'.sel [0] rfl rfl⟩)
theorem spec_ConfOk_ok (w : World) {p0 : Timpl_Conf} {cs0 : List Value} {r : Bool} (H : spec_ConfOk p0 = some r)  (g0 : (eTimpl_Conf).rd w [] p0 cs0) :
    Calls Tryz.prog 160 #[.agg cs0.toArray] w (fun en w' => en = .returned (.bool r) ∧ Ext [] w w') := by
 obtain ⟨c10, c11, c12, c13, c14, c15, c16, rfl, g17, g18, g19, g20, g21, g22, g23⟩ := rdo_Timpl_Conf g0
 obtain ⟨c24, c25, rfl, g26, g27⟩ := rdo_Timpl_Schema g17
 obtain ⟨a28, c29, rfl⟩ := rd_sl1 g26
 obtain ⟨a30, c31, rfl⟩ := rd_sl1 g27
 obtain rfl : c11 = [.int .i64 p0.Rule_.Sure_, .int .i64 p0.Rule_.Tie_, .int .i64 p0.Rule_.Grace_, .int .i64 p0.Rule_.Depth_, .int .i64 p0.Rule_.Nodes_, .int .i64 p0.Rule_.Units_, .bool p0.Rule_.Two_] := g18
 obtain rfl : c12 = [.int .i64 p0.Members_] := g19
 obtain rfl : c13 = [.int .i64 p0.Pick_] := g20
 obtain rfl : c14 = [.int .i64 p0.Lambda_] := g21
 obtain rfl : c15 = [.int .i64 p0.Warn_] := g22
 obtain rfl : c16 = [.int .i64 p0.Drift_] := g23
 unfold spec_ConfOk at H
 refine f_enter (vs := [.agg #[.slice a28 p0.Schema_.Attrs_.length c29, .slice a30 p0.Schema_.Classes_.length c31, .int .i64 p0.Rule_.Sure_, .int .i64 p0.Rule_.Tie_, .int .i64 p0.Rule_.Grace_, .int .i64 p0.Rule_.Depth_, .int .i64 p0.Rule_.Nodes_, .int .i64 p0.Rule_.Units_, .bool p0.Rule_.Two_, .int .i64 p0.Members_, .int .i64 p0.Pick_, .int .i64 p0.Lambda_, .int .i64 p0.Warn_, .int .i64 p0.Drift_]]) Tryz.func160 rfl Tryz.ntmps160 rfl (St.init w []) <| c_seq <| c_reg <| ob [.slice a28 p0.Schema_.Attrs_.length c29, .slice a30 p0.Schema_.Classes_.length c31, .int .i64 p0.Rule_.Sure_, .int .i64 p0.Rule_.Tie_, .int .i64 p0.Rule_.Grace_, .int .i64 p0.Rule_.Depth_, .int .i64 p0.Rule_.Nodes_, .int .i64 p0.Rule_.Units_, .bool p0.Rule_.Two_, .int .i64 p0.Members_, .int .i64 p0.Pick_, .int .i64 p0.Lambda_, .int .i64 p0.Warn_, .int .i64 p0.Drift_] rfl fun b32 => ow_batch [.p] rfl <| ow_nil <| x_qs <| c_seq <| c_reg <| ow_batch [.fa 73 0 0 fa73_0] rfl <| o1 rfl (rx 0 0 [.slice a28 p0.Schema_.Attrs_.length c29, .slice a30 p0.Schema_.Classes_.length c31] rfl ty35 rfl) <| bE H fun y33 h34 H => oq rfl (qc rfl fn122 (fun w1 hw1 => spec_SchemaOk_ok w1 (cs0 := [.slice a28 p0.Schema_.Attrs_.length c29, .slice a30 p0.Schema_.Classes_.length c31]) h34 (rdm_Timpl_Schema (x := p0.Schema_) (c0 := [.slice a28 p0.Schema_.Attrs_.length c29]) (c1 := [.slice a30 p0.Schema_.Classes_.length c31]) (rds_bor g26 w1 hw1) (rds_bor g27 w1 hw1)))) tt2 <| ow_batch [.p] rfl <| bE H fun u35 hu39 H => ow_cut [(10, .bool u35), (1, .pointer (some ⟨b32, 0, none⟩)), (2, .bool false)] 4 ?_ (fun key => OW.sub (R := [(1, .pointer (some ⟨b32, 0, none⟩)), (2, .bool false), (6, .bool y33)]) ?_ (sb rfl))
 ·refine ow_batch [.p] rfl <| bE H fun u40 hu44 H => ow_cut [(15, .bool u40), (1, .pointer (some ⟨b32, 0, none⟩)), (2, .bool false)] 4 ?_ (fun key => OW.sub (R := [(1, .pointer (some ⟨b32, 0, none⟩)), (2, .bool false), (11, .bool u35)]) ?_ (sb rfl))
  ·refine ow_batch [.p] rfl <| bE H fun u45 hu49 H => ow_cut [(24, .bool u45), (1, .pointer (some ⟨b32, 0, none⟩)), (2, .bool false)] 8 ?_ (fun key => OW.sub (R := [(1, .pointer (some ⟨b32, 0, none⟩)), (2, .bool false), (16, .bool u40)]) ?_ (sb rfl))
   ·refine ow_batch [.p] rfl <| bE H fun u50 hu61 H => ow_cut [(31, .bool u50), (1, .pointer (some ⟨b32, 0, none⟩)), (2, .bool false)] 6 ?_ (fun key => OW.sub (R := [(1, .pointer (some ⟨b32, 0, none⟩)), (2, .bool false), (25, .bool u45)]) ?_ (sb rfl))
    ·refine ow_batch [.p] rfl <| bE H fun u62 hu66 H => ow_cut [(36, .bool u62), (1, .pointer (some ⟨b32, 0, none⟩)), (2, .bool false)] 4 ?_ (fun key => OW.sub (R := [(1, .pointer (some ⟨b32, 0, none⟩)), (2, .bool false), (32, .bool u50)]) ?_ (sb rfl))
     ·refine ow_batch [.p] rfl <| bE H fun u67 hu71 H => ow_cut [(41, .bool u67), (1, .pointer (some ⟨b32, 0, none⟩)), (2, .bool false)] 4 ?_ (fun key => OW.sub (R := [(1, .pointer (some ⟨b32, 0, none⟩)), (2, .bool false), (37, .bool u62)]) ?_ (sb rfl))
      ·refine ow_batch [.p] rfl <| ow_cut [(48, .bool (u67 && (decide (p0.Warn_ ≤ p0.Drift_)))), (2, .bool false)] 6 ?_ (fun key => OW.sub (R := [(1, .pointer (some ⟨b32, 0, none⟩)), (2, .bool false), (42, .bool u67)]) ?_ (sb rfl))
       ·exact ow_batch [.p] rfl <| ow_nil <| x_qs <| c_ret <| xr 2 rfl (by cases H; exact q1)
       ·generalize u67 = t73 at key ⊢
        cases t73
        ·exact ow_batch [.p, .p, .p, .p, .p, .p] rfl <| OW.sub key (sb rfl)
        ·exact ow_batch [.fa 73 5 12 fa73_5] rfl <| o1 rfl (r1 12 0 rfl ty3 rfl) <| ow_batch [.fa 73 6 13 fa73_6] rfl <| o1 rfl (r1 13 0 rfl ty3 rfl) <| ow_batch [.p] rfl <| ow_batch [.p] rfl <| OW.sub key (sb rfl)
      ·clear H
       have H := hu71
       clear hu71
       generalize u62 = t70 at H key ⊢
       cases t70
       ·have H := of_if_f rfl H
        refine ow_batch [.p, .p, .p, .p] rfl ?_
        obtain rfl := of_some H
        exact OW.sub key (sb rfl)
       ·have H := of_if_t rfl H
        refine ow_batch [.fa 73 6 13 fa73_6] rfl <| o1 rfl (r1 13 0 rfl ty3 rfl) <| bE H fun y68 h69 H => oq rfl (qc rfl fn88 (fun w1 hw1 => spec_l1In_ok w1  h69)) tt2 <| ow_batch [.p] rfl <| ?_
        obtain rfl := of_some H
        exact OW.sub key (sb rfl)
     ·clear H
      have H := hu66
      clear hu66
      generalize u50 = t65 at H key ⊢
      cases t65
      ·have H := of_if_f rfl H
       refine ow_batch [.p, .p, .p, .p] rfl ?_
       obtain rfl := of_some H
       exact OW.sub key (sb rfl)
      ·have H := of_if_t rfl H
       refine ow_batch [.fa 73 5 12 fa73_5] rfl <| o1 rfl (r1 12 0 rfl ty3 rfl) <| bE H fun y63 h64 H => oq rfl (qc rfl fn88 (fun w1 hw1 => spec_l1In_ok w1  h64)) tt2 <| ow_batch [.p] rfl <| ?_
       obtain rfl := of_some H
       exact OW.sub key (sb rfl)
    ·clear H
     have H := hu61
     clear hu61
     generalize u45 = t60 at H key ⊢
     cases t60
     ·have H := of_if_f rfl H
      refine ow_batch [.p, .p, .p, .p, .p, .p] rfl ?_
      obtain rfl := of_some H
      exact OW.sub key (sb rfl)
     ·have H := of_if_t rfl H
      refine ow_batch [.fa 73 4 11 fa73_4] rfl <| o1 rfl (r1 11 0 rfl ty3 rfl) <| bE H fun y51 h52 H => ow_callS rfl fn218 rfl rfl rfl rfl (fun w1 hw1 => spec_Thresholds_ok w1  h52 (hw1.carve [] rfl rfl)) fun v53 w1 w2 hw1 hR55 => ?_
      obtain ⟨a56, n57, c58, F59, rfl, hS54⟩ := hR55
      obtain rfl := own_nS (i := 0) hS54 rfl
      refine ⟨St w [] [_, _], hw1.comp [] rfl rfl hS54, fun _ _ => trivial, ?_⟩
      refine ow_batch [.lenS 59 3 sl59, .p] rfl <| ow_st rfl (C' := St w [] [_]) (fun _ h => St.sel [0] rfl rfl h) <| ow_batch [.p] rfl <| ?_
      obtain rfl := of_some H
      exact OW.sub key (sb rfl)
   ·clear H
    have H := hu49
    clear hu49
    generalize u40 = t48 at H key ⊢
    cases t48
    ·have H := of_if_f rfl H
     refine ow_batch [.p, .p, .p, .p, .p, .p, .p, .p] rfl ?_
     obtain rfl := of_some H
     exact OW.sub key (sb rfl)
    ·have H := of_if_t rfl H
     refine ow_batch [.fa 73 3 10 fa73_3] rfl <| o1 rfl (r1 10 0 rfl ty3 rfl) <| ow_batch [.fa 73 0 0 fa73_0, .fa 35 0 0 fa35_0] rfl <| o1 rfl (r1 0 0 rfl ty33 rfl) <| ow_batch [.lenS 33 114 sl33] rfl <| bE H fun y46 h47 H => oq rfl (qc rfl fn88 (fun w1 hw1 => spec_l1In_ok w1  h47)) tt2 <| ow_batch [.p] rfl <| ?_
     obtain rfl := of_some H
     exact OW.sub key (sb rfl)
  ·clear H
   have H := hu44
   clear hu44
   generalize u35 = t43 at H key ⊢
   cases t43
   ·have H := of_if_f rfl H
    refine ow_batch [.p, .p, .p, .p] rfl ?_
    obtain rfl := of_some H
    exact OW.sub key (sb rfl)
   ·have H := of_if_t rfl H
    refine ow_batch [.fa 73 2 9 fa73_2] rfl <| o1 rfl (r1 9 0 rfl ty3 rfl) <| bE H fun y41 h42 H => oq rfl (qc rfl fn88 (fun w1 hw1 => spec_l1In_ok w1  h42)) tt2 <| ow_batch [.p] rfl <| ?_
    obtain rfl := of_some H
    exact OW.sub key (sb rfl)
 ·clear H
  have H := hu39
  clear hu39
  generalize y33 = t38 at H key ⊢
  cases t38
  ·have H := of_if_f rfl H
   refine ow_batch [.p, .p, .p, .p] rfl ?_
   obtain rfl := of_some H
   exact OW.sub key (sb rfl)
  ·have H := of_if_t rfl H
   refine ow_batch [.fa 73 1 2 fa73_1] rfl <| o1 rfl (rx 2 0 [.int .i64 p0.Rule_.Sure_, .int .i64 p0.Rule_.Tie_, .int .i64 p0.Rule_.Grace_, .int .i64 p0.Rule_.Depth_, .int .i64 p0.Rule_.Nodes_, .int .i64 p0.Rule_.Units_, .bool p0.Rule_.Two_] rfl ty53 rfl) <| bE H fun y36 h37 H => oq rfl (qc rfl fn74 (fun w1 hw1 => spec_RuleOk_ok w1 (p0 := p0.Rule_) h37)) tt2 <| ow_batch [.p] rfl <| ?_
   obtain rfl := of_some H
   exact OW.sub key (sb rfl)
theorem spec_DepthOf_ok (w : World) {p0 : Timpl_Tree} {cs0 : List Value} {r : Int} (H : spec_DepthOf p0 = some r)  (g0 : (eTimpl_Tree).rd w [] p0 cs0) :
    Calls Tryz.prog 250 #[.agg cs0.toArray] w (fun en w' => en = .returned (.int .i64 r) ∧ Ext [] w w') := by
 obtain ⟨c10, c11, rfl, g12, g13⟩ := rdo_Timpl_Tree g0
 obtain ⟨a14, c15, rfl⟩ := rd_sl1 g12
 obtain rfl : c11 = [.int .i64 p0.Seen_] := g13
 unfold spec_DepthOf at H
 refine f_enter (vs := [.agg #[.slice a14 p0.Nodes_.length c15, .int .i64 p0.Seen_]]) Tryz.func250 rfl Tryz.ntmps250 rfl (St.init w []) <| c_seq <| c_reg <| ob [.slice a14 p0.Nodes_.length c15, .int .i64 p0.Seen_] rfl fun b16 => ow_batch [.p] rfl <| ow_nil <| x_qs <| c_seq <| c_reg <| ow_batch [.p] rfl <| ow_nil <| x_qs <| c_seq <| c_seq <| c_reg <| ow_batch [.p] rfl <| ow_nil <| x_qs <| c_block <| CW.at (loopI2 (fun (i98 : Int) (i99 : Int) => St w [] [Res.box b16 39 [.slice a14 p0.Nodes_.length c15, .int .i64 p0.Seen_]]) (fun (i98 : Int) (i99 : Int) => [(1, .pointer (some ⟨b16, 0, none⟩)), (3, .int .i64 i98), (4, .int .i64 i99)]) (fun kk => fun (i98 : Int) (i99 : Int) => spec_DepthOf_L1 p0 kk i98 i99 = some r) (fun _ _ H => ?_) (fun k1 ihk1 i98 i99 H => ?_) Fuel (0) (0) (H)) (fun _ h => St.sel [0] rfl rfl h) ⟨rfl, rfl, rfl,  trivial⟩
 ·unfold spec_DepthOf_L1 at H
  exact absurd H (by simp)
 ·unfold spec_DepthOf_L1 at H
  refine c_seq <| c_seq <| c_reg <| ow_batch [.p, .fa 39 0 0 fa39_0] rfl <| o1 rfl (r1 0 0 rfl ty37 rfl) <| ow_batch [.lenS 37 118 sl37, .p] rfl <| ow_nil <| x_qs <| cI H rfl (fun H => ?_) (fun H => ?_)
  ·refine c_skip <| x_qs <| c_seq <| c_block <| c_seq <| c_reg <| ow_batch [.p, .p, .p] rfl <| bE H fun u181 hu221 H => ow_cut [(23, .bool u181), (1, .pointer (some ⟨b16, 0, none⟩)), (3, .int .i64 i98), (4, .int .i64 i99)] 9 ?_ (fun key => OW.sub (R := [(1, .pointer (some ⟨b16, 0, none⟩)), (3, .int .i64 i98), (4, .int .i64 i99), (14, .bool (i99 == 0))]) ?_ (sb rfl))
   ·refine ow_nil <| x_qs <| cI H rfl (fun H => ?_) (fun H => ?_)
    ·refine c_reg <| ow_batch [.fa 39 0 0 fa39_0] rfl <| o1 rfl (r1 0 0 rfl ty37 rfl) <| ow_batch [.p] rfl <| bE H fun e222 h223 H => ow_ixB rfl rfl rfl rfl rfl sl37 ty118 rfl g12 h223 fun q226 c227 hd224 hA225 => ?_
     obtain ⟨c228, c229, c230, c231, c232, c233, c234, c235, c236, c237, rfl, g238, g239, g240, g241, g242, g243, g244, g245, g246, g247⟩ := rdo_Timpl_Node hd224
     obtain rfl : c228 = [.bool e222.Leaf_] := g238
     obtain rfl : c229 = [.int .i64 e222.Fork_.Attr_, .int .i64 e222.Fork_.At_] := g239
     obtain ⟨a248, c249, rfl⟩ := rd_sl1 g240
     obtain rfl : c231 = [.int .i64 e222.Miss_] := g241
     obtain ⟨c250, c251, rfl, g252, g253⟩ := rdo_Timpl_Stats g242
     obtain ⟨a254, c255, rfl⟩ := rd_sl1 g252
     obtain ⟨a256, c257, rfl⟩ := rd_sl1 g253
     obtain rfl : c233 = [.int .i64 e222.Since_] := g243
     obtain ⟨a258, c259, rfl⟩ := rd_sl1 g244
     obtain rfl : c235 = [.int .i64 e222.Depth_] := g245
     obtain rfl : c236 = [.int .i64 e222.Up_] := g246
     obtain rfl : c237 = [.int .i64 e222.Born_] := g247
     exact ow_batch [.fa 118 7 9 fa118_7] rfl <| o1 rfl (ry_load1 rfl rfl ty3 (at_bor bor (at_K hA225 9 1))) <| ow_batch [.p] rfl <| ow_nil <| x_qb <| x_qs <| c_reg <| ow_batch [.p, .p, .p] rfl <| ow_nil <| x_ql (RW.at (ihk1 (e222.Depth_) (IntKind.i64.wrap (i99 + 1)) (H)) (fun _ h => St.sel [0] rfl rfl h) ⟨rfl, rfl, rfl, trivial⟩)
    ·exact c_skip <| x_qb <| x_qs <| c_reg <| ow_batch [.p, .p, .p] rfl <| ow_nil <| x_ql (RW.at (ihk1 (i98) (IntKind.i64.wrap (i99 + 1)) (H)) (fun _ h => St.sel [0] rfl rfl h) ⟨rfl, rfl, rfl, trivial⟩)
   ·clear H
    have H := hu221
    clear hu221
    generalize (i99 == 0) = t220 at H key ⊢
    cases t220
    ·have H := of_if_f rfl H
     refine ow_batch [.fa 39 0 0 fa39_0] rfl <| o1 rfl (r1 0 0 rfl ty37 rfl) <| ow_batch [.p] rfl <| bE H fun e182 h183 H => ow_ixB rfl rfl rfl rfl rfl sl37 ty118 rfl g12 h183 fun q186 c187 hd184 hA185 => ?_
     obtain ⟨c188, c189, c190, c191, c192, c193, c194, c195, c196, c197, rfl, g198, g199, g200, g201, g202, g203, g204, g205, g206, g207⟩ := rdo_Timpl_Node hd184
     obtain rfl : c188 = [.bool e182.Leaf_] := g198
     obtain rfl : c189 = [.int .i64 e182.Fork_.Attr_, .int .i64 e182.Fork_.At_] := g199
     obtain ⟨a208, c209, rfl⟩ := rd_sl1 g200
     obtain rfl : c191 = [.int .i64 e182.Miss_] := g201
     obtain ⟨c210, c211, rfl, g212, g213⟩ := rdo_Timpl_Stats g202
     obtain ⟨a214, c215, rfl⟩ := rd_sl1 g212
     obtain ⟨a216, c217, rfl⟩ := rd_sl1 g213
     obtain rfl : c193 = [.int .i64 e182.Since_] := g203
     obtain ⟨a218, c219, rfl⟩ := rd_sl1 g204
     obtain rfl : c195 = [.int .i64 e182.Depth_] := g205
     obtain rfl : c196 = [.int .i64 e182.Up_] := g206
     obtain rfl : c197 = [.int .i64 e182.Born_] := g207
     refine ow_batch [.fa 118 7 9 fa118_7] rfl <| o1 rfl (ry_load1 rfl rfl ty3 (at_bor bor (at_K hA185 9 1))) <| ow_batch [.p, .p] rfl <| ow_batch [.p] rfl <| ?_
     obtain rfl := of_some H
     exact OW.sub key (sb rfl)
    ·have H := of_if_t rfl H
     refine ow_batch [.p, .p, .p, .p, .p, .p, .p, .p, .p] rfl ?_
     obtain rfl := of_some H
     exact OW.sub key (sb rfl)
  ·exact c_exit <| x_qs_exit <| x_ql_exit <| x_qb_here <| x_qs <| c_seq <| c_reg <| ow_batch [.p, .p] rfl <| ow_nil <| x_qs <| c_ret <| xr 2 rfl (by cases H; exact q1)
theorem spec_UnitsOf_ok (w : World) {p0 : Timpl_Node} {cs0 : List Value} {r : Int} (H : spec_UnitsOf p0 = some r)  (g0 : (eTimpl_Node).rd w [] p0 cs0) :
    Calls Tryz.prog 269 #[.agg cs0.toArray] w (fun en w' => en = .returned (.int .i64 r) ∧ Ext [] w w') := by
 obtain ⟨c10, c11, c12, c13, c14, c15, c16, c17, c18, c19, rfl, g20, g21, g22, g23, g24, g25, g26, g27, g28, g29⟩ := rdo_Timpl_Node g0
 obtain rfl : c10 = [.bool p0.Leaf_] := g20
 obtain rfl : c11 = [.int .i64 p0.Fork_.Attr_, .int .i64 p0.Fork_.At_] := g21
 obtain ⟨a30, c31, rfl⟩ := rd_sl1 g22
 obtain rfl : c13 = [.int .i64 p0.Miss_] := g23
 obtain ⟨c32, c33, rfl, g34, g35⟩ := rdo_Timpl_Stats g24
 obtain ⟨a36, c37, rfl⟩ := rd_sl1 g34
 obtain ⟨a38, c39, rfl⟩ := rd_sl1 g35
 obtain rfl : c15 = [.int .i64 p0.Since_] := g25
 obtain ⟨a40, c41, rfl⟩ := rd_sl1 g26
 obtain rfl : c17 = [.int .i64 p0.Depth_] := g27
 obtain rfl : c18 = [.int .i64 p0.Up_] := g28
 obtain rfl : c19 = [.int .i64 p0.Born_] := g29
 unfold spec_UnitsOf at H
 refine f_enter (vs := [.agg #[.bool p0.Leaf_, .int .i64 p0.Fork_.Attr_, .int .i64 p0.Fork_.At_, .slice a30 p0.Kids_.length c31, .int .i64 p0.Miss_, .slice a36 p0.Stats_.Totals_.length c37, .slice a38 p0.Stats_.Cells_.length c39, .int .i64 p0.Since_, .slice a40 p0.Attrs_.length c41, .int .i64 p0.Depth_, .int .i64 p0.Up_, .int .i64 p0.Born_]]) Tryz.func269 rfl Tryz.ntmps269 rfl (St.init w []) <| c_seq <| c_reg <| ob [.bool p0.Leaf_, .int .i64 p0.Fork_.Attr_, .int .i64 p0.Fork_.At_, .slice a30 p0.Kids_.length c31, .int .i64 p0.Miss_, .slice a36 p0.Stats_.Totals_.length c37, .slice a38 p0.Stats_.Cells_.length c39, .int .i64 p0.Since_, .slice a40 p0.Attrs_.length c41, .int .i64 p0.Depth_, .int .i64 p0.Up_, .int .i64 p0.Born_] rfl fun b42 => ow_batch [.p] rfl <| ow_nil <| x_qs <| c_seq <| c_seq <| c_reg <| ow_batch [.fa 118 0 0 fa118_0] rfl <| o1 rfl (r1 0 0 rfl ty4 rfl) <| ow_batch [.p] rfl <| ow_nil <| x_qs <| cI H rfl (fun H => ?_) (fun H => ?_)
 ·exact c_seq <| c_reg <| ow_batch [.p] rfl <| ow_nil <| x_qs <| c_ret <| x_qs_ret <| xr 2 rfl (by cases H; exact q1)
 ·refine c_skip <| x_qs <| c_seq <| c_reg <| ow_batch [.p] rfl <| ow_nil <| x_qs <| c_seq <| c_seq <| c_reg <| ow_batch [.p] rfl <| ow_nil <| x_qs <| c_block <| CW.at (loopI2 (fun (i53 : Int) (i54 : Int) => St w [] [Res.box b42 118 [.bool p0.Leaf_, .int .i64 p0.Fork_.Attr_, .int .i64 p0.Fork_.At_, .slice a30 p0.Kids_.length c31, .int .i64 p0.Miss_, .slice a36 p0.Stats_.Totals_.length c37, .slice a38 p0.Stats_.Cells_.length c39, .int .i64 p0.Since_, .slice a40 p0.Attrs_.length c41, .int .i64 p0.Depth_, .int .i64 p0.Up_, .int .i64 p0.Born_]]) (fun (i53 : Int) (i54 : Int) => [(1, .pointer (some ⟨b42, 0, none⟩)), (3, .int .i64 i53), (4, .int .i64 i54)]) (fun kk => fun (i53 : Int) (i54 : Int) => spec_UnitsOf_L1 p0 kk i53 i54 = some r) (fun _ _ H => ?_) (fun k1 ihk1 i53 i54 H => ?_) Fuel (2) (0) (H)) (fun _ h => St.sel [0] rfl rfl h) ⟨rfl, rfl, rfl,  trivial⟩
  ·unfold spec_UnitsOf_L1 at H
   exact absurd H (by simp)
  ·unfold spec_UnitsOf_L1 at H
   refine c_seq <| c_seq <| c_reg <| ow_batch [.p, .fa 118 4 5 fa118_4, .fa 62 1 1 fa62_1] rfl <| o1 rfl (r1 6 0 rfl ty60 rfl) <| ow_batch [.lenS 60 59 sl60, .p] rfl <| ow_nil <| x_qs <| cI H rfl (fun H => ?_) (fun H => ?_)
   ·refine c_skip <| x_qs <| c_seq <| c_block <| c_reg <| ow_batch [.p, .fa 118 4 5 fa118_4, .fa 62 1 1 fa62_1] rfl <| o1 rfl (r1 6 0 rfl ty60 rfl) <| ow_batch [.p] rfl <| bE H fun e66 h67 H => ow_ixB rfl rfl rfl rfl rfl sl60 ty59 rfl g35 h67 fun q70 c71 hd68 hA69 => ?_
    obtain ⟨a72, c73, rfl⟩ := rd_sl1 hd68
    exact o1 rfl (ry_load1 rfl rfl ty59 (at_bor bor hA69)) <| ow_batch [.lenS 59 3 sl59, .p, .p] rfl <| ow_nil <| x_qb <| x_qs <| c_reg <| ow_batch [.p, .p, .p] rfl <| ow_nil <| x_ql (RW.at (ihk1 (IntKind.i64.wrap (i53 + (e66.length : Int))) (IntKind.i64.wrap (i54 + 1)) (H)) (fun _ h => St.sel [0] rfl rfl h) ⟨rfl, rfl, rfl, trivial⟩)
   ·exact c_exit <| x_qs_exit <| x_ql_exit <| x_qb_here <| x_qs <| c_seq <| c_reg <| ow_batch [.p, .p] rfl <| ow_nil <| x_qs <| c_ret <| xr 2 rfl (by cases H; exact q1)
theorem spec_TreeUnits_ok (w : World) {p0 : Timpl_Tree} {cs0 : List Value} {r : Int} (H : spec_TreeUnits p0 = some r)  (g0 : (eTimpl_Tree).rd w [] p0 cs0) :
    Calls Tryz.prog 251 #[.agg cs0.toArray] w (fun en w' => en = .returned (.int .i64 r) ∧ Ext [] w w') := by
 obtain ⟨c10, c11, rfl, g12, g13⟩ := rdo_Timpl_Tree g0
 obtain ⟨a14, c15, rfl⟩ := rd_sl1 g12
 obtain rfl : c11 = [.int .i64 p0.Seen_] := g13
 unfold spec_TreeUnits at H
 refine f_enter (vs := [.agg #[.slice a14 p0.Nodes_.length c15, .int .i64 p0.Seen_]]) Tryz.func251 rfl Tryz.ntmps251 rfl (St.init w []) <| c_seq <| c_reg <| ob [.slice a14 p0.Nodes_.length c15, .int .i64 p0.Seen_] rfl fun b16 => ow_batch [.p] rfl <| ow_nil <| x_qs <| c_seq <| c_reg <| ow_batch [.p] rfl <| ow_nil <| x_qs <| c_seq <| c_seq <| c_reg <| ow_batch [.p] rfl <| ow_nil <| x_qs <| c_block <| CW.at (loopI2 (fun (i59 : Int) (i60 : Int) => St w [] [Res.box b16 39 [.slice a14 p0.Nodes_.length c15, .int .i64 p0.Seen_]]) (fun (i59 : Int) (i60 : Int) => [(1, .pointer (some ⟨b16, 0, none⟩)), (3, .int .i64 i59), (4, .int .i64 i60)]) (fun kk => fun (i59 : Int) (i60 : Int) => spec_TreeUnits_L1 p0 kk i59 i60 = some r) (fun _ _ H => ?_) (fun k1 ihk1 i59 i60 H => ?_) Fuel (0) (0) (H)) (fun _ h => St.sel [0] rfl rfl h) ⟨rfl, rfl, rfl,  trivial⟩
 ·unfold spec_TreeUnits_L1 at H
  exact absurd H (by simp)
 ·unfold spec_TreeUnits_L1 at H
  refine c_seq <| c_seq <| c_reg <| ow_batch [.p, .fa 39 0 0 fa39_0] rfl <| o1 rfl (r1 0 0 rfl ty37 rfl) <| ow_batch [.lenS 37 118 sl37, .p] rfl <| ow_nil <| x_qs <| cI H rfl (fun H => ?_) (fun H => ?_)
  ·refine c_skip <| x_qs <| c_seq <| c_block <| c_reg <| ow_batch [.p, .fa 39 0 0 fa39_0] rfl <| o1 rfl (r1 0 0 rfl ty37 rfl) <| ow_batch [.p] rfl <| bE H fun e103 h104 H => ow_ixB rfl rfl rfl rfl rfl sl37 ty118 rfl g12 h104 fun q107 c108 hd105 hA106 => ?_
   obtain ⟨c109, c110, c111, c112, c113, c114, c115, c116, c117, c118, rfl, g119, g120, g121, g122, g123, g124, g125, g126, g127, g128⟩ := rdo_Timpl_Node hd105
   obtain rfl : c109 = [.bool e103.Leaf_] := g119
   obtain rfl : c110 = [.int .i64 e103.Fork_.Attr_, .int .i64 e103.Fork_.At_] := g120
   obtain ⟨a129, c130, rfl⟩ := rd_sl1 g121
   obtain rfl : c112 = [.int .i64 e103.Miss_] := g122
   obtain ⟨c131, c132, rfl, g133, g134⟩ := rdo_Timpl_Stats g123
   obtain ⟨a135, c136, rfl⟩ := rd_sl1 g133
   obtain ⟨a137, c138, rfl⟩ := rd_sl1 g134
   obtain rfl : c114 = [.int .i64 e103.Since_] := g124
   obtain ⟨a139, c140, rfl⟩ := rd_sl1 g125
   obtain rfl : c116 = [.int .i64 e103.Depth_] := g126
   obtain rfl : c117 = [.int .i64 e103.Up_] := g127
   obtain rfl : c118 = [.int .i64 e103.Born_] := g128
   exact o1 rfl (ry_load (cs := [.bool e103.Leaf_, .int .i64 e103.Fork_.Attr_, .int .i64 e103.Fork_.At_, .slice a129 e103.Kids_.length c130, .int .i64 e103.Miss_, .slice a135 e103.Stats_.Totals_.length c136, .slice a137 e103.Stats_.Cells_.length c138, .int .i64 e103.Since_, .slice a139 e103.Attrs_.length c140, .int .i64 e103.Depth_, .int .i64 e103.Up_, .int .i64 e103.Born_]) rfl rfl ty118 (at_bor bor hA106) rfl) <| bE H fun y141 h142 H => oq rfl (qc rfl fn269 (fun w1 hw1 => spec_UnitsOf_ok w1 (cs0 := [.bool e103.Leaf_, .int .i64 e103.Fork_.Attr_, .int .i64 e103.Fork_.At_, .slice a129 e103.Kids_.length c130, .int .i64 e103.Miss_, .slice a135 e103.Stats_.Totals_.length c136, .slice a137 e103.Stats_.Cells_.length c138, .int .i64 e103.Since_, .slice a139 e103.Attrs_.length c140, .int .i64 e103.Depth_, .int .i64 e103.Up_, .int .i64 e103.Born_]) h142 (rdm_Timpl_Node (x := e103) (c0 := [.bool e103.Leaf_]) (c1 := [.int .i64 e103.Fork_.Attr_, .int .i64 e103.Fork_.At_]) (c2 := [.slice a129 e103.Kids_.length c130]) (c3 := [.int .i64 e103.Miss_]) (c4 := [.slice a135 e103.Stats_.Totals_.length c136, .slice a137 e103.Stats_.Cells_.length c138]) (c5 := [.int .i64 e103.Since_]) (c6 := [.slice a139 e103.Attrs_.length c140]) (c7 := [.int .i64 e103.Depth_]) (c8 := [.int .i64 e103.Up_]) (c9 := [.int .i64 e103.Born_]) rfl rfl (rds_bor g121 w1 hw1) rfl (rdm_Timpl_Stats (x := e103.Stats_) (c0 := [.slice a135 e103.Stats_.Totals_.length c136]) (c1 := [.slice a137 e103.Stats_.Cells_.length c138]) (rds_bor g133 w1 hw1) (rds_bor g134 w1 hw1)) rfl (rds_bor g125 w1 hw1) rfl rfl rfl))) tt2 <| ow_batch [.p, .p] rfl <| ow_nil <| x_qb <| x_qs <| c_reg <| ow_batch [.p, .p, .p] rfl <| ow_nil <| x_ql (RW.at (ihk1 (IntKind.i64.wrap (i59 + y141)) (IntKind.i64.wrap (i60 + 1)) (H)) (fun _ h => St.sel [0] rfl rfl h) ⟨rfl, rfl, rfl, trivial⟩)
  ·exact c_exit <| x_qs_exit <| x_ql_exit <| x_qb_here <| x_qs <| c_seq <| c_reg <| ow_batch [.p, .p] rfl <| ow_nil <| x_qs <| c_ret <| xr 2 rfl (by cases H; exact q1)
theorem spec_Fits_ok (w : World) {p0 : Timpl_Schema} {p1 : Timpl_Rule} {p2 : Timpl_Tree} {cs0 : List Value} {cs2 : List Value} {r : Bool} (H : spec_Fits p0 p1 p2 = some r)  (g0 : (eTimpl_Schema).rd w [] p0 cs0) (g2 : (eTimpl_Tree).rd w [] p2 cs2) :
    Calls Tryz.prog 230 #[.agg cs0.toArray, .agg #[.int .i64 p1.Sure_, .int .i64 p1.Tie_, .int .i64 p1.Grace_, .int .i64 p1.Depth_, .int .i64 p1.Nodes_, .int .i64 p1.Units_, .bool p1.Two_], .agg cs2.toArray] w (fun en w' => en = .returned (.bool r) ∧ Ext [] w w') := by
 obtain ⟨c10, c11, rfl, g12, g13⟩ := rdo_Timpl_Schema g0
 obtain ⟨a14, c15, rfl⟩ := rd_sl1 g12
 obtain ⟨a16, c17, rfl⟩ := rd_sl1 g13
 obtain ⟨c18, c19, rfl, g20, g21⟩ := rdo_Timpl_Tree g2
 obtain ⟨a22, c23, rfl⟩ := rd_sl1 g20
 obtain rfl : c19 = [.int .i64 p2.Seen_] := g21
 unfold spec_Fits at H
 refine f_enter (vs := [.agg #[.slice a14 p0.Attrs_.length c15, .slice a16 p0.Classes_.length c17], .agg #[.int .i64 p1.Sure_, .int .i64 p1.Tie_, .int .i64 p1.Grace_, .int .i64 p1.Depth_, .int .i64 p1.Nodes_, .int .i64 p1.Units_, .bool p1.Two_], .agg #[.slice a22 p2.Nodes_.length c23, .int .i64 p2.Seen_]]) Tryz.func230 rfl Tryz.ntmps230 rfl (St.init w []) <| c_seq <| c_reg <| ob [.slice a14 p0.Attrs_.length c15, .slice a16 p0.Classes_.length c17] rfl fun b24 => ob [.int .i64 p1.Sure_, .int .i64 p1.Tie_, .int .i64 p1.Grace_, .int .i64 p1.Depth_, .int .i64 p1.Nodes_, .int .i64 p1.Units_, .bool p1.Two_] rfl fun b25 => ob [.slice a22 p2.Nodes_.length c23, .int .i64 p2.Seen_] rfl fun b26 => ow_batch [.p] rfl <| ow_nil <| x_qs <| c_seq <| c_regQ mixed (by kernel_rfl) <| o1 rfl (rx 0 0 [.slice a14 p0.Attrs_.length c15, .slice a16 p0.Classes_.length c17] rfl ty35 rfl) <| o1 rfl (rx 0 2 [.slice a22 p2.Nodes_.length c23, .int .i64 p2.Seen_] rfl ty39 rfl) <| bE H fun y27 h28 H => oq rfl (qc rfl fn52 (fun w1 hw1 => spec_TreeOk_ok w1 (cs0 := [.slice a14 p0.Attrs_.length c15, .slice a16 p0.Classes_.length c17]) (cs1 := [.slice a22 p2.Nodes_.length c23, .int .i64 p2.Seen_]) h28 (rdm_Timpl_Schema (x := p0) (c0 := [.slice a14 p0.Attrs_.length c15]) (c1 := [.slice a16 p0.Classes_.length c17]) (rds_bor g12 w1 hw1) (rds_bor g13 w1 hw1)) (rdm_Timpl_Tree (x := p2) (c0 := [.slice a22 p2.Nodes_.length c23]) (c1 := [.int .i64 p2.Seen_]) (rds_bor g20 w1 hw1) rfl))) tt2 <| ow_batch [.p] rfl <| bE H fun u29 hu33 H => ow_cut [(13, .bool u29), (4, .pointer (some ⟨b25, 0, none⟩)), (5, .pointer (some ⟨b26, 0, none⟩)), (6, .bool false)] 3 ?_ (fun key => OW.sub (R := [(4, .pointer (some ⟨b25, 0, none⟩)), (5, .pointer (some ⟨b26, 0, none⟩)), (6, .bool false), (10, .bool y27)]) ?_ (sb rfl))
 ·refine ow_batch [.p] rfl <| ow_cut [(21, .bool (u29 && (decide ((p2.Nodes_.length : Int) ≤ p1.Nodes_)))), (4, .pointer (some ⟨b25, 0, none⟩)), (5, .pointer (some ⟨b26, 0, none⟩)), (6, .bool false)] 7 ?_ (fun key => OW.sub (R := [(4, .pointer (some ⟨b25, 0, none⟩)), (5, .pointer (some ⟨b26, 0, none⟩)), (6, .bool false), (14, .bool u29)]) ?_ (sb rfl))
  ·refine ow_batch [.p] rfl <| bE H fun u36 hu40 H => ow_cut [(28, .bool u36), (4, .pointer (some ⟨b25, 0, none⟩)), (5, .pointer (some ⟨b26, 0, none⟩)), (6, .bool false)] 6 ?_ (fun key => OW.sub (R := [(4, .pointer (some ⟨b25, 0, none⟩)), (5, .pointer (some ⟨b26, 0, none⟩)), (6, .bool false), (22, .bool (u29 && (decide ((p2.Nodes_.length : Int) ≤ p1.Nodes_))))]) ?_ (sb rfl))
   ·refine ow_batch [.p] rfl <| bE H fun u41 hu45 H => ow_cut [(35, .bool u41), (6, .bool false)] 6 ?_ (fun key => OW.sub (R := [(4, .pointer (some ⟨b25, 0, none⟩)), (5, .pointer (some ⟨b26, 0, none⟩)), (6, .bool false), (29, .bool u36)]) ?_ (sb rfl))
    ·exact ow_batch [.p] rfl <| ow_nilQ <| x_qs <| c_ret <| xr 6 rfl (by cases H; exact q1)
    ·clear H
     have H := hu45
     clear hu45
     generalize u36 = t44 at H key ⊢
     cases t44
     ·have H := of_if_f rfl H
      refine ow_batch [.p, .p, .p, .p, .p, .p] rfl ?_
      obtain rfl := of_some H
      exact OW.sub key (sb rfl)
     ·have H := of_if_t rfl H
      refine o1 rfl (rx 0 2 [.slice a22 p2.Nodes_.length c23, .int .i64 p2.Seen_] rfl ty39 rfl) <| bE H fun y42 h43 H => oq rfl (qc rfl fn251 (fun w1 hw1 => spec_TreeUnits_ok w1 (cs0 := [.slice a22 p2.Nodes_.length c23, .int .i64 p2.Seen_]) h43 (rdm_Timpl_Tree (x := p2) (c0 := [.slice a22 p2.Nodes_.length c23]) (c1 := [.int .i64 p2.Seen_]) (rds_bor g20 w1 hw1) rfl))) tt2 <| ow_batch [.fa 53 5 5 fa53_5] rfl <| o1 rfl (r1 5 1 rfl ty3 rfl) <| ow_batch [.p] rfl <| ow_batch [.p] rfl <| ?_
      obtain rfl := of_some H
      exact OW.sub key (sb rfl)
   ·clear H
    have H := hu40
    clear hu40
    generalize (u29 && (decide ((p2.Nodes_.length : Int) ≤ p1.Nodes_))) = t39 at H key ⊢
    cases t39
    ·have H := of_if_f rfl H
     refine ow_batch [.p, .p, .p, .p, .p, .p] rfl ?_
     obtain rfl := of_some H
     exact OW.sub key (sb rfl)
    ·have H := of_if_t rfl H
     refine o1 rfl (rx 0 2 [.slice a22 p2.Nodes_.length c23, .int .i64 p2.Seen_] rfl ty39 rfl) <| bE H fun y37 h38 H => oq rfl (qc rfl fn250 (fun w1 hw1 => spec_DepthOf_ok w1 (cs0 := [.slice a22 p2.Nodes_.length c23, .int .i64 p2.Seen_]) h38 (rdm_Timpl_Tree (x := p2) (c0 := [.slice a22 p2.Nodes_.length c23]) (c1 := [.int .i64 p2.Seen_]) (rds_bor g20 w1 hw1) rfl))) tt2 <| ow_batch [.fa 53 3 3 fa53_3] rfl <| o1 rfl (r1 3 1 rfl ty3 rfl) <| ow_batch [.p] rfl <| ow_batch [.p] rfl <| ?_
     obtain rfl := of_some H
     exact OW.sub key (sb rfl)
  ·generalize u29 = t35 at key ⊢
   cases t35
   ·exact ow_batch [.p, .p, .p, .p, .p, .p, .p] rfl <| OW.sub key (sb rfl)
   ·exact ow_batch [.fa 39 0 0 fa39_0] rfl <| o1 rfl (r1 0 2 rfl ty37 rfl) <| ow_batch [.lenS 37 118 sl37, .fa 53 4 4 fa53_4] rfl <| o1 rfl (r1 4 1 rfl ty3 rfl) <| ow_batch [.p] rfl <| ow_batch [.p] rfl <| OW.sub key (sb rfl)
 ·clear H
  have H := hu33
  clear hu33
  generalize y27 = t32 at H key ⊢
  cases t32
  ·have H := of_if_f rfl H
   refine ow_batch [.p, .p, .p] rfl ?_
   obtain rfl := of_some H
   exact OW.sub key (sb rfl)
  ·have H := of_if_t rfl H
   refine o1 rfl (rx 0 1 [.int .i64 p1.Sure_, .int .i64 p1.Tie_, .int .i64 p1.Grace_, .int .i64 p1.Depth_, .int .i64 p1.Nodes_, .int .i64 p1.Units_, .bool p1.Two_] rfl ty53 rfl) <| bE H fun y30 h31 H => oq rfl (qc rfl fn74 (fun w1 hw1 => spec_RuleOk_ok w1 (p0 := p1) h31)) tt2 <| ow_batch [.p] rfl <| ?_
   obtain rfl := of_some H
   exact OW.sub key (sb rfl)
theorem spec_WindowOk_ok (w : World) {p0 : Timpl_Window} {cs0 : List Value} {r : Bool} (H : spec_WindowOk p0 = some r)  (g0 : (eTimpl_Window).rd w [] p0 cs0) :
    Calls Tryz.prog 252 #[.agg cs0.toArray] w (fun en w' => en = .returned (.bool r) ∧ Ext [] w w') := by
 obtain ⟨c10, rfl, g11⟩ := rdo_Timpl_Window g0
 obtain ⟨a12, c13, rfl⟩ := rd_sl1 g11
 unfold spec_WindowOk at H
 refine f_enter (vs := [.agg #[.slice a12 p0.Rows_.length c13]]) Tryz.func252 rfl Tryz.ntmps252 rfl (St.init w []) <| c_seq <| c_reg <| ob [.slice a12 p0.Rows_.length c13] rfl fun b14 => ow_batch [.p] rfl <| ow_nil <| x_qs <| c_seq <| c_seq <| c_reg <| ow_batch [.fa 212 0 0 fa212_0] rfl <| o1 rfl (r1 0 0 rfl ty60 rfl) <| ow_batch [.lenS 60 59 sl60, .p] rfl <| ow_nil <| x_qs <| cI H rfl (fun H => ?_) (fun H => ?_)
 ·exact c_seq <| c_reg <| ow_batch [.p] rfl <| ow_nil <| x_qs <| c_ret <| x_qs_ret <| xr 2 rfl (by cases H; exact q1)
 ·refine c_skip <| x_qs <| c_seq <| c_seq <| c_reg <| ow_batch [.p] rfl <| ow_nil <| x_qs <| c_block <| CW.at (loopI1 (fun (i95 : Int) => St w [] [Res.box b14 212 [.slice a12 p0.Rows_.length c13]]) (fun (i95 : Int) => [(1, .pointer (some ⟨b14, 0, none⟩)), (3, .int .i64 i95)]) (fun kk => fun (i95 : Int) => spec_WindowOk_L1 p0 kk i95 = some r) (fun _ H => ?_) (fun k1 ihk1 i95 H => ?_) Fuel (0) (H)) (fun _ h => St.sel [0] rfl rfl h) ⟨rfl, rfl,  trivial⟩
  ·unfold spec_WindowOk_L1 at H
   exact absurd H (by simp)
  ·unfold spec_WindowOk_L1 at H
   refine c_seq <| c_seq <| c_reg <| ow_batch [.p, .fa 212 0 0 fa212_0] rfl <| o1 rfl (r1 0 0 rfl ty60 rfl) <| ow_batch [.lenS 60 59 sl60, .p] rfl <| ow_nil <| x_qs <| cI H rfl (fun H => ?_) (fun H => ?_)
   ·refine c_skip <| x_qs <| c_seq <| c_block <| c_seq <| c_seq <| c_reg <| ow_batch [.fa 212 0 0 fa212_0] rfl <| o1 rfl (r1 0 0 rfl ty60 rfl) <| ow_batch [.p] rfl <| bE H fun e176 h177 H => ow_ixB rfl rfl rfl rfl rfl sl60 ty59 rfl g11 h177 fun q180 c181 hd178 hA179 => ?_
    obtain ⟨a182, c183, rfl⟩ := rd_sl1 hd178
    refine o1 rfl (ry_load1 rfl rfl ty59 (at_bor bor hA179)) <| ow_batch [.lenS 59 3 sl59] rfl <| bE H fun y184 h185 H => oq rfl (qc rfl fn88 (fun w1 hw1 => spec_l1In_ok w1  h185)) tt2 <| ow_batch [.p] rfl <| ow_nil <| x_qs <| cI H rfl (fun H => ?_) (fun H => ?_)
    ·exact c_seq <| c_reg <| ow_batch [.p] rfl <| ow_nil <| x_qs <| c_ret <| x_qs_ret <| x_qb_ret <| x_qs_ret <| x_ql_ret <| x_qb_ret <| x_qs_ret <| xr 2 rfl (by cases H; exact q1)
    ·refine c_skip <| x_qs <| c_seq <| c_reg <| ow_batch [.p] rfl <| ow_nil <| x_qs <| c_block <| CW.at (loopI1 (fun (i209 : Int) => St w [] [Res.box b14 212 [.slice a12 p0.Rows_.length c13]]) (fun (i209 : Int) => [(1, .pointer (some ⟨b14, 0, none⟩)), (3, .int .i64 i95), (4, .int .i64 i209)]) (fun kk => fun (i209 : Int) => spec_WindowOk_L2 p0 i95 (spec_WindowOk_L1 p0 k1) kk i209 = some r) (fun _ H => ?_) (fun k2 ihk2 i209 H => ?_) Fuel (0) (H)) (fun _ h => St.sel [0] rfl rfl h) ⟨rfl, rfl, rfl,  trivial⟩
     ·unfold spec_WindowOk_L2 at H
      exact absurd H (by simp)
     ·unfold spec_WindowOk_L2 at H
      refine c_seq <| c_seq <| c_reg <| ow_batch [.p, .fa 212 0 0 fa212_0] rfl <| o1 rfl (r1 0 0 rfl ty60 rfl) <| ow_batch [.p] rfl <| bE H fun e233 h234 H => ow_ixB rfl rfl rfl rfl rfl sl60 ty59 rfl g11 h234 fun q237 c238 hd235 hA236 => ?_
      obtain ⟨a239, c240, rfl⟩ := rd_sl1 hd235
      refine o1 rfl (ry_load1 rfl rfl ty59 (at_bor bor hA236)) <| ow_batch [.lenS 59 3 sl59, .p] rfl <| ow_nil <| x_qs <| cI H rfl (fun H => ?_) (fun H => ?_)
      ·refine c_skip <| x_qs <| c_seq <| c_block <| c_seq <| c_regQ mixed (by kernel_rfl) <| ow_batch [.fa 212 0 0 fa212_0] rfl <| o1 rfl (r1 0 0 rfl ty60 rfl) <| ow_batch [.p] rfl <| bE H fun e241 h242 H => ow_ixB rfl rfl rfl rfl rfl sl60 ty59 rfl g11 h242 fun q245 c246 hd243 hA244 => ?_
       obtain ⟨a247, c248, rfl⟩ := rd_sl1 hd243
       refine o1 rfl (ry_load1 rfl rfl ty59 (at_bor bor hA244)) <| ow_batch [.p] rfl <| bE H fun e249 h250 H => ow_ixE (e := eVal (Value.int .i64) (fun _ => rfl)) (xs := e241) (j := i209) rfl rfl rfl rfl rfl sl59 ty3 rfl (fun w1 hw1 => rds_bor hd243 w1 hw1) h250 (by rw [Nat.mul_one]) <| o1 rfl (ry_load1 rfl rfl ty3 (at_elV (fun w1 hw1 => rds_bor hd243 w1 hw1) h250)) <| ow_batch [.p] rfl <| bE H fun y251 h252 H => oq rfl (qc rfl fn127 (fun w1 hw1 => spec_l16Power_ok w1  h252)) tt2 <| bE H fun y253 h254 H => oq rfl (qc rfl fn88 (fun w1 hw1 => spec_l1In_ok w1  h254)) tt2 <| ow_batch [.p] rfl <| ow_nilQ <| x_qs <| cI H rfl (fun H => ?_) (fun H => ?_)
       ·exact c_seq <| c_reg <| ow_batch [.p] rfl <| ow_nil <| x_qs <| c_ret <| x_qb_ret <| x_qs_ret <| x_ql_ret <| x_qb_ret <| x_qb_ret <| x_qs_ret <| x_ql_ret <| x_qb_ret <| x_qs_ret <| xr 2 rfl (by cases H; exact q1)
       ·exact c_skip <| x_qb <| x_qs <| c_reg <| ow_batch [.p, .p, .p] rfl <| ow_nil <| x_ql (RW.at (ihk2 (IntKind.i64.wrap (i209 + 1)) (H)) (fun _ h => St.sel [0] rfl rfl h) ⟨rfl, rfl, rfl, trivial⟩)
      ·exact c_exit <| x_qs_exit <| x_ql_exit <| x_qb_here <| x_qb <| x_qs <| c_reg <| ow_batch [.p, .p, .p] rfl <| ow_nil <| x_ql (RW.at (ihk1 (IntKind.i64.wrap (i95 + 1)) (H)) (fun _ h => St.sel [0] rfl rfl h) ⟨rfl, rfl, trivial⟩)
   ·exact c_exit <| x_qs_exit <| x_ql_exit <| x_qb_here <| x_qs <| c_seq <| c_reg <| ow_batch [.p] rfl <| ow_nil <| x_qs <| c_ret <| xr 2 rfl (by cases H; exact q1)
theorem spec_DetOk_ok (w : World) {p0 : Timpl_Det} {cs0 : List Value} {r : Bool} (H : spec_DetOk p0 = some r)  (g0 : (eTimpl_Det).rd w [] p0 cs0) :
    Calls Tryz.prog 231 #[.agg cs0.toArray] w (fun en w' => en = .returned (.bool r) ∧ Ext [] w w') := by
 obtain ⟨c10, c11, rfl, g12, g13⟩ := rdo_Timpl_Det g0
 obtain ⟨c14, rfl, g15⟩ := rdo_Timpl_Window g12
 obtain ⟨a16, c17, rfl⟩ := rd_sl1 g15
 obtain ⟨c18, rfl, g19⟩ := rdo_Timpl_Window g13
 obtain ⟨a20, c21, rfl⟩ := rd_sl1 g19
 unfold spec_DetOk at H
 refine f_enter (vs := [.agg #[.slice a16 p0.Warn_.Rows_.length c17, .slice a20 p0.Drift_.Rows_.length c21]]) Tryz.func231 rfl Tryz.ntmps231 rfl (St.init w []) <| c_seq <| c_reg <| ob [.slice a16 p0.Warn_.Rows_.length c17, .slice a20 p0.Drift_.Rows_.length c21] rfl fun b22 => ow_batch [.p] rfl <| ow_nil <| x_qs <| c_seq <| c_reg <| ow_batch [.fa 214 0 0 fa214_0] rfl <| o1 rfl (rx 0 0 [.slice a16 p0.Warn_.Rows_.length c17] rfl ty212 rfl) <| bE H fun y23 h24 H => oq rfl (qc rfl fn252 (fun w1 hw1 => spec_WindowOk_ok w1 (cs0 := [.slice a16 p0.Warn_.Rows_.length c17]) h24 (rdm_Timpl_Window (x := p0.Warn_) (c0 := [.slice a16 p0.Warn_.Rows_.length c17]) (rds_bor g15 w1 hw1)))) tt2 <| ow_batch [.p] rfl <| bE H fun u25 hu29 H => ow_cut [(10, .bool u25), (2, .bool false)] 4 ?_ (fun key => OW.sub (R := [(1, .pointer (some ⟨b22, 0, none⟩)), (2, .bool false), (6, .bool y23)]) ?_ (sb rfl))
 ·exact ow_batch [.p] rfl <| ow_nil <| x_qs <| c_ret <| xr 2 rfl (by cases H; exact q1)
 ·clear H
  have H := hu29
  clear hu29
  generalize y23 = t28 at H key ⊢
  cases t28
  ·have H := of_if_f rfl H
   refine ow_batch [.p, .p, .p, .p] rfl ?_
   obtain rfl := of_some H
   exact OW.sub key (sb rfl)
  ·have H := of_if_t rfl H
   refine ow_batch [.fa 214 1 1 fa214_1] rfl <| o1 rfl (rx 1 0 [.slice a20 p0.Drift_.Rows_.length c21] rfl ty212 rfl) <| bE H fun y26 h27 H => oq rfl (qc rfl fn252 (fun w1 hw1 => spec_WindowOk_ok w1 (cs0 := [.slice a20 p0.Drift_.Rows_.length c21]) h27 (rdm_Timpl_Window (x := p0.Drift_) (c0 := [.slice a20 p0.Drift_.Rows_.length c21]) (rds_bor g19 w1 hw1)))) tt2 <| ow_batch [.p] rfl <| ?_
   obtain rfl := of_some H
   exact OW.sub key (sb rfl)
theorem spec_MemberOk_ok (w : World) {p0 : Timpl_Conf} {p1 : Timpl_Member} {cs0 : List Value} {cs1 : List Value} {r : Bool} (H : spec_MemberOk p0 p1 = some r)  (g0 : (eTimpl_Conf).rd w [] p0 cs0) (g1 : (eTimpl_Member).rd w [] p1 cs1) :
    Calls Tryz.prog 179 #[.agg cs0.toArray, .agg cs1.toArray] w (fun en w' => en = .returned (.bool r) ∧ Ext [] w w') := by
 obtain ⟨c10, c11, c12, c13, c14, c15, c16, rfl, g17, g18, g19, g20, g21, g22, g23⟩ := rdo_Timpl_Conf g0
 obtain ⟨c24, c25, rfl, g26, g27⟩ := rdo_Timpl_Schema g17
 obtain ⟨a28, c29, rfl⟩ := rd_sl1 g26
 obtain ⟨a30, c31, rfl⟩ := rd_sl1 g27
 obtain rfl : c11 = [.int .i64 p0.Rule_.Sure_, .int .i64 p0.Rule_.Tie_, .int .i64 p0.Rule_.Grace_, .int .i64 p0.Rule_.Depth_, .int .i64 p0.Rule_.Nodes_, .int .i64 p0.Rule_.Units_, .bool p0.Rule_.Two_] := g18
 obtain rfl : c12 = [.int .i64 p0.Members_] := g19
 obtain rfl : c13 = [.int .i64 p0.Pick_] := g20
 obtain rfl : c14 = [.int .i64 p0.Lambda_] := g21
 obtain rfl : c15 = [.int .i64 p0.Warn_] := g22
 obtain rfl : c16 = [.int .i64 p0.Drift_] := g23
 obtain ⟨c32, c33, c34, c35, rfl, g36, g37, g38, g39⟩ := rdo_Timpl_Member g1
 obtain ⟨c40, c41, rfl, g42, g43⟩ := rdo_Timpl_Tree g36
 obtain ⟨a44, c45, rfl⟩ := rd_sl1 g42
 obtain rfl : c41 = [.int .i64 p1.Tree_.Seen_] := g43
 obtain rfl : c33 = [.bool p1.HasYoung_] := g37
 obtain ⟨c46, c47, rfl, g48, g49⟩ := rdo_Timpl_Tree g38
 obtain ⟨a50, c51, rfl⟩ := rd_sl1 g48
 obtain rfl : c47 = [.int .i64 p1.Young_.Seen_] := g49
 obtain ⟨c52, c53, rfl, g54, g55⟩ := rdo_Timpl_Det g39
 obtain ⟨c56, rfl, g57⟩ := rdo_Timpl_Window g54
 obtain ⟨a58, c59, rfl⟩ := rd_sl1 g57
 obtain ⟨c60, rfl, g61⟩ := rdo_Timpl_Window g55
 obtain ⟨a62, c63, rfl⟩ := rd_sl1 g61
 unfold spec_MemberOk at H
 refine f_enter (vs := [.agg #[.slice a28 p0.Schema_.Attrs_.length c29, .slice a30 p0.Schema_.Classes_.length c31, .int .i64 p0.Rule_.Sure_, .int .i64 p0.Rule_.Tie_, .int .i64 p0.Rule_.Grace_, .int .i64 p0.Rule_.Depth_, .int .i64 p0.Rule_.Nodes_, .int .i64 p0.Rule_.Units_, .bool p0.Rule_.Two_, .int .i64 p0.Members_, .int .i64 p0.Pick_, .int .i64 p0.Lambda_, .int .i64 p0.Warn_, .int .i64 p0.Drift_], .agg #[.slice a44 p1.Tree_.Nodes_.length c45, .int .i64 p1.Tree_.Seen_, .bool p1.HasYoung_, .slice a50 p1.Young_.Nodes_.length c51, .int .i64 p1.Young_.Seen_, .slice a58 p1.Det_.Warn_.Rows_.length c59, .slice a62 p1.Det_.Drift_.Rows_.length c63]]) Tryz.func179 rfl Tryz.ntmps179 rfl (St.init w []) <| c_seq <| c_reg <| ob [.slice a28 p0.Schema_.Attrs_.length c29, .slice a30 p0.Schema_.Classes_.length c31, .int .i64 p0.Rule_.Sure_, .int .i64 p0.Rule_.Tie_, .int .i64 p0.Rule_.Grace_, .int .i64 p0.Rule_.Depth_, .int .i64 p0.Rule_.Nodes_, .int .i64 p0.Rule_.Units_, .bool p0.Rule_.Two_, .int .i64 p0.Members_, .int .i64 p0.Pick_, .int .i64 p0.Lambda_, .int .i64 p0.Warn_, .int .i64 p0.Drift_] rfl fun b64 => ob [.slice a44 p1.Tree_.Nodes_.length c45, .int .i64 p1.Tree_.Seen_, .bool p1.HasYoung_, .slice a50 p1.Young_.Nodes_.length c51, .int .i64 p1.Young_.Seen_, .slice a58 p1.Det_.Warn_.Rows_.length c59, .slice a62 p1.Det_.Drift_.Rows_.length c63] rfl fun b65 => ow_batch [.p] rfl <| ow_nil <| x_qs <| c_seq <| c_seq <| c_reg <| o1 rfl (rx 0 0 [.slice a28 p0.Schema_.Attrs_.length c29, .slice a30 p0.Schema_.Classes_.length c31, .int .i64 p0.Rule_.Sure_, .int .i64 p0.Rule_.Tie_, .int .i64 p0.Rule_.Grace_, .int .i64 p0.Rule_.Depth_, .int .i64 p0.Rule_.Nodes_, .int .i64 p0.Rule_.Units_, .bool p0.Rule_.Two_, .int .i64 p0.Members_, .int .i64 p0.Pick_, .int .i64 p0.Lambda_, .int .i64 p0.Warn_, .int .i64 p0.Drift_] rfl ty73 rfl) <| bE H fun y66 h67 H => oq rfl (qc rfl fn160 (fun w1 hw1 => spec_ConfOk_ok w1 (cs0 := [.slice a28 p0.Schema_.Attrs_.length c29, .slice a30 p0.Schema_.Classes_.length c31, .int .i64 p0.Rule_.Sure_, .int .i64 p0.Rule_.Tie_, .int .i64 p0.Rule_.Grace_, .int .i64 p0.Rule_.Depth_, .int .i64 p0.Rule_.Nodes_, .int .i64 p0.Rule_.Units_, .bool p0.Rule_.Two_, .int .i64 p0.Members_, .int .i64 p0.Pick_, .int .i64 p0.Lambda_, .int .i64 p0.Warn_, .int .i64 p0.Drift_]) h67 (rdm_Timpl_Conf (x := p0) (c0 := [.slice a28 p0.Schema_.Attrs_.length c29, .slice a30 p0.Schema_.Classes_.length c31]) (c1 := [.int .i64 p0.Rule_.Sure_, .int .i64 p0.Rule_.Tie_, .int .i64 p0.Rule_.Grace_, .int .i64 p0.Rule_.Depth_, .int .i64 p0.Rule_.Nodes_, .int .i64 p0.Rule_.Units_, .bool p0.Rule_.Two_]) (c2 := [.int .i64 p0.Members_]) (c3 := [.int .i64 p0.Pick_]) (c4 := [.int .i64 p0.Lambda_]) (c5 := [.int .i64 p0.Warn_]) (c6 := [.int .i64 p0.Drift_]) (rdm_Timpl_Schema (x := p0.Schema_) (c0 := [.slice a28 p0.Schema_.Attrs_.length c29]) (c1 := [.slice a30 p0.Schema_.Classes_.length c31]) (rds_bor g26 w1 hw1) (rds_bor g27 w1 hw1)) rfl rfl rfl rfl rfl rfl))) tt2 <| ow_batch [.p, .p] rfl <| bE H fun u68 hu72 H => ow_cut [(17, .bool u68), (2, .pointer (some ⟨b64, 0, none⟩)), (3, .pointer (some ⟨b65, 0, none⟩))] 9 ?_ (fun key => OW.sub (R := [(2, .pointer (some ⟨b64, 0, none⟩)), (3, .pointer (some ⟨b65, 0, none⟩)), (8, .bool (!y66))]) ?_ (sb rfl))
 ·refine ow_batch [.p] rfl <| bE H fun u73 hu77 H => ow_cut [(23, .bool u73), (2, .pointer (some ⟨b64, 0, none⟩)), (3, .pointer (some ⟨b65, 0, none⟩))] 5 ?_ (fun key => OW.sub (R := [(2, .pointer (some ⟨b64, 0, none⟩)), (3, .pointer (some ⟨b65, 0, none⟩)), (18, .bool u68)]) ?_ (sb rfl))
  ·refine ow_nil <| x_qs <| cI H rfl (fun H => ?_) (fun H => ?_)
   ·exact c_seq <| c_reg <| ow_batch [.p] rfl <| ow_nil <| x_qs <| c_ret <| x_qs_ret <| xr 4 rfl (by cases H; exact q1)
   ·refine c_skip <| x_qs <| c_seq <| c_seq <| c_reg <| ow_batch [.fa 216 1 2 fa216_1] rfl <| o1 rfl (r1 2 1 rfl ty4 rfl) <| ow_nil <| x_qs <| cI H rfl (fun H => ?_) (fun H => ?_)
    ·exact c_seq <| c_reg <| ow_batch [.fa 73 0 0 fa73_0] rfl <| o1 rfl (rx 0 0 [.slice a28 p0.Schema_.Attrs_.length c29, .slice a30 p0.Schema_.Classes_.length c31] rfl ty35 rfl) <| ow_batch [.fa 73 1 2 fa73_1] rfl <| o1 rfl (rx 2 0 [.int .i64 p0.Rule_.Sure_, .int .i64 p0.Rule_.Tie_, .int .i64 p0.Rule_.Grace_, .int .i64 p0.Rule_.Depth_, .int .i64 p0.Rule_.Nodes_, .int .i64 p0.Rule_.Units_, .bool p0.Rule_.Two_] rfl ty53 rfl) <| ow_batch [.fa 216 2 3 fa216_2] rfl <| o1 rfl (rx 3 1 [.slice a50 p1.Young_.Nodes_.length c51, .int .i64 p1.Young_.Seen_] rfl ty39 rfl) <| bE H fun y78 h79 H => oq rfl (qc rfl fn230 (fun w1 hw1 => spec_Fits_ok w1 (p1 := p0.Rule_) (cs0 := [.slice a28 p0.Schema_.Attrs_.length c29, .slice a30 p0.Schema_.Classes_.length c31]) (cs2 := [.slice a50 p1.Young_.Nodes_.length c51, .int .i64 p1.Young_.Seen_]) h79 (rdm_Timpl_Schema (x := p0.Schema_) (c0 := [.slice a28 p0.Schema_.Attrs_.length c29]) (c1 := [.slice a30 p0.Schema_.Classes_.length c31]) (rds_bor g26 w1 hw1) (rds_bor g27 w1 hw1)) (rdm_Timpl_Tree (x := p1.Young_) (c0 := [.slice a50 p1.Young_.Nodes_.length c51]) (c1 := [.int .i64 p1.Young_.Seen_]) (rds_bor g48 w1 hw1) rfl))) tt2 <| ow_batch [.p] rfl <| ow_nil <| x_qs <| c_ret <| x_qs_ret <| xr 4 rfl (by cases H; exact q1)
    ·refine c_skip <| x_qs <| c_seq <| c_reg <| ow_batch [.fa 216 2 3 fa216_2, .fa 39 0 0 fa39_0] rfl <| o1 rfl (r1 3 1 rfl ty37 rfl) <| ow_batch [.lenS 37 118 sl37, .p, .p] rfl <| ow_cut [(43, .bool (((p1.Young_.Nodes_.length : Int) == 0) && (p1.Young_.Seen_ == 0)))] 5 ?_ (fun key => OW.sub (R := [(3, .pointer (some ⟨b65, 0, none⟩)), (38, .bool ((p1.Young_.Nodes_.length : Int) == 0))]) ?_ (sb rfl))
     ·exact ow_batch [.p] rfl <| ow_nil <| x_qs <| c_ret <| xr 4 rfl (by cases H; exact q1)
     ·generalize ((p1.Young_.Nodes_.length : Int) == 0) = t81 at key ⊢
      cases t81
      ·exact ow_batch [.p, .p, .p, .p, .p] rfl <| OW.sub key ⟨rfl, trivial⟩
      ·exact ow_batch [.fa 216 2 3 fa216_2, .fa 39 1 1 fa39_1] rfl <| o1 rfl (r1 4 1 rfl ty3 rfl) <| ow_batch [.p] rfl <| ow_batch [.p] rfl <| OW.sub key ⟨rfl, trivial⟩
  ·clear H
   have H := hu77
   clear hu77
   generalize u68 = t76 at H key ⊢
   cases t76
   ·have H := of_if_f rfl H
    refine ow_batch [.fa 216 3 5 fa216_3] rfl <| o1 rfl (rx 5 1 [.slice a58 p1.Det_.Warn_.Rows_.length c59, .slice a62 p1.Det_.Drift_.Rows_.length c63] rfl ty214 rfl) <| bE H fun y74 h75 H => oq rfl (qc rfl fn231 (fun w1 hw1 => spec_DetOk_ok w1 (cs0 := [.slice a58 p1.Det_.Warn_.Rows_.length c59, .slice a62 p1.Det_.Drift_.Rows_.length c63]) h75 (rdm_Timpl_Det (x := p1.Det_) (c0 := [.slice a58 p1.Det_.Warn_.Rows_.length c59]) (c1 := [.slice a62 p1.Det_.Drift_.Rows_.length c63]) (rdm_Timpl_Window (x := p1.Det_.Warn_) (c0 := [.slice a58 p1.Det_.Warn_.Rows_.length c59]) (rds_bor g57 w1 hw1)) (rdm_Timpl_Window (x := p1.Det_.Drift_) (c0 := [.slice a62 p1.Det_.Drift_.Rows_.length c63]) (rds_bor g61 w1 hw1))))) tt2 <| ow_batch [.p] rfl <| ow_batch [.p] rfl <| ?_
    obtain rfl := of_some H
    exact OW.sub key (sb rfl)
   ·have H := of_if_t rfl H
    refine ow_batch [.p, .p, .p, .p, .p] rfl ?_
    obtain rfl := of_some H
    exact OW.sub key (sb rfl)
 ·clear H
  have H := hu72
  clear hu72
  generalize (!y66) = t71 at H key ⊢
  cases t71
  ·have H := of_if_f rfl H
   refine ow_batch [.fa 73 0 0 fa73_0] rfl <| o1 rfl (rx 0 0 [.slice a28 p0.Schema_.Attrs_.length c29, .slice a30 p0.Schema_.Classes_.length c31] rfl ty35 rfl) <| ow_batch [.fa 73 1 2 fa73_1] rfl <| o1 rfl (rx 2 0 [.int .i64 p0.Rule_.Sure_, .int .i64 p0.Rule_.Tie_, .int .i64 p0.Rule_.Grace_, .int .i64 p0.Rule_.Depth_, .int .i64 p0.Rule_.Nodes_, .int .i64 p0.Rule_.Units_, .bool p0.Rule_.Two_] rfl ty53 rfl) <| ow_batch [.fa 216 0 0 fa216_0] rfl <| o1 rfl (rx 0 1 [.slice a44 p1.Tree_.Nodes_.length c45, .int .i64 p1.Tree_.Seen_] rfl ty39 rfl) <| bE H fun y69 h70 H => oq rfl (qc rfl fn230 (fun w1 hw1 => spec_Fits_ok w1 (p1 := p0.Rule_) (cs0 := [.slice a28 p0.Schema_.Attrs_.length c29, .slice a30 p0.Schema_.Classes_.length c31]) (cs2 := [.slice a44 p1.Tree_.Nodes_.length c45, .int .i64 p1.Tree_.Seen_]) h70 (rdm_Timpl_Schema (x := p0.Schema_) (c0 := [.slice a28 p0.Schema_.Attrs_.length c29]) (c1 := [.slice a30 p0.Schema_.Classes_.length c31]) (rds_bor g26 w1 hw1) (rds_bor g27 w1 hw1)) (rdm_Timpl_Tree (x := p1.Tree_) (c0 := [.slice a44 p1.Tree_.Nodes_.length c45]) (c1 := [.int .i64 p1.Tree_.Seen_]) (rds_bor g42 w1 hw1) rfl))) tt2 <| ow_batch [.p] rfl <| ow_batch [.p] rfl <| ?_
   obtain rfl := of_some H
   exact OW.sub key (sb rfl)
  ·have H := of_if_t rfl H
   refine ow_batch [.p, .p, .p, .p, .p, .p, .p, .p, .p] rfl ?_
   obtain rfl := of_some H
   exact OW.sub key (sb rfl)
theorem spec_ForestOk_ok (w : World) {p0 : Timpl_Conf} {p1 : Timpl_Forest} {cs0 : List Value} {cs1 : List Value} {r : Bool} (H : spec_ForestOk p0 p1 = some r)  (g0 : (eTimpl_Conf).rd w [] p0 cs0) (g1 : (eTimpl_Forest).rd w [] p1 cs1) :
    Calls Tryz.prog 114 #[.agg cs0.toArray, .agg cs1.toArray] w (fun en w' => en = .returned (.bool r) ∧ Ext [] w w') := by
 obtain ⟨c10, c11, c12, c13, c14, c15, c16, rfl, g17, g18, g19, g20, g21, g22, g23⟩ := rdo_Timpl_Conf g0
 obtain ⟨c24, c25, rfl, g26, g27⟩ := rdo_Timpl_Schema g17
 obtain ⟨a28, c29, rfl⟩ := rd_sl1 g26
 obtain ⟨a30, c31, rfl⟩ := rd_sl1 g27
 obtain rfl : c11 = [.int .i64 p0.Rule_.Sure_, .int .i64 p0.Rule_.Tie_, .int .i64 p0.Rule_.Grace_, .int .i64 p0.Rule_.Depth_, .int .i64 p0.Rule_.Nodes_, .int .i64 p0.Rule_.Units_, .bool p0.Rule_.Two_] := g18
 obtain rfl : c12 = [.int .i64 p0.Members_] := g19
 obtain rfl : c13 = [.int .i64 p0.Pick_] := g20
 obtain rfl : c14 = [.int .i64 p0.Lambda_] := g21
 obtain rfl : c15 = [.int .i64 p0.Warn_] := g22
 obtain rfl : c16 = [.int .i64 p0.Drift_] := g23
 obtain ⟨c32, rfl, g33⟩ := rdo_Timpl_Forest g1
 obtain ⟨a34, c35, rfl⟩ := rd_sl1 g33
 unfold spec_ForestOk at H
 refine f_enter (vs := [.agg #[.slice a28 p0.Schema_.Attrs_.length c29, .slice a30 p0.Schema_.Classes_.length c31, .int .i64 p0.Rule_.Sure_, .int .i64 p0.Rule_.Tie_, .int .i64 p0.Rule_.Grace_, .int .i64 p0.Rule_.Depth_, .int .i64 p0.Rule_.Nodes_, .int .i64 p0.Rule_.Units_, .bool p0.Rule_.Two_, .int .i64 p0.Members_, .int .i64 p0.Pick_, .int .i64 p0.Lambda_, .int .i64 p0.Warn_, .int .i64 p0.Drift_], .agg #[.slice a34 p1.Members_.length c35]]) Tryz.func114 rfl Tryz.ntmps114 rfl (St.init w []) <| c_seq <| c_reg <| ob [.slice a28 p0.Schema_.Attrs_.length c29, .slice a30 p0.Schema_.Classes_.length c31, .int .i64 p0.Rule_.Sure_, .int .i64 p0.Rule_.Tie_, .int .i64 p0.Rule_.Grace_, .int .i64 p0.Rule_.Depth_, .int .i64 p0.Rule_.Nodes_, .int .i64 p0.Rule_.Units_, .bool p0.Rule_.Two_, .int .i64 p0.Members_, .int .i64 p0.Pick_, .int .i64 p0.Lambda_, .int .i64 p0.Warn_, .int .i64 p0.Drift_] rfl fun b36 => ob [.slice a34 p1.Members_.length c35] rfl fun b37 => ow_batch [.p] rfl <| ow_nil <| x_qs <| c_seq <| c_seq <| c_reg <| o1 rfl (rx 0 0 [.slice a28 p0.Schema_.Attrs_.length c29, .slice a30 p0.Schema_.Classes_.length c31, .int .i64 p0.Rule_.Sure_, .int .i64 p0.Rule_.Tie_, .int .i64 p0.Rule_.Grace_, .int .i64 p0.Rule_.Depth_, .int .i64 p0.Rule_.Nodes_, .int .i64 p0.Rule_.Units_, .bool p0.Rule_.Two_, .int .i64 p0.Members_, .int .i64 p0.Pick_, .int .i64 p0.Lambda_, .int .i64 p0.Warn_, .int .i64 p0.Drift_] rfl ty73 rfl) <| bE H fun y38 h39 H => oq rfl (qc rfl fn160 (fun w1 hw1 => spec_ConfOk_ok w1 (cs0 := [.slice a28 p0.Schema_.Attrs_.length c29, .slice a30 p0.Schema_.Classes_.length c31, .int .i64 p0.Rule_.Sure_, .int .i64 p0.Rule_.Tie_, .int .i64 p0.Rule_.Grace_, .int .i64 p0.Rule_.Depth_, .int .i64 p0.Rule_.Nodes_, .int .i64 p0.Rule_.Units_, .bool p0.Rule_.Two_, .int .i64 p0.Members_, .int .i64 p0.Pick_, .int .i64 p0.Lambda_, .int .i64 p0.Warn_, .int .i64 p0.Drift_]) h39 (rdm_Timpl_Conf (x := p0) (c0 := [.slice a28 p0.Schema_.Attrs_.length c29, .slice a30 p0.Schema_.Classes_.length c31]) (c1 := [.int .i64 p0.Rule_.Sure_, .int .i64 p0.Rule_.Tie_, .int .i64 p0.Rule_.Grace_, .int .i64 p0.Rule_.Depth_, .int .i64 p0.Rule_.Nodes_, .int .i64 p0.Rule_.Units_, .bool p0.Rule_.Two_]) (c2 := [.int .i64 p0.Members_]) (c3 := [.int .i64 p0.Pick_]) (c4 := [.int .i64 p0.Lambda_]) (c5 := [.int .i64 p0.Warn_]) (c6 := [.int .i64 p0.Drift_]) (rdm_Timpl_Schema (x := p0.Schema_) (c0 := [.slice a28 p0.Schema_.Attrs_.length c29]) (c1 := [.slice a30 p0.Schema_.Classes_.length c31]) (rds_bor g26 w1 hw1) (rds_bor g27 w1 hw1)) rfl rfl rfl rfl rfl rfl))) tt2 <| ow_batch [.p, .p] rfl <| ow_cut [(16, .bool ((!y38) || ((p1.Members_.length : Int) != p0.Members_))), (2, .pointer (some ⟨b36, 0, none⟩)), (3, .pointer (some ⟨b37, 0, none⟩))] 7 ?_ (fun key => OW.sub (R := [(2, .pointer (some ⟨b36, 0, none⟩)), (3, .pointer (some ⟨b37, 0, none⟩)), (9, .bool (!y38))]) ?_ (sb rfl))
 ·refine ow_nil <| x_qs <| cI H rfl (fun H => ?_) (fun H => ?_)
  ·exact c_seq <| c_reg <| ow_batch [.p] rfl <| ow_nil <| x_qs <| c_ret <| x_qs_ret <| xr 4 rfl (by cases H; exact q1)
  ·refine c_skip <| x_qs <| c_seq <| c_seq <| c_reg <| ow_batch [.p] rfl <| ow_nil <| x_qs <| c_block <| CW.at (loopI1 (fun (i83 : Int) => St w [] [Res.box b36 73 [.slice a28 p0.Schema_.Attrs_.length c29, .slice a30 p0.Schema_.Classes_.length c31, .int .i64 p0.Rule_.Sure_, .int .i64 p0.Rule_.Tie_, .int .i64 p0.Rule_.Grace_, .int .i64 p0.Rule_.Depth_, .int .i64 p0.Rule_.Nodes_, .int .i64 p0.Rule_.Units_, .bool p0.Rule_.Two_, .int .i64 p0.Members_, .int .i64 p0.Pick_, .int .i64 p0.Lambda_, .int .i64 p0.Warn_, .int .i64 p0.Drift_], Res.box b37 76 [.slice a34 p1.Members_.length c35]]) (fun (i83 : Int) => [(2, .pointer (some ⟨b36, 0, none⟩)), (3, .pointer (some ⟨b37, 0, none⟩)), (5, .int .i64 i83)]) (fun kk => fun (i83 : Int) => spec_ForestOk_L1 p1 p0 kk i83 = some r) (fun _ H => ?_) (fun k1 ihk1 i83 H => ?_) Fuel (0) (H)) (fun _ h => St.sel [0, 1] rfl rfl h) ⟨rfl, rfl, rfl,  trivial⟩
   ·unfold spec_ForestOk_L1 at H
    exact absurd H (by simp)
   ·unfold spec_ForestOk_L1 at H
    refine c_seq <| c_seq <| c_reg <| ow_batch [.p, .fa 76 0 0 fa76_0] rfl <| o1 rfl (r1 0 1 rfl ty74 rfl) <| ow_batch [.lenS 74 216 sl74, .p] rfl <| ow_nil <| x_qs <| cI H rfl (fun H => ?_) (fun H => ?_)
    ·refine c_skip <| x_qs <| c_seq <| c_block <| c_seq <| c_regQ mixed (by kernel_rfl) <| o1 rfl (rx 0 0 [.slice a28 p0.Schema_.Attrs_.length c29, .slice a30 p0.Schema_.Classes_.length c31, .int .i64 p0.Rule_.Sure_, .int .i64 p0.Rule_.Tie_, .int .i64 p0.Rule_.Grace_, .int .i64 p0.Rule_.Depth_, .int .i64 p0.Rule_.Nodes_, .int .i64 p0.Rule_.Units_, .bool p0.Rule_.Two_, .int .i64 p0.Members_, .int .i64 p0.Pick_, .int .i64 p0.Lambda_, .int .i64 p0.Warn_, .int .i64 p0.Drift_] rfl ty73 rfl) <| ow_batch [.fa 76 0 0 fa76_0] rfl <| o1 rfl (r1 0 1 rfl ty74 rfl) <| ow_batch [.p] rfl <| bE H fun e125 h126 H => ow_ixB rfl rfl rfl rfl rfl sl74 ty216 rfl g33 h126 fun q129 c130 hd127 hA128 => ?_
     obtain ⟨c131, c132, c133, c134, rfl, g135, g136, g137, g138⟩ := rdo_Timpl_Member hd127
     obtain ⟨c139, c140, rfl, g141, g142⟩ := rdo_Timpl_Tree g135
     obtain ⟨a143, c144, rfl⟩ := rd_sl1 g141
     obtain rfl : c140 = [.int .i64 e125.Tree_.Seen_] := g142
     obtain rfl : c132 = [.bool e125.HasYoung_] := g136
     obtain ⟨c145, c146, rfl, g147, g148⟩ := rdo_Timpl_Tree g137
     obtain ⟨a149, c150, rfl⟩ := rd_sl1 g147
     obtain rfl : c146 = [.int .i64 e125.Young_.Seen_] := g148
     obtain ⟨c151, c152, rfl, g153, g154⟩ := rdo_Timpl_Det g138
     obtain ⟨c155, rfl, g156⟩ := rdo_Timpl_Window g153
     obtain ⟨a157, c158, rfl⟩ := rd_sl1 g156
     obtain ⟨c159, rfl, g160⟩ := rdo_Timpl_Window g154
     obtain ⟨a161, c162, rfl⟩ := rd_sl1 g160
     refine o1 rfl (ry_load (cs := [.slice a143 e125.Tree_.Nodes_.length c144, .int .i64 e125.Tree_.Seen_, .bool e125.HasYoung_, .slice a149 e125.Young_.Nodes_.length c150, .int .i64 e125.Young_.Seen_, .slice a157 e125.Det_.Warn_.Rows_.length c158, .slice a161 e125.Det_.Drift_.Rows_.length c162]) rfl rfl ty216 (at_bor bor hA128) rfl) <| bE H fun y163 h164 H => oq rfl (qc rfl fn179 (fun w1 hw1 => spec_MemberOk_ok w1 (cs0 := [.slice a28 p0.Schema_.Attrs_.length c29, .slice a30 p0.Schema_.Classes_.length c31, .int .i64 p0.Rule_.Sure_, .int .i64 p0.Rule_.Tie_, .int .i64 p0.Rule_.Grace_, .int .i64 p0.Rule_.Depth_, .int .i64 p0.Rule_.Nodes_, .int .i64 p0.Rule_.Units_, .bool p0.Rule_.Two_, .int .i64 p0.Members_, .int .i64 p0.Pick_, .int .i64 p0.Lambda_, .int .i64 p0.Warn_, .int .i64 p0.Drift_]) (cs1 := [.slice a143 e125.Tree_.Nodes_.length c144, .int .i64 e125.Tree_.Seen_, .bool e125.HasYoung_, .slice a149 e125.Young_.Nodes_.length c150, .int .i64 e125.Young_.Seen_, .slice a157 e125.Det_.Warn_.Rows_.length c158, .slice a161 e125.Det_.Drift_.Rows_.length c162]) h164 (rdm_Timpl_Conf (x := p0) (c0 := [.slice a28 p0.Schema_.Attrs_.length c29, .slice a30 p0.Schema_.Classes_.length c31]) (c1 := [.int .i64 p0.Rule_.Sure_, .int .i64 p0.Rule_.Tie_, .int .i64 p0.Rule_.Grace_, .int .i64 p0.Rule_.Depth_, .int .i64 p0.Rule_.Nodes_, .int .i64 p0.Rule_.Units_, .bool p0.Rule_.Two_]) (c2 := [.int .i64 p0.Members_]) (c3 := [.int .i64 p0.Pick_]) (c4 := [.int .i64 p0.Lambda_]) (c5 := [.int .i64 p0.Warn_]) (c6 := [.int .i64 p0.Drift_]) (rdm_Timpl_Schema (x := p0.Schema_) (c0 := [.slice a28 p0.Schema_.Attrs_.length c29]) (c1 := [.slice a30 p0.Schema_.Classes_.length c31]) (rds_bor g26 w1 hw1) (rds_bor g27 w1 hw1)) rfl rfl rfl rfl rfl rfl) (rdm_Timpl_Member (x := e125) (c0 := [.slice a143 e125.Tree_.Nodes_.length c144, .int .i64 e125.Tree_.Seen_]) (c1 := [.bool e125.HasYoung_]) (c2 := [.slice a149 e125.Young_.Nodes_.length c150, .int .i64 e125.Young_.Seen_]) (c3 := [.slice a157 e125.Det_.Warn_.Rows_.length c158, .slice a161 e125.Det_.Drift_.Rows_.length c162]) (rdm_Timpl_Tree (x := e125.Tree_) (c0 := [.slice a143 e125.Tree_.Nodes_.length c144]) (c1 := [.int .i64 e125.Tree_.Seen_]) (rds_bor g141 w1 hw1) rfl) rfl (rdm_Timpl_Tree (x := e125.Young_) (c0 := [.slice a149 e125.Young_.Nodes_.length c150]) (c1 := [.int .i64 e125.Young_.Seen_]) (rds_bor g147 w1 hw1) rfl) (rdm_Timpl_Det (x := e125.Det_) (c0 := [.slice a157 e125.Det_.Warn_.Rows_.length c158]) (c1 := [.slice a161 e125.Det_.Drift_.Rows_.length c162]) (rdm_Timpl_Window (x := e125.Det_.Warn_) (c0 := [.slice a157 e125.Det_.Warn_.Rows_.length c158]) (rds_bor g156 w1 hw1)) (rdm_Timpl_Window (x := e125.Det_.Drift_) (c0 := [.slice a161 e125.Det_.Drift_.Rows_.length c162]) (rds_bor g160 w1 hw1)))))) tt2 <| ow_batch [.p] rfl <| ow_nilQ <| x_qs <| cI H rfl (fun H => ?_) (fun H => ?_)
     ·exact c_seq <| c_reg <| ow_batch [.p] rfl <| ow_nil <| x_qs <| c_ret <| x_qb_ret <| x_qs_ret <| x_ql_ret <| x_qb_ret <| x_qs_ret <| xr 4 rfl (by cases H; exact q1)
     ·exact c_skip <| x_qb <| x_qs <| c_reg <| ow_batch [.p, .p, .p] rfl <| ow_nil <| x_ql (RW.at (ihk1 (IntKind.i64.wrap (i83 + 1)) (H)) (fun _ h => St.sel [0, 1] rfl rfl h) ⟨rfl, rfl, rfl, trivial⟩)
    ·exact c_exit <| x_qs_exit <| x_ql_exit <| x_qb_here <| x_qs <| c_seq <| c_reg <| ow_batch [.p] rfl <| ow_nil <| x_qs <| c_ret <| xr 4 rfl (by cases H; exact q1)
 ·generalize (!y38) = t41 at key ⊢
  cases t41
  ·exact ow_batch [.fa 76 0 0 fa76_0] rfl <| o1 rfl (r1 0 1 rfl ty74 rfl) <| ow_batch [.lenS 74 216 sl74, .fa 73 2 9 fa73_2] rfl <| o1 rfl (r1 9 0 rfl ty3 rfl) <| ow_batch [.p] rfl <| ow_batch [.p] rfl <| OW.sub key (sb rfl)
  ·exact ow_batch [.p, .p, .p, .p, .p, .p, .p] rfl <| OW.sub key (sb rfl)
theorem spec_l25Pairs_ok (w : World) {p0 : List Timpl_Pair} {p1 : Int} {p2 : Int} {a_0 : Option Addr} {n_0 c_0 : Nat} {r : Int} (H : spec_l25Pairs p0 p1 p2 = some r)  (g0 : (eList (eTimpl_Pair) 231).rd w [] p0 [.slice a_0 n_0 c_0]) :
    Calls Tryz.prog 180 #[.slice a_0 n_0 c_0, .int .i64 p1, .int .i64 p2] w (fun en w' => en = .returned (.int .i64 r) ∧ Ext [] w w') := by
 obtain rfl := rd_n g0
 unfold spec_l25Pairs at H
 refine f_enter (vs := [.slice a_0 p0.length c_0, .int .i64 p1, .int .i64 p2]) Tryz.func180 rfl Tryz.ntmps180 rfl (St.init w []) <| c_seq <| c_reg <| ow_batch [.p] rfl <| ow_nil <| x_qs <| c_seq <| c_reg <| ow_batch [.p] rfl <| ow_nil <| x_qs <| c_seq <| c_seq <| c_reg <| ow_batch [.p] rfl <| ow_nil <| x_qs <| c_block <| CW.at (loopI2 (fun (i19 : Int) (i20 : Int) => St w [] []) (fun (i19 : Int) (i20 : Int) => [(0, .slice a_0 p0.length c_0), (1, .int .i64 p1), (2, .int .i64 p2), (7, .int .i64 i19), (8, .int .i64 i20)]) (fun kk => fun (i19 : Int) (i20 : Int) => spec_l25Pairs_L1 p0 p1 p2 kk i19 i20 = some r) (fun _ _ H => ?_) (fun k1 ihk1 i19 i20 H => ?_) Fuel (0) (0) (H)) (fun _ h => St.sel [] rfl rfl h) ⟨rfl, rfl, rfl, rfl, rfl,  trivial⟩
 ·unfold spec_l25Pairs_L1 at H
  exact absurd H (by simp)
 ·unfold spec_l25Pairs_L1 at H
  refine c_seq <| c_seq <| c_reg <| ow_batch [.p, .p, .lenS 77 231 sl77, .p] rfl <| ow_nil <| x_qs <| cI H rfl (fun H => ?_) (fun H => ?_)
  ·refine c_skip <| x_qs <| c_seq <| c_block <| c_seq <| c_reg <| ow_batch [.p, .p] rfl <| bE H fun e30 h31 H => ow_ixE (e := eTimpl_Pair) (xs := p0) (j := i20) rfl rfl rfl rfl rfl sl77 ty231 rfl (fun w1 hw1 => rds_bor g0 w1 hw1) h31 rfl <| ow_batch [.fa 231 0 0 fa231_0] rfl <| o1 rfl (ry_load1 rfl rfl ty3 (at_KA (at_castA (at_eltE (fun w1 hw1 => rds_bor g0 w1 hw1) h31 (fun _ _ h => h)) rfl) 0 1)) <| ow_batch [.p, .p, .p] rfl <| bE H fun u33 hu37 H => ow_cut [(30, .bool u33), (0, .slice a_0 p0.length c_0), (1, .int .i64 p1), (2, .int .i64 p2), (7, .int .i64 i19), (8, .int .i64 i20)] 8 ?_ (fun key => OW.sub (R := [(0, .slice a_0 p0.length c_0), (1, .int .i64 p1), (2, .int .i64 p2), (7, .int .i64 i19), (8, .int .i64 i20), (22, .bool (e30.Truth_ == p1))]) ?_ (sb rfl))
   ·refine ow_nil <| x_qs <| cI H rfl (fun H => ?_) (fun H => ?_)
    ·exact c_reg <| ow_batch [.p, .p, .p] rfl <| ow_nil <| x_qb <| x_qs <| c_reg <| ow_batch [.p, .p, .p] rfl <| ow_nil <| x_ql (RW.at (ihk1 (IntKind.i64.wrap (i19 + 1)) (IntKind.i64.wrap (i20 + 1)) (H)) (fun _ h => St.sel [] rfl rfl h) ⟨rfl, rfl, rfl, rfl, rfl, trivial⟩)
    ·exact c_skip <| x_qb <| x_qs <| c_reg <| ow_batch [.p, .p, .p] rfl <| ow_nil <| x_ql (RW.at (ihk1 (i19) (IntKind.i64.wrap (i20 + 1)) (H)) (fun _ h => St.sel [] rfl rfl h) ⟨rfl, rfl, rfl, rfl, rfl, trivial⟩)
   ·clear H
    have H := hu37
    clear hu37
    generalize (e30.Truth_ == p1) = t36 at H key ⊢
    cases t36
    ·have H := of_if_f rfl H
     refine ow_batch [.p, .p, .p, .p, .p, .p, .p, .p] rfl ?_
     obtain rfl := of_some H
     exact OW.sub key (sb rfl)
    ·have H := of_if_t rfl H
     refine ow_batch [.p, .p] rfl <| bE H fun e34 h35 H => ow_ixE (e := eTimpl_Pair) (xs := p0) (j := i20) rfl rfl rfl rfl rfl sl77 ty231 rfl (fun w1 hw1 => rds_bor g0 w1 hw1) h35 rfl <| ow_batch [.fa 231 1 1 fa231_1] rfl <| o1 rfl (ry_load1 rfl rfl ty3 (at_KA (at_castA (at_eltE (fun w1 hw1 => rds_bor g0 w1 hw1) h35 (fun _ _ h => h)) rfl) 1 1)) <| ow_batch [.p, .p] rfl <| ow_batch [.p] rfl <| ?_
     obtain rfl := of_some H
     exact OW.sub key (sb rfl)
  ·exact c_exit <| x_qs_exit <| x_ql_exit <| x_qb_here <| x_qs <| c_seq <| c_reg <| ow_batch [.p, .p] rfl <| ow_nil <| x_qs <| c_ret <| xr 6 rfl (by cases H; exact q1)
theorem spec_ScoreOk_ok (w : World) {p0 : Int} {p1 : Timpl_Score} {cs1 : List Value} {r : Bool} (H : spec_ScoreOk p0 p1 = some r)  (g1 : (eTimpl_Score).rd w [] p1 cs1) :
    Calls Tryz.prog 115 #[.int .i64 p0, .agg cs1.toArray] w (fun en w' => en = .returned (.bool r) ∧ Ext [] w w') := by
 obtain ⟨c10, c11, rfl, g12, g13⟩ := rdo_Timpl_Score g1
 obtain ⟨a14, c15, rfl⟩ := rd_sl1 g12
 obtain ⟨a16, c17, rfl⟩ := rd_sl1 g13
 unfold spec_ScoreOk at H
 refine f_enter (vs := [.int .i64 p0, .agg #[.slice a14 p1.Table_.length c15, .slice a16 p1.Last_.length c17]]) Tryz.func115 rfl Tryz.ntmps115 rfl (St.init w []) <| c_seq <| c_reg <| ob [.slice a14 p1.Table_.length c15, .slice a16 p1.Last_.length c17] rfl fun b18 => ow_batch [.p] rfl <| ow_nil <| x_qs <| c_seq <| c_seq <| c_reg <| ow_batch [.p] rfl <| bE H fun y19 h20 H => oq rfl (qc rfl fn88 (fun w1 hw1 => spec_l1In_ok w1  h20)) tt2 <| ow_batch [.p, .p] rfl <| ow_cut [(18, .bool ((!y19) || ((p1.Table_.length : Int) != p0))), (0, .int .i64 p0), (3, .pointer (some ⟨b18, 0, none⟩))] 6 ?_ (fun key => OW.sub (R := [(0, .int .i64 p0), (3, .pointer (some ⟨b18, 0, none⟩)), (12, .bool (!y19))]) ?_ (sb rfl))
 ·refine ow_nil <| x_qs <| cI H rfl (fun H => ?_) (fun H => ?_)
  ·exact c_seq <| c_reg <| ow_batch [.p] rfl <| ow_nil <| x_qs <| c_ret <| x_qs_ret <| xr 4 rfl (by cases H; exact q1)
  ·refine c_skip <| x_qs <| c_seq <| c_reg <| ow_batch [.p] rfl <| ow_nil <| x_qs <| c_seq <| c_seq <| c_reg <| ow_batch [.p] rfl <| ow_nil <| x_qs <| c_block <| CW.at (loopI2 (fun (i150 : Int) (i151 : Int) => St w [] [Res.box b18 79 [.slice a14 p1.Table_.length c15, .slice a16 p1.Last_.length c17]]) (fun (i150 : Int) (i151 : Int) => [(0, .int .i64 p0), (3, .pointer (some ⟨b18, 0, none⟩)), (5, .int .i64 i150), (6, .int .i64 i151)]) (fun kk => fun (i150 : Int) (i151 : Int) => spec_ScoreOk_L1 p0 p1 kk i150 i151 = some r) (fun _ _ H => ?_) (fun k1 ihk1 i150 i151 H => ?_) Fuel (0) (0) (H)) (fun _ h => St.sel [0] rfl rfl h) ⟨rfl, rfl, rfl, rfl,  trivial⟩
   ·unfold spec_ScoreOk_L1 at H
    exact absurd H (by simp)
   ·unfold spec_ScoreOk_L1 at H
    refine c_seq <| c_seq <| c_reg <| ow_batch [.p, .p, .p] rfl <| ow_nil <| x_qs <| cI H rfl (fun H => ?_) (fun H => ?_)
    ·refine c_skip <| x_qs <| c_seq <| c_block <| c_seq <| c_seq <| c_reg <| ow_batch [.fa 79 0 0 fa79_0] rfl <| o1 rfl (r1 0 0 rfl ty60 rfl) <| ow_batch [.p] rfl <| bE H fun e279 h280 H => ow_ixB rfl rfl rfl rfl rfl sl60 ty59 rfl g12 h280 fun q283 c284 hd281 hA282 => ?_
     obtain ⟨a285, c286, rfl⟩ := rd_sl1 hd281
     refine o1 rfl (ry_load1 rfl rfl ty59 (at_bor bor hA282)) <| ow_batch [.lenS 59 3 sl59, .p, .p] rfl <| ow_nil <| x_qs <| cI H rfl (fun H => ?_) (fun H => ?_)
     ·exact c_seq <| c_reg <| ow_batch [.p] rfl <| ow_nil <| x_qs <| c_ret <| x_qs_ret <| x_qb_ret <| x_qs_ret <| x_ql_ret <| x_qb_ret <| x_qs_ret <| xr 4 rfl (by cases H; exact q1)
     ·refine c_skip <| x_qs <| c_seq <| c_reg <| ow_batch [.p] rfl <| ow_nil <| x_qs <| c_block <| CW.at (loopI2 (fun (i326 : Int) (i327 : Int) => St w [] [Res.box b18 79 [.slice a14 p1.Table_.length c15, .slice a16 p1.Last_.length c17]]) (fun (i326 : Int) (i327 : Int) => [(0, .int .i64 p0), (3, .pointer (some ⟨b18, 0, none⟩)), (5, .int .i64 i326), (6, .int .i64 i151), (7, .int .i64 i327)]) (fun kk => fun (i326 : Int) (i327 : Int) => spec_ScoreOk_L2 p0 p1 i151 (spec_ScoreOk_L1 p0 p1 k1) kk i326 i327 = some r) (fun _ _ H => ?_) (fun k2 ihk2 i326 i327 H => ?_) Fuel (i150) (0) (H)) (fun _ h => St.sel [0] rfl rfl h) ⟨rfl, rfl, rfl, rfl, rfl,  trivial⟩
      ·unfold spec_ScoreOk_L2 at H
       exact absurd H (by simp)
      ·unfold spec_ScoreOk_L2 at H
       refine c_seq <| c_seq <| c_reg <| ow_batch [.p, .p, .p] rfl <| ow_nil <| x_qs <| cI H rfl (fun H => ?_) (fun H => ?_)
       ·refine c_skip <| x_qs <| c_seq <| c_block <| c_seq <| c_seq <| c_regQ mixed (by kernel_rfl) <| ow_batch [.fa 79 0 0 fa79_0] rfl <| o1 rfl (r1 0 0 rfl ty60 rfl) <| ow_batch [.p] rfl <| bE H fun e367 h368 H => ow_ixB rfl rfl rfl rfl rfl sl60 ty59 rfl g12 h368 fun q371 c372 hd369 hA370 => ?_
        obtain ⟨a373, c374, rfl⟩ := rd_sl1 hd369
        refine o1 rfl (ry_load1 rfl rfl ty59 (at_bor bor hA370)) <| ow_batch [.p] rfl <| bE H fun e375 h376 H => ow_ixE (e := eVal (Value.int .i64) (fun _ => rfl)) (xs := e367) (j := i327) rfl rfl rfl rfl rfl sl59 ty3 rfl (fun w1 hw1 => rds_bor hd369 w1 hw1) h376 (by rw [Nat.mul_one]) <| o1 rfl (ry_load1 rfl rfl ty3 (at_elV (fun w1 hw1 => rds_bor hd369 w1 hw1) h376)) <| bE H fun y377 h378 H => oq rfl (qc rfl fn88 (fun w1 hw1 => spec_l1In_ok w1  h378)) tt2 <| ow_batch [.p, .p] rfl <| bE H fun u379 hu393 H => ow_cut [(62, .bool u379), (0, .int .i64 p0), (3, .pointer (some ⟨b18, 0, none⟩)), (5, .int .i64 i326), (6, .int .i64 i151), (7, .int .i64 i327)] 15 ?_ (fun key => OW.sub (R := [(0, .int .i64 p0), (3, .pointer (some ⟨b18, 0, none⟩)), (5, .int .i64 i326), (6, .int .i64 i151), (7, .int .i64 i327), (47, .bool (!y377))]) ?_ (sb rfl))
        ·refine ow_nilQ <| x_qs <| cI H rfl (fun H => ?_) (fun H => ?_)
         ·exact c_seq <| c_reg <| ow_batch [.p] rfl <| ow_nil <| x_qs <| c_ret <| x_qs_ret <| x_qb_ret <| x_qs_ret <| x_ql_ret <| x_qb_ret <| x_qb_ret <| x_qs_ret <| x_ql_ret <| x_qb_ret <| x_qs_ret <| xr 4 rfl (by cases H; exact q1)
         ·refine c_skip <| x_qs <| c_reg <| ow_batch [.p, .fa 79 0 0 fa79_0] rfl <| o1 rfl (r1 0 0 rfl ty60 rfl) <| ow_batch [.p] rfl <| bE H fun e394 h395 H => ow_ixB rfl rfl rfl rfl rfl sl60 ty59 rfl g12 h395 fun q398 c399 hd396 hA397 => ?_
          obtain ⟨a400, c401, rfl⟩ := rd_sl1 hd396
          exact o1 rfl (ry_load1 rfl rfl ty59 (at_bor bor hA397)) <| ow_batch [.p] rfl <| bE H fun e402 h403 H => ow_ixE (e := eVal (Value.int .i64) (fun _ => rfl)) (xs := e394) (j := i327) rfl rfl rfl rfl rfl sl59 ty3 rfl (fun w1 hw1 => rds_bor hd396 w1 hw1) h403 (by rw [Nat.mul_one]) <| o1 rfl (ry_load1 rfl rfl ty3 (at_elV (fun w1 hw1 => rds_bor hd396 w1 hw1) h403)) <| ow_batch [.p, .p] rfl <| ow_nil <| x_qb <| x_qs <| c_reg <| ow_batch [.p, .p, .p] rfl <| ow_nil <| x_ql (RW.at (ihk2 (IntKind.i64.wrap (i326 + e402)) (IntKind.i64.wrap (i327 + 1)) (H)) (fun _ h => St.sel [0] rfl rfl h) ⟨rfl, rfl, rfl, rfl, rfl, trivial⟩)
        ·clear H
         have H := hu393
         clear hu393
         generalize (!y377) = t392 at H key ⊢
         cases t392
         ·have H := of_if_f rfl H
          refine ow_batch [.fa 79 1 1 fa79_1] rfl <| o1 rfl (r1 1 0 rfl ty77 rfl) <| ow_batch [.p, .p] rfl <| bE H fun y380 h381 H => oq rfl (qc rfl fn180 (fun w1 hw1 => spec_l25Pairs_ok w1  h381 (rds_bor g13 w1 hw1))) tt2 <| ow_batch [.fa 79 0 0 fa79_0] rfl <| o1 rfl (r1 0 0 rfl ty60 rfl) <| ow_batch [.p] rfl <| bE H fun e382 h383 H => ow_ixB rfl rfl rfl rfl rfl sl60 ty59 rfl g12 h383 fun q386 c387 hd384 hA385 => ?_
          obtain ⟨a388, c389, rfl⟩ := rd_sl1 hd384
          refine o1 rfl (ry_load1 rfl rfl ty59 (at_bor bor hA385)) <| ow_batch [.p] rfl <| bE H fun e390 h391 H => ow_ixE (e := eVal (Value.int .i64) (fun _ => rfl)) (xs := e382) (j := i327) rfl rfl rfl rfl rfl sl59 ty3 rfl (fun w1 hw1 => rds_bor hd384 w1 hw1) h391 (by rw [Nat.mul_one]) <| o1 rfl (ry_load1 rfl rfl ty3 (at_elV (fun w1 hw1 => rds_bor hd384 w1 hw1) h391)) <| ow_batch [.p] rfl <| ow_batch [.p] rfl <| ?_
          obtain rfl := of_some H
          exact OW.sub key (sb rfl)
         ·have H := of_if_t rfl H
          refine ow_batch [.p, .p, .p, .p, .p, .p, .p, .p, .p, .p, .p, .p, .p, .p, .p] rfl ?_
          obtain rfl := of_some H
          exact OW.sub key (sb rfl)
       ·exact c_exit <| x_qs_exit <| x_ql_exit <| x_qb_here <| x_qb <| x_qs <| c_reg <| ow_batch [.p, .p, .p] rfl <| ow_nil <| x_ql (RW.at (ihk1 (i326) (IntKind.i64.wrap (i151 + 1)) (H)) (fun _ h => St.sel [0] rfl rfl h) ⟨rfl, rfl, rfl, rfl, trivial⟩)
    ·refine c_exit <| x_qs_exit <| x_ql_exit <| x_qb_here <| x_qs <| c_seq <| c_seq <| c_regQ mixed (by kernel_rfl) <| ow_batch [.p, .p, .p] rfl <| bE H fun u404 hu408 H => ow_cut [(82, .bool u404), (0, .int .i64 p0), (3, .pointer (some ⟨b18, 0, none⟩))] 7 ?_ (fun key => OW.sub (R := [(0, .int .i64 p0), (3, .pointer (some ⟨b18, 0, none⟩)), (5, .int .i64 i150), (75, .bool (decide (i150 > 9999)))]) ?_ (sb rfl))
     ·refine ow_nilQ <| x_qs <| cI H rfl (fun H => ?_) (fun H => ?_)
      ·exact c_seq <| c_reg <| ow_batch [.p] rfl <| ow_nil <| x_qs <| c_ret <| x_qs_ret <| xr 4 rfl (by cases H; exact q1)
      ·refine c_skip <| x_qs <| c_seq <| c_seq <| c_reg <| ow_batch [.p] rfl <| ow_nil <| x_qs <| c_block <| CW.at (loopI1 (fun (i421 : Int) => St w [] [Res.box b18 79 [.slice a14 p1.Table_.length c15, .slice a16 p1.Last_.length c17]]) (fun (i421 : Int) => [(0, .int .i64 p0), (3, .pointer (some ⟨b18, 0, none⟩)), (8, .int .i64 i421)]) (fun kk => fun (i421 : Int) => spec_ScoreOk_L3 p1 p0 kk i421 = some r) (fun _ H => ?_) (fun k3 ihk3 i421 H => ?_) Fuel (0) (H)) (fun _ h => St.sel [0] rfl rfl h) ⟨rfl, rfl, rfl,  trivial⟩
       ·unfold spec_ScoreOk_L3 at H
        exact absurd H (by simp)
       ·unfold spec_ScoreOk_L3 at H
        refine c_seq <| c_seq <| c_reg <| ow_batch [.p, .fa 79 1 1 fa79_1] rfl <| o1 rfl (r1 1 0 rfl ty77 rfl) <| ow_batch [.lenS 77 231 sl77, .p] rfl <| ow_nil <| x_qs <| cI H rfl (fun H => ?_) (fun H => ?_)
        ·refine c_skip <| x_qs <| c_seq <| c_block <| c_seq <| c_reg <| ow_batch [.fa 79 1 1 fa79_1] rfl <| o1 rfl (r1 1 0 rfl ty77 rfl) <| ow_batch [.p] rfl <| bE H fun e434 h435 H => ow_ixE (e := eTimpl_Pair) (xs := p1.Last_) (j := i421) rfl rfl rfl rfl rfl sl77 ty231 rfl (fun w1 hw1 => rds_bor g13 w1 hw1) h435 rfl <| ow_batch [.fa 231 0 0 fa231_0] rfl <| o1 rfl (ry_load1 rfl rfl ty3 (at_KA (at_castA (at_eltE (fun w1 hw1 => rds_bor g13 w1 hw1) h435 (fun _ _ h => h)) rfl) 0 1)) <| ow_batch [.p, .p] rfl <| bE H fun y436 h437 H => oq rfl (qc rfl fn88 (fun w1 hw1 => spec_l1In_ok w1  h437)) tt2 <| ow_batch [.p, .p] rfl <| bE H fun u438 hu444 H => ow_cut [(111, .bool u438), (0, .int .i64 p0), (3, .pointer (some ⟨b18, 0, none⟩)), (8, .int .i64 i421)] 11 ?_ (fun key => OW.sub (R := [(0, .int .i64 p0), (3, .pointer (some ⟨b18, 0, none⟩)), (8, .int .i64 i421), (100, .bool (!y436))]) ?_ (sb rfl))
         ·refine ow_nil <| x_qs <| cI H rfl (fun H => ?_) (fun H => ?_)
          ·exact c_seq <| c_reg <| ow_batch [.p] rfl <| ow_nil <| x_qs <| c_ret <| x_qb_ret <| x_qs_ret <| x_ql_ret <| x_qb_ret <| x_qs_ret <| xr 4 rfl (by cases H; exact q1)
          ·exact c_skip <| x_qb <| x_qs <| c_reg <| ow_batch [.p, .p, .p] rfl <| ow_nil <| x_ql (RW.at (ihk3 (IntKind.i64.wrap (i421 + 1)) (H)) (fun _ h => St.sel [0] rfl rfl h) ⟨rfl, rfl, rfl, trivial⟩)
         ·clear H
          have H := hu444
          clear hu444
          generalize (!y436) = t443 at H key ⊢
          cases t443
          ·have H := of_if_f rfl H
           refine ow_batch [.fa 79 1 1 fa79_1] rfl <| o1 rfl (r1 1 0 rfl ty77 rfl) <| ow_batch [.p] rfl <| bE H fun e439 h440 H => ow_ixE (e := eTimpl_Pair) (xs := p1.Last_) (j := i421) rfl rfl rfl rfl rfl sl77 ty231 rfl (fun w1 hw1 => rds_bor g13 w1 hw1) h440 rfl <| ow_batch [.fa 231 1 1 fa231_1] rfl <| o1 rfl (ry_load1 rfl rfl ty3 (at_KA (at_castA (at_eltE (fun w1 hw1 => rds_bor g13 w1 hw1) h440 (fun _ _ h => h)) rfl) 1 1)) <| ow_batch [.p, .p] rfl <| bE H fun y441 h442 H => oq rfl (qc rfl fn88 (fun w1 hw1 => spec_l1In_ok w1  h442)) tt2 <| ow_batch [.p] rfl <| ow_batch [.p] rfl <| ?_
           obtain rfl := of_some H
           exact OW.sub key (sb rfl)
          ·have H := of_if_t rfl H
           refine ow_batch [.p, .p, .p, .p, .p, .p, .p, .p, .p, .p, .p] rfl ?_
           obtain rfl := of_some H
           exact OW.sub key (sb rfl)
        ·exact c_exit <| x_qs_exit <| x_ql_exit <| x_qb_here <| x_qs <| c_seq <| c_reg <| ow_batch [.p] rfl <| ow_nil <| x_qs <| c_ret <| xr 4 rfl (by cases H; exact q1)
     ·clear H
      have H := hu408
      clear hu408
      generalize (decide (i150 > 9999)) = t407 at H key ⊢
      cases t407
      ·have H := of_if_f rfl H
       refine ow_batch [.fa 79 1 1 fa79_1] rfl <| o1 rfl (r1 1 0 rfl ty77 rfl) <| ow_batch [.lenS 77 231 sl77, .p] rfl <| bE H fun y405 h406 H => oq rfl (qc rfl fn181 (fun w1 hw1 => spec_l1Min_ok w1  h406)) tt2 <| ow_batch [.p] rfl <| ow_batch [.p] rfl <| ?_
       obtain rfl := of_some H
       exact OW.sub key (sb rfl)
      ·have H := of_if_t rfl H
       refine ow_batch [.p, .p, .p, .p, .p, .p, .p] rfl ?_
       obtain rfl := of_some H
       exact OW.sub key (sb rfl)
 ·generalize (!y19) = t22 at key ⊢
  cases t22
  ·exact ow_batch [.fa 79 0 0 fa79_0] rfl <| o1 rfl (r1 0 0 rfl ty60 rfl) <| ow_batch [.lenS 60 59 sl60, .p, .p] rfl <| ow_batch [.p] rfl <| OW.sub key (sb rfl)
  ·exact ow_batch [.p, .p, .p, .p, .p, .p] rfl <| OW.sub key (sb rfl)
theorem spec_StateOk_ok (w : World) {p0 : Timpl_State} {cs0 : List Value} {r : Bool} (H : spec_StateOk p0 = some r)  (g0 : (eTimpl_State).rd w [] p0 cs0) :
    Calls Tryz.prog 46 #[.agg cs0.toArray] w (fun en w' => en = .returned (.bool r) ∧ Ext [] w w') := by
 obtain ⟨c10, c11, c12, rfl, g13, g14, g15⟩ := rdo_Timpl_State g0
 obtain ⟨c16, c17, c18, c19, c20, c21, c22, rfl, g23, g24, g25, g26, g27, g28, g29⟩ := rdo_Timpl_Conf g13
 obtain ⟨c30, c31, rfl, g32, g33⟩ := rdo_Timpl_Schema g23
 obtain ⟨a34, c35, rfl⟩ := rd_sl1 g32
 obtain ⟨a36, c37, rfl⟩ := rd_sl1 g33
 obtain rfl : c17 = [.int .i64 p0.Conf_.Rule_.Sure_, .int .i64 p0.Conf_.Rule_.Tie_, .int .i64 p0.Conf_.Rule_.Grace_, .int .i64 p0.Conf_.Rule_.Depth_, .int .i64 p0.Conf_.Rule_.Nodes_, .int .i64 p0.Conf_.Rule_.Units_, .bool p0.Conf_.Rule_.Two_] := g24
 obtain rfl : c18 = [.int .i64 p0.Conf_.Members_] := g25
 obtain rfl : c19 = [.int .i64 p0.Conf_.Pick_] := g26
 obtain rfl : c20 = [.int .i64 p0.Conf_.Lambda_] := g27
 obtain rfl : c21 = [.int .i64 p0.Conf_.Warn_] := g28
 obtain rfl : c22 = [.int .i64 p0.Conf_.Drift_] := g29
 obtain ⟨c38, rfl, g39⟩ := rdo_Timpl_Forest g14
 obtain ⟨a40, c41, rfl⟩ := rd_sl1 g39
 obtain ⟨c42, c43, rfl, g44, g45⟩ := rdo_Timpl_Score g15
 obtain ⟨a46, c47, rfl⟩ := rd_sl1 g44
 obtain ⟨a48, c49, rfl⟩ := rd_sl1 g45
 unfold spec_StateOk at H
 refine f_enter (vs := [.agg #[.slice a34 p0.Conf_.Schema_.Attrs_.length c35, .slice a36 p0.Conf_.Schema_.Classes_.length c37, .int .i64 p0.Conf_.Rule_.Sure_, .int .i64 p0.Conf_.Rule_.Tie_, .int .i64 p0.Conf_.Rule_.Grace_, .int .i64 p0.Conf_.Rule_.Depth_, .int .i64 p0.Conf_.Rule_.Nodes_, .int .i64 p0.Conf_.Rule_.Units_, .bool p0.Conf_.Rule_.Two_, .int .i64 p0.Conf_.Members_, .int .i64 p0.Conf_.Pick_, .int .i64 p0.Conf_.Lambda_, .int .i64 p0.Conf_.Warn_, .int .i64 p0.Conf_.Drift_, .slice a40 p0.Forest_.Members_.length c41, .slice a46 p0.Score_.Table_.length c47, .slice a48 p0.Score_.Last_.length c49]]) Tryz.func46 rfl Tryz.ntmps46 rfl (St.init w []) <| c_seq <| c_reg <| ob [.slice a34 p0.Conf_.Schema_.Attrs_.length c35, .slice a36 p0.Conf_.Schema_.Classes_.length c37, .int .i64 p0.Conf_.Rule_.Sure_, .int .i64 p0.Conf_.Rule_.Tie_, .int .i64 p0.Conf_.Rule_.Grace_, .int .i64 p0.Conf_.Rule_.Depth_, .int .i64 p0.Conf_.Rule_.Nodes_, .int .i64 p0.Conf_.Rule_.Units_, .bool p0.Conf_.Rule_.Two_, .int .i64 p0.Conf_.Members_, .int .i64 p0.Conf_.Pick_, .int .i64 p0.Conf_.Lambda_, .int .i64 p0.Conf_.Warn_, .int .i64 p0.Conf_.Drift_, .slice a40 p0.Forest_.Members_.length c41, .slice a46 p0.Score_.Table_.length c47, .slice a48 p0.Score_.Last_.length c49] rfl fun b50 => ow_batch [.p] rfl <| ow_nil <| x_qs <| c_seq <| c_reg <| ow_batch [.fa 81 0 0 fa81_0] rfl <| o1 rfl (rx 0 0 [.slice a34 p0.Conf_.Schema_.Attrs_.length c35, .slice a36 p0.Conf_.Schema_.Classes_.length c37, .int .i64 p0.Conf_.Rule_.Sure_, .int .i64 p0.Conf_.Rule_.Tie_, .int .i64 p0.Conf_.Rule_.Grace_, .int .i64 p0.Conf_.Rule_.Depth_, .int .i64 p0.Conf_.Rule_.Nodes_, .int .i64 p0.Conf_.Rule_.Units_, .bool p0.Conf_.Rule_.Two_, .int .i64 p0.Conf_.Members_, .int .i64 p0.Conf_.Pick_, .int .i64 p0.Conf_.Lambda_, .int .i64 p0.Conf_.Warn_, .int .i64 p0.Conf_.Drift_] rfl ty73 rfl) <| ow_batch [.fa 81 1 14 fa81_1] rfl <| o1 rfl (rx 14 0 [.slice a40 p0.Forest_.Members_.length c41] rfl ty76 rfl) <| bE H fun y51 h52 H => oq rfl (qc rfl fn114 (fun w1 hw1 => spec_ForestOk_ok w1 (cs0 := [.slice a34 p0.Conf_.Schema_.Attrs_.length c35, .slice a36 p0.Conf_.Schema_.Classes_.length c37, .int .i64 p0.Conf_.Rule_.Sure_, .int .i64 p0.Conf_.Rule_.Tie_, .int .i64 p0.Conf_.Rule_.Grace_, .int .i64 p0.Conf_.Rule_.Depth_, .int .i64 p0.Conf_.Rule_.Nodes_, .int .i64 p0.Conf_.Rule_.Units_, .bool p0.Conf_.Rule_.Two_, .int .i64 p0.Conf_.Members_, .int .i64 p0.Conf_.Pick_, .int .i64 p0.Conf_.Lambda_, .int .i64 p0.Conf_.Warn_, .int .i64 p0.Conf_.Drift_]) (cs1 := [.slice a40 p0.Forest_.Members_.length c41]) h52 (rdm_Timpl_Conf (x := p0.Conf_) (c0 := [.slice a34 p0.Conf_.Schema_.Attrs_.length c35, .slice a36 p0.Conf_.Schema_.Classes_.length c37]) (c1 := [.int .i64 p0.Conf_.Rule_.Sure_, .int .i64 p0.Conf_.Rule_.Tie_, .int .i64 p0.Conf_.Rule_.Grace_, .int .i64 p0.Conf_.Rule_.Depth_, .int .i64 p0.Conf_.Rule_.Nodes_, .int .i64 p0.Conf_.Rule_.Units_, .bool p0.Conf_.Rule_.Two_]) (c2 := [.int .i64 p0.Conf_.Members_]) (c3 := [.int .i64 p0.Conf_.Pick_]) (c4 := [.int .i64 p0.Conf_.Lambda_]) (c5 := [.int .i64 p0.Conf_.Warn_]) (c6 := [.int .i64 p0.Conf_.Drift_]) (rdm_Timpl_Schema (x := p0.Conf_.Schema_) (c0 := [.slice a34 p0.Conf_.Schema_.Attrs_.length c35]) (c1 := [.slice a36 p0.Conf_.Schema_.Classes_.length c37]) (rds_bor g32 w1 hw1) (rds_bor g33 w1 hw1)) rfl rfl rfl rfl rfl rfl) (rdm_Timpl_Forest (x := p0.Forest_) (c0 := [.slice a40 p0.Forest_.Members_.length c41]) (rds_bor g39 w1 hw1)))) tt2 <| ow_batch [.p] rfl <| bE H fun u53 hu57 H => ow_cut [(17, .bool u53), (2, .bool false)] 9 ?_ (fun key => OW.sub (R := [(1, .pointer (some ⟨b50, 0, none⟩)), (2, .bool false), (8, .bool y51)]) ?_ (sb rfl))
 ·exact ow_batch [.p] rfl <| ow_nil <| x_qs <| c_ret <| xr 2 rfl (by cases H; exact q1)
 ·clear H
  have H := hu57
  clear hu57
  generalize y51 = t56 at H key ⊢
  cases t56
  ·have H := of_if_f rfl H
   refine ow_batch [.p, .p, .p, .p, .p, .p, .p, .p, .p] rfl ?_
   obtain rfl := of_some H
   exact OW.sub key (sb rfl)
  ·have H := of_if_t rfl H
   refine ow_batch [.fa 81 0 0 fa81_0, .fa 73 0 0 fa73_0, .fa 35 1 1 fa35_1] rfl <| o1 rfl (r1 1 0 rfl ty23 rfl) <| ow_batch [.lenS 23 9 sl23, .fa 81 2 15 fa81_2] rfl <| o1 rfl (rx 15 0 [.slice a46 p0.Score_.Table_.length c47, .slice a48 p0.Score_.Last_.length c49] rfl ty79 rfl) <| bE H fun y54 h55 H => oq rfl (qc rfl fn115 (fun w1 hw1 => spec_ScoreOk_ok w1 (cs1 := [.slice a46 p0.Score_.Table_.length c47, .slice a48 p0.Score_.Last_.length c49]) h55 (rdm_Timpl_Score (x := p0.Score_) (c0 := [.slice a46 p0.Score_.Table_.length c47]) (c1 := [.slice a48 p0.Score_.Last_.length c49]) (rds_bor g44 w1 hw1) (rds_bor g45 w1 hw1)))) tt2 <| ow_batch [.p] rfl <| ?_
   obtain rfl := of_some H
   exact OW.sub key (sb rfl)
theorem impl_Thresholds_ok (w : World) {M0 : List Nat} {p0 : Int}  {r : (List Int) × Bool} (H : impl_Thresholds p0 = some r) (HS : St w M0 [] w)  :
    Calls Tryz.prog 220 #[.int .i64 p0] w (fun en w' => ∃ v, en = .returned v ∧ ∃ (a0 : Option Addr), ∃ (n0 : Nat), ∃ (c0 : Nat), ∃ (F0 : List Nat), v = .slice a0 n0 c0 ∧ a0.isNone = r.2 ∧ St w M0 [Res.own (eList (eVal (Value.int .i64) (fun _ => rfl)) 3) F0 r.1 [.slice a0 n0 c0]] w') := by
 unfold impl_Thresholds at H
 refine f_enter (vs := [.int .i64 p0]) Tryz.func220 rfl Tryz.ntmps220 rfl (HS) <| c_seq <| c_reg <| ow_batch [.p] rfl <| ow_nil <| x_qs <| c_seq <| c_seq <| c_reg <| ow_batch [.p] rfl <| ow_nil <| x_qs <| c_block <| c_seq <| c_reg <| ow_batch [.p, .p] rfl <| ow_nil <| x_qs <| cI H rfl (fun H => ?_) (fun H => ?_)
 ·exact c_seq <| c_reg <| ow_blit (val := Value.int .i64) (h1 := fun _ => rfl) [24109, 48218, 60273, 64291, 65296, 65497, 65530] [(0, [.int .i64 24109]), (1, [.int .i64 48218]), (2, [.int .i64 60273]), (3, [.int .i64 64291]), (4, [.int .i64 65296]), (5, [.int .i64 65497]), (6, [.int .i64 65530])] rfl rfl rfl rfl rfl sl59 ty3 rfl rfl rfl ⟨rfl, rfl, Nat.le_of_ble_eq_true rfl, rfl, rfl, Nat.le_of_ble_eq_true rfl, rfl, rfl, Nat.le_of_ble_eq_true rfl, rfl, rfl, Nat.le_of_ble_eq_true rfl, rfl, rfl, Nat.le_of_ble_eq_true rfl, rfl, rfl, Nat.le_of_ble_eq_true rfl, rfl, rfl, Nat.le_of_ble_eq_true rfl,  trivial⟩ rfl rfl (fun _ => kp) fun b10 => ow_batch [.p] rfl <| ow_nil <| x_qs <| c_ret <| x_qb_ret <| x_qs_ret <| x_retR (rs := [.tmp 2]) (vs := [.slice (some ⟨b10, 0, none⟩) (([24109, 48218, 60273, 64291, 65296, 65497, 65530] : List Int).length) 7]) rfl ⟨rfl, trivial⟩ (fun w' hw' => by
   obtain rfl := of_some H
   exact ⟨_, rfl, (some ⟨b10, 0, none⟩), (([24109, 48218, 60273, 64291, 65296, 65497, 65530] : List Int).length), 7, [b10], rfl, rfl, hw'.sel [0] rfl rfl⟩)
 ·refine c_seq <| c_reg <| ow_batch [.p, .p] rfl <| ow_nil <| x_qs <| cI H rfl (fun H => ?_) (fun H => ?_)
  ·exact c_seq <| c_reg <| ow_blit (val := Value.int .i64) (h1 := fun _ => rfl) [162, 1137, 4061, 9909, 18681, 29208, 39734] [(0, [.int .i64 162]), (1, [.int .i64 1137]), (2, [.int .i64 4061]), (3, [.int .i64 9909]), (4, [.int .i64 18681]), (5, [.int .i64 29208]), (6, [.int .i64 39734])] rfl rfl rfl rfl rfl sl59 ty3 rfl rfl rfl ⟨rfl, rfl, Nat.le_of_ble_eq_true rfl, rfl, rfl, Nat.le_of_ble_eq_true rfl, rfl, rfl, Nat.le_of_ble_eq_true rfl, rfl, rfl, Nat.le_of_ble_eq_true rfl, rfl, rfl, Nat.le_of_ble_eq_true rfl, rfl, rfl, Nat.le_of_ble_eq_true rfl, rfl, rfl, Nat.le_of_ble_eq_true rfl,  trivial⟩ rfl rfl (fun _ => kp) fun b11 => ow_batch [.p] rfl <| ow_nil <| x_qs <| c_ret <| x_qb_ret <| x_qs_ret <| x_retR (rs := [.tmp 2]) (vs := [.slice (some ⟨b11, 0, none⟩) (([162, 1137, 4061, 9909, 18681, 29208, 39734] : List Int).length) 7]) rfl ⟨rfl, trivial⟩ (fun w' hw' => by
    obtain rfl := of_some H
    exact ⟨_, rfl, (some ⟨b11, 0, none⟩), (([162, 1137, 4061, 9909, 18681, 29208, 39734] : List Int).length), 7, [b11], rfl, rfl, hw'.sel [0] rfl rfl⟩)
  ·exact c_skip <| x_qb <| x_qs <| c_seq <| c_reg <| ow_batch [.p] rfl <| ow_nil <| x_qs <| c_ret <| xw_st (fun _ h => St.pushNil (e := eVal (Value.int .i64) (fun _ => rfl)) (T := 3) h) <| x_retR (rs := [.tmp 2]) (vs := [.slice none 0 0]) rfl ⟨rfl, trivial⟩ (fun w' hw' => by
    obtain rfl := of_some H
    exact ⟨_, rfl, none, 0, 0, [], rfl, rfl, hw'.sel [0] rfl rfl⟩)
theorem impl_ConfOk_ok (w : World) {p0 : Timpl_Conf} {cs0 : List Value} {r : Bool} (H : impl_ConfOk p0 = some r)  (g0 : (eTimpl_Conf).rd w [] p0 cs0) :
    Calls Tryz.prog 164 #[.agg cs0.toArray] w (fun en w' => en = .returned (.bool r) ∧ Ext [] w w') := by
 obtain ⟨c10, c11, c12, c13, c14, c15, c16, rfl, g17, g18, g19, g20, g21, g22, g23⟩ := rdo_Timpl_Conf g0
 obtain ⟨c24, c25, rfl, g26, g27⟩ := rdo_Timpl_Schema g17
 obtain ⟨a28, c29, rfl⟩ := rd_sl1 g26
 obtain ⟨a30, c31, rfl⟩ := rd_sl1 g27
 obtain rfl : c11 = [.int .i64 p0.Rule_.Sure_, .int .i64 p0.Rule_.Tie_, .int .i64 p0.Rule_.Grace_, .int .i64 p0.Rule_.Depth_, .int .i64 p0.Rule_.Nodes_, .int .i64 p0.Rule_.Units_, .bool p0.Rule_.Two_] := g18
 obtain rfl : c12 = [.int .i64 p0.Members_] := g19
 obtain rfl : c13 = [.int .i64 p0.Pick_] := g20
 obtain rfl : c14 = [.int .i64 p0.Lambda_] := g21
 obtain rfl : c15 = [.int .i64 p0.Warn_] := g22
 obtain rfl : c16 = [.int .i64 p0.Drift_] := g23
 unfold impl_ConfOk at H
 refine f_enter (vs := [.agg #[.slice a28 p0.Schema_.Attrs_.length c29, .slice a30 p0.Schema_.Classes_.length c31, .int .i64 p0.Rule_.Sure_, .int .i64 p0.Rule_.Tie_, .int .i64 p0.Rule_.Grace_, .int .i64 p0.Rule_.Depth_, .int .i64 p0.Rule_.Nodes_, .int .i64 p0.Rule_.Units_, .bool p0.Rule_.Two_, .int .i64 p0.Members_, .int .i64 p0.Pick_, .int .i64 p0.Lambda_, .int .i64 p0.Warn_, .int .i64 p0.Drift_]]) Tryz.func164 rfl Tryz.ntmps164 rfl (St.init w []) <| c_seq <| c_reg <| ob [.slice a28 p0.Schema_.Attrs_.length c29, .slice a30 p0.Schema_.Classes_.length c31, .int .i64 p0.Rule_.Sure_, .int .i64 p0.Rule_.Tie_, .int .i64 p0.Rule_.Grace_, .int .i64 p0.Rule_.Depth_, .int .i64 p0.Rule_.Nodes_, .int .i64 p0.Rule_.Units_, .bool p0.Rule_.Two_, .int .i64 p0.Members_, .int .i64 p0.Pick_, .int .i64 p0.Lambda_, .int .i64 p0.Warn_, .int .i64 p0.Drift_] rfl fun b32 => ow_batch [.p] rfl <| ow_nil <| x_qs <| c_seq <| c_reg <| ow_batch [.fa 73 0 0 fa73_0] rfl <| o1 rfl (rx 0 0 [.slice a28 p0.Schema_.Attrs_.length c29, .slice a30 p0.Schema_.Classes_.length c31] rfl ty35 rfl) <| bE H fun y33 h34 H => oq rfl (qc rfl fn132 (fun w1 hw1 => impl_SchemaOk_ok w1 (cs0 := [.slice a28 p0.Schema_.Attrs_.length c29, .slice a30 p0.Schema_.Classes_.length c31]) h34 (rdm_Timpl_Schema (x := p0.Schema_) (c0 := [.slice a28 p0.Schema_.Attrs_.length c29]) (c1 := [.slice a30 p0.Schema_.Classes_.length c31]) (rds_bor g26 w1 hw1) (rds_bor g27 w1 hw1)))) tt2 <| ow_batch [.p] rfl <| bE H fun u35 hu39 H => ow_cut [(10, .bool u35), (1, .pointer (some ⟨b32, 0, none⟩)), (2, .bool false)] 4 ?_ (fun key => OW.sub (R := [(1, .pointer (some ⟨b32, 0, none⟩)), (2, .bool false), (6, .bool y33)]) ?_ (sb rfl))
 ·refine ow_batch [.p] rfl <| bE H fun u40 hu44 H => ow_cut [(15, .bool u40), (1, .pointer (some ⟨b32, 0, none⟩)), (2, .bool false)] 4 ?_ (fun key => OW.sub (R := [(1, .pointer (some ⟨b32, 0, none⟩)), (2, .bool false), (11, .bool u35)]) ?_ (sb rfl))
  ·refine ow_batch [.p] rfl <| bE H fun u45 hu49 H => ow_cut [(24, .bool u45), (1, .pointer (some ⟨b32, 0, none⟩)), (2, .bool false)] 8 ?_ (fun key => OW.sub (R := [(1, .pointer (some ⟨b32, 0, none⟩)), (2, .bool false), (16, .bool u40)]) ?_ (sb rfl))
   ·refine ow_batch [.p] rfl <| bE H fun u50 hu62 H => ow_cut [(30, .bool u50), (1, .pointer (some ⟨b32, 0, none⟩)), (2, .bool false)] 5 ?_ (fun key => OW.sub (R := [(1, .pointer (some ⟨b32, 0, none⟩)), (2, .bool false), (25, .bool u45)]) ?_ (sb rfl))
    ·refine ow_batch [.p] rfl <| bE H fun u63 hu67 H => ow_cut [(35, .bool u63), (1, .pointer (some ⟨b32, 0, none⟩)), (2, .bool false)] 4 ?_ (fun key => OW.sub (R := [(1, .pointer (some ⟨b32, 0, none⟩)), (2, .bool false), (31, .bool u50)]) ?_ (sb rfl))
     ·refine ow_batch [.p] rfl <| bE H fun u68 hu72 H => ow_cut [(40, .bool u68), (1, .pointer (some ⟨b32, 0, none⟩)), (2, .bool false)] 4 ?_ (fun key => OW.sub (R := [(1, .pointer (some ⟨b32, 0, none⟩)), (2, .bool false), (36, .bool u63)]) ?_ (sb rfl))
      ·refine ow_batch [.p] rfl <| ow_cut [(47, .bool (u68 && (decide (p0.Warn_ ≤ p0.Drift_)))), (2, .bool false)] 6 ?_ (fun key => OW.sub (R := [(1, .pointer (some ⟨b32, 0, none⟩)), (2, .bool false), (41, .bool u68)]) ?_ (sb rfl))
       ·exact ow_batch [.p] rfl <| ow_nil <| x_qs <| c_ret <| xr 2 rfl (by cases H; exact q1)
       ·generalize u68 = t74 at key ⊢
        cases t74
        ·exact ow_batch [.p, .p, .p, .p, .p, .p] rfl <| OW.sub key (sb rfl)
        ·exact ow_batch [.fa 73 5 12 fa73_5] rfl <| o1 rfl (r1 12 0 rfl ty3 rfl) <| ow_batch [.fa 73 6 13 fa73_6] rfl <| o1 rfl (r1 13 0 rfl ty3 rfl) <| ow_batch [.p] rfl <| ow_batch [.p] rfl <| OW.sub key (sb rfl)
      ·clear H
       have H := hu72
       clear hu72
       generalize u63 = t71 at H key ⊢
       cases t71
       ·have H := of_if_f rfl H
        refine ow_batch [.p, .p, .p, .p] rfl ?_
        obtain rfl := of_some H
        exact OW.sub key (sb rfl)
       ·have H := of_if_t rfl H
        refine ow_batch [.fa 73 6 13 fa73_6] rfl <| o1 rfl (r1 13 0 rfl ty3 rfl) <| bE H fun y69 h70 H => oq rfl (qc rfl fn91 (fun w1 hw1 => impl_within_ok w1  h70)) tt2 <| ow_batch [.p] rfl <| ?_
        obtain rfl := of_some H
        exact OW.sub key (sb rfl)
     ·clear H
      have H := hu67
      clear hu67
      generalize u50 = t66 at H key ⊢
      cases t66
      ·have H := of_if_f rfl H
       refine ow_batch [.p, .p, .p, .p] rfl ?_
       obtain rfl := of_some H
       exact OW.sub key (sb rfl)
      ·have H := of_if_t rfl H
       refine ow_batch [.fa 73 5 12 fa73_5] rfl <| o1 rfl (r1 12 0 rfl ty3 rfl) <| bE H fun y64 h65 H => oq rfl (qc rfl fn91 (fun w1 hw1 => impl_within_ok w1  h65)) tt2 <| ow_batch [.p] rfl <| ?_
       obtain rfl := of_some H
       exact OW.sub key (sb rfl)
    ·clear H
     have H := hu62
     clear hu62
     generalize u45 = t61 at H key ⊢
     cases t61
     ·have H := of_if_f rfl H
      refine ow_batch [.p, .p, .p, .p, .p] rfl ?_
      obtain rfl := of_some H
      exact OW.sub key (sb rfl)
     ·have H := of_if_t rfl H
      refine ow_batch [.fa 73 4 11 fa73_4] rfl <| o1 rfl (r1 11 0 rfl ty3 rfl) <| bE H fun y51 h52 H => ow_callS rfl fn220 rfl rfl rfl rfl (fun w1 hw1 => impl_Thresholds_ok w1  h52 (hw1.carve [] rfl rfl)) fun v53 w1 w2 hw1 hR55 => ?_
      obtain ⟨a56, n57, c58, F59, rfl, hz60, hS54⟩ := hR55
      obtain rfl := own_nS (i := 0) hS54 rfl
      refine ⟨St w [] [_, _], hw1.comp [] rfl rfl hS54, fun _ _ => trivial, ?_⟩
      refine o1 rfl (ry_nnilB rfl rfl sl59 hz60) <| ow_st rfl (C' := St w [] [_]) (fun _ h => St.sel [0] rfl rfl h) <| ow_batch [.p] rfl <| ?_
      obtain rfl := of_some H
      exact OW.sub key (sb rfl)
   ·clear H
    have H := hu49
    clear hu49
    generalize u40 = t48 at H key ⊢
    cases t48
    ·have H := of_if_f rfl H
     refine ow_batch [.p, .p, .p, .p, .p, .p, .p, .p] rfl ?_
     obtain rfl := of_some H
     exact OW.sub key (sb rfl)
    ·have H := of_if_t rfl H
     refine ow_batch [.fa 73 3 10 fa73_3] rfl <| o1 rfl (r1 10 0 rfl ty3 rfl) <| ow_batch [.fa 73 0 0 fa73_0, .fa 35 0 0 fa35_0] rfl <| o1 rfl (r1 0 0 rfl ty33 rfl) <| ow_batch [.lenS 33 114 sl33] rfl <| bE H fun y46 h47 H => oq rfl (qc rfl fn91 (fun w1 hw1 => impl_within_ok w1  h47)) tt2 <| ow_batch [.p] rfl <| ?_
     obtain rfl := of_some H
     exact OW.sub key (sb rfl)
  ·clear H
   have H := hu44
   clear hu44
   generalize u35 = t43 at H key ⊢
   cases t43
   ·have H := of_if_f rfl H
    refine ow_batch [.p, .p, .p, .p] rfl ?_
    obtain rfl := of_some H
    exact OW.sub key (sb rfl)
   ·have H := of_if_t rfl H
    refine ow_batch [.fa 73 2 9 fa73_2] rfl <| o1 rfl (r1 9 0 rfl ty3 rfl) <| bE H fun y41 h42 H => oq rfl (qc rfl fn91 (fun w1 hw1 => impl_within_ok w1  h42)) tt2 <| ow_batch [.p] rfl <| ?_
    obtain rfl := of_some H
    exact OW.sub key (sb rfl)
 ·clear H
  have H := hu39
  clear hu39
  generalize y33 = t38 at H key ⊢
  cases t38
  ·have H := of_if_f rfl H
   refine ow_batch [.p, .p, .p, .p] rfl ?_
   obtain rfl := of_some H
   exact OW.sub key (sb rfl)
  ·have H := of_if_t rfl H
   refine ow_batch [.fa 73 1 2 fa73_1] rfl <| o1 rfl (rx 2 0 [.int .i64 p0.Rule_.Sure_, .int .i64 p0.Rule_.Tie_, .int .i64 p0.Rule_.Grace_, .int .i64 p0.Rule_.Depth_, .int .i64 p0.Rule_.Nodes_, .int .i64 p0.Rule_.Units_, .bool p0.Rule_.Two_] rfl ty53 rfl) <| bE H fun y36 h37 H => oq rfl (qc rfl fn81 (fun w1 hw1 => impl_RuleOk_ok w1 (p0 := p0.Rule_) h37)) tt2 <| ow_batch [.p] rfl <| ?_
   obtain rfl := of_some H
   exact OW.sub key (sb rfl)
theorem impl_DepthOf_ok (w : World) {p0 : Timpl_Tree} {cs0 : List Value} {r : Int} (H : impl_DepthOf p0 = some r)  (g0 : (eTimpl_Tree).rd w [] p0 cs0) :
    Calls Tryz.prog 254 #[.agg cs0.toArray] w (fun en w' => en = .returned (.int .i64 r) ∧ Ext [] w w') := by
 obtain ⟨c10, c11, rfl, g12, g13⟩ := rdo_Timpl_Tree g0
 obtain ⟨a14, c15, rfl⟩ := rd_sl1 g12
 obtain rfl : c11 = [.int .i64 p0.Seen_] := g13
 unfold impl_DepthOf at H
 refine f_enter (vs := [.agg #[.slice a14 p0.Nodes_.length c15, .int .i64 p0.Seen_]]) Tryz.func254 rfl Tryz.ntmps254 rfl (St.init w []) <| c_seq <| c_reg <| ob [.slice a14 p0.Nodes_.length c15, .int .i64 p0.Seen_] rfl fun b16 => ow_batch [.p] rfl <| ow_nil <| x_qs <| c_seq <| c_seq <| c_reg <| ow_batch [.fa 39 0 0 fa39_0] rfl <| o1 rfl (r1 0 0 rfl ty37 rfl) <| ow_batch [.lenS 37 118 sl37, .p] rfl <| ow_nil <| x_qs <| cI H rfl (fun H => ?_) (fun H => ?_)
 ·exact c_seq <| c_reg <| ow_batch [.p] rfl <| ow_nil <| x_qs <| c_ret <| x_qs_ret <| xr 2 rfl (by cases H; exact q1)
 ·refine c_skip <| x_qs <| c_seq <| c_reg <| ow_batch [.fa 39 0 0 fa39_0] rfl <| o1 rfl (r1 0 0 rfl ty37 rfl) <| bE H fun e17 h18 H => ow_ixB rfl rfl rfl rfl rfl sl37 ty118 rfl g12 h18 fun q21 c22 hd19 hA20 => ?_
  obtain ⟨c23, c24, c25, c26, c27, c28, c29, c30, c31, c32, rfl, g33, g34, g35, g36, g37, g38, g39, g40, g41, g42⟩ := rdo_Timpl_Node hd19
  obtain rfl : c23 = [.bool e17.Leaf_] := g33
  obtain rfl : c24 = [.int .i64 e17.Fork_.Attr_, .int .i64 e17.Fork_.At_] := g34
  obtain ⟨a43, c44, rfl⟩ := rd_sl1 g35
  obtain rfl : c26 = [.int .i64 e17.Miss_] := g36
  obtain ⟨c45, c46, rfl, g47, g48⟩ := rdo_Timpl_Stats g37
  obtain ⟨a49, c50, rfl⟩ := rd_sl1 g47
  obtain ⟨a51, c52, rfl⟩ := rd_sl1 g48
  obtain rfl : c28 = [.int .i64 e17.Since_] := g38
  obtain ⟨a53, c54, rfl⟩ := rd_sl1 g39
  obtain rfl : c30 = [.int .i64 e17.Depth_] := g40
  obtain rfl : c31 = [.int .i64 e17.Up_] := g41
  obtain rfl : c32 = [.int .i64 e17.Born_] := g42
  refine ow_batch [.fa 118 7 9 fa118_7] rfl <| o1 rfl (ry_load1 rfl rfl ty3 (at_bor bor (at_K hA20 9 1))) <| ow_batch [.p] rfl <| ow_nil <| x_qs <| c_seq <| c_seq <| c_reg <| ow_batch [.fa 39 0 0 fa39_0] rfl <| o1 rfl (r1 0 0 rfl ty37 rfl) <| ow_batch [.lenS 37 118 sl37, .p] rfl <| ow_nil <| x_qs <| c_block <| CW.at (loopI2 (fun (i96 : Int) (i97 : Int) => St w [] []) (fun (i96 : Int) (i97 : Int) => [(3, .int .i64 i97), (16, .slice a14 p0.Nodes_.length c15), (17, .int .i64 (p0.Nodes_.length : Int)), (18, .int .i64 i96)]) (fun kk => fun (i96 : Int) (i97 : Int) => impl_DepthOf_L1 p0 kk i96 i97 = some r) (fun _ _ H => ?_) (fun k1 ihk1 i96 i97 H => ?_) Fuel (0) (e17.Depth_) (H)) (fun _ h => St.sel [] rfl rfl h) ⟨rfl, rfl, rfl, rfl,  trivial⟩
  ·unfold impl_DepthOf_L1 at H
   exact absurd H (by simp)
  ·unfold impl_DepthOf_L1 at H
   refine c_seq <| c_reg <| ow_batch [.p] rfl <| ow_nil <| x_qs <| c_seq <| cI H rfl (fun H => ?_) (fun H => ?_)
   ·refine c_skip <| x_qs <| c_seq <| c_block <| c_seq <| c_reg <| bE H fun e139 h140 H => ow_ixB rfl rfl rfl rfl rfl sl37 ty118 rfl g12 h140 fun q143 c144 hd141 hA142 => ?_
    obtain ⟨c145, c146, c147, c148, c149, c150, c151, c152, c153, c154, rfl, g155, g156, g157, g158, g159, g160, g161, g162, g163, g164⟩ := rdo_Timpl_Node hd141
    obtain rfl : c145 = [.bool e139.Leaf_] := g155
    obtain rfl : c146 = [.int .i64 e139.Fork_.Attr_, .int .i64 e139.Fork_.At_] := g156
    obtain ⟨a165, c166, rfl⟩ := rd_sl1 g157
    obtain rfl : c148 = [.int .i64 e139.Miss_] := g158
    obtain ⟨c167, c168, rfl, g169, g170⟩ := rdo_Timpl_Stats g159
    obtain ⟨a171, c172, rfl⟩ := rd_sl1 g169
    obtain ⟨a173, c174, rfl⟩ := rd_sl1 g170
    obtain rfl : c150 = [.int .i64 e139.Since_] := g160
    obtain ⟨a175, c176, rfl⟩ := rd_sl1 g161
    obtain rfl : c152 = [.int .i64 e139.Depth_] := g162
    obtain rfl : c153 = [.int .i64 e139.Up_] := g163
    obtain rfl : c154 = [.int .i64 e139.Born_] := g164
    exact o1 rfl (ry_load (cs := [.bool e139.Leaf_, .int .i64 e139.Fork_.Attr_, .int .i64 e139.Fork_.At_, .slice a165 e139.Kids_.length c166, .int .i64 e139.Miss_, .slice a171 e139.Stats_.Totals_.length c172, .slice a173 e139.Stats_.Cells_.length c174, .int .i64 e139.Since_, .slice a175 e139.Attrs_.length c176, .int .i64 e139.Depth_, .int .i64 e139.Up_, .int .i64 e139.Born_]) rfl rfl ty118 (at_bor bor hA142) rfl) <| ow_alloc rfl rfl rfl rfl ty118 (fun _ => kp) fun b177 => sC 0 [.bool e139.Leaf_, .int .i64 e139.Fork_.Attr_, .int .i64 e139.Fork_.At_, .slice a165 e139.Kids_.length c166, .int .i64 e139.Miss_, .slice a171 e139.Stats_.Totals_.length c172, .slice a173 e139.Stats_.Cells_.length c174, .int .i64 e139.Since_, .slice a175 e139.Attrs_.length c176, .int .i64 e139.Depth_, .int .i64 e139.Up_, .int .i64 e139.Born_] [_, _, _, _, _, _, _, _, _, _, _, _] 0 rfl ty118 rfl <| ow_nil <| x_qs <| c_reg <| ow_batch [.p, .fa 118 7 9 fa118_7] rfl <| o1 rfl (r1 9 0 rfl ty3 rfl) <| o1 rfl (ry_max rfl rfl rfl) <| ow_batch [.p] rfl <| ow_nil <| x_qb <| x_qs <| c_reg <| ow_batch [.p, .p] rfl <| ow_nil <| x_ql (RW.at (ihk1 (IntKind.i64.wrap (i96 + 1)) ((if i97 < e139.Depth_ then e139.Depth_ else i97)) (H)) (fun _ h => St.sel [] rfl rfl h) ⟨rfl, rfl, rfl, rfl, trivial⟩)
   ·exact c_exit <| x_qs_exit <| x_ql_exit <| x_qb_here <| x_qs <| c_seq <| c_reg <| ow_batch [.p, .p] rfl <| ow_nil <| x_qs <| c_ret <| xr 2 rfl (by cases H; exact q1)
theorem impl_UnitsOf_ok (w : World) {p0 : Timpl_Node} {cs0 : List Value} {r : Int} (H : impl_UnitsOf p0 = some r)  (g0 : (eTimpl_Node).rd w [] p0 cs0) :
    Calls Tryz.prog 271 #[.agg cs0.toArray] w (fun en w' => en = .returned (.int .i64 r) ∧ Ext [] w w') := by
 obtain ⟨c10, c11, c12, c13, c14, c15, c16, c17, c18, c19, rfl, g20, g21, g22, g23, g24, g25, g26, g27, g28, g29⟩ := rdo_Timpl_Node g0
 obtain rfl : c10 = [.bool p0.Leaf_] := g20
 obtain rfl : c11 = [.int .i64 p0.Fork_.Attr_, .int .i64 p0.Fork_.At_] := g21
 obtain ⟨a30, c31, rfl⟩ := rd_sl1 g22
 obtain rfl : c13 = [.int .i64 p0.Miss_] := g23
 obtain ⟨c32, c33, rfl, g34, g35⟩ := rdo_Timpl_Stats g24
 obtain ⟨a36, c37, rfl⟩ := rd_sl1 g34
 obtain ⟨a38, c39, rfl⟩ := rd_sl1 g35
 obtain rfl : c15 = [.int .i64 p0.Since_] := g25
 obtain ⟨a40, c41, rfl⟩ := rd_sl1 g26
 obtain rfl : c17 = [.int .i64 p0.Depth_] := g27
 obtain rfl : c18 = [.int .i64 p0.Up_] := g28
 obtain rfl : c19 = [.int .i64 p0.Born_] := g29
 unfold impl_UnitsOf at H
 refine f_enter (vs := [.agg #[.bool p0.Leaf_, .int .i64 p0.Fork_.Attr_, .int .i64 p0.Fork_.At_, .slice a30 p0.Kids_.length c31, .int .i64 p0.Miss_, .slice a36 p0.Stats_.Totals_.length c37, .slice a38 p0.Stats_.Cells_.length c39, .int .i64 p0.Since_, .slice a40 p0.Attrs_.length c41, .int .i64 p0.Depth_, .int .i64 p0.Up_, .int .i64 p0.Born_]]) Tryz.func271 rfl Tryz.ntmps271 rfl (St.init w []) <| c_seq <| c_reg <| ob [.bool p0.Leaf_, .int .i64 p0.Fork_.Attr_, .int .i64 p0.Fork_.At_, .slice a30 p0.Kids_.length c31, .int .i64 p0.Miss_, .slice a36 p0.Stats_.Totals_.length c37, .slice a38 p0.Stats_.Cells_.length c39, .int .i64 p0.Since_, .slice a40 p0.Attrs_.length c41, .int .i64 p0.Depth_, .int .i64 p0.Up_, .int .i64 p0.Born_] rfl fun b42 => ow_batch [.p] rfl <| ow_nil <| x_qs <| c_seq <| c_seq <| c_reg <| ow_batch [.fa 118 0 0 fa118_0] rfl <| o1 rfl (r1 0 0 rfl ty4 rfl) <| ow_batch [.p] rfl <| ow_nil <| x_qs <| cI H rfl (fun H => ?_) (fun H => ?_)
 ·exact c_seq <| c_reg <| ow_batch [.p] rfl <| ow_nil <| x_qs <| c_ret <| x_qs_ret <| xr 2 rfl (by cases H; exact q1)
 ·refine c_skip <| x_qs <| c_seq <| c_reg <| ow_batch [.p] rfl <| ow_nil <| x_qs <| c_seq <| c_seq <| c_reg <| ow_batch [.fa 118 4 5 fa118_4, .fa 62 1 1 fa62_1] rfl <| o1 rfl (r1 6 0 rfl ty60 rfl) <| ow_batch [.lenS 60 59 sl60, .p] rfl <| ow_nil <| x_qs <| c_block <| CW.at (loopI2 (fun (i53 : Int) (i54 : Int) => St w [] []) (fun (i53 : Int) (i54 : Int) => [(3, .int .i64 i54), (11, .slice a38 p0.Stats_.Cells_.length c39), (12, .int .i64 (p0.Stats_.Cells_.length : Int)), (13, .int .i64 i53)]) (fun kk => fun (i53 : Int) (i54 : Int) => impl_UnitsOf_L1 p0 kk i53 i54 = some r) (fun _ _ H => ?_) (fun k1 ihk1 i53 i54 H => ?_) Fuel (0) (2) (H)) (fun _ h => St.sel [] rfl rfl h) ⟨rfl, rfl, rfl, rfl,  trivial⟩
  ·unfold impl_UnitsOf_L1 at H
   exact absurd H (by simp)
  ·unfold impl_UnitsOf_L1 at H
   refine c_seq <| c_reg <| ow_batch [.p] rfl <| ow_nil <| x_qs <| c_seq <| cI H rfl (fun H => ?_) (fun H => ?_)
   ·refine c_skip <| x_qs <| c_seq <| c_block <| c_seq <| c_reg <| bE H fun e66 h67 H => ow_ixB rfl rfl rfl rfl rfl sl60 ty59 rfl g35 h67 fun q70 c71 hd68 hA69 => ?_
    obtain ⟨a72, c73, rfl⟩ := rd_sl1 hd68
    exact o1 rfl (ry_load1 rfl rfl ty59 (at_bor bor hA69)) <| ow_batch [.p] rfl <| ow_nil <| x_qs <| c_reg <| ow_batch [.p, .p, .lenS 59 3 sl59, .p, .p] rfl <| ow_nil <| x_qb <| x_qs <| c_reg <| ow_batch [.p, .p] rfl <| ow_nil <| x_ql (RW.at (ihk1 (IntKind.i64.wrap (i53 + 1)) (IntKind.i64.wrap (i54 + (e66.length : Int))) (H)) (fun _ h => St.sel [] rfl rfl h) ⟨rfl, rfl, rfl, rfl, trivial⟩)
   ·exact c_exit <| x_qs_exit <| x_ql_exit <| x_qb_here <| x_qs <| c_seq <| c_reg <| ow_batch [.p, .p] rfl <| ow_nil <| x_qs <| c_ret <| xr 2 rfl (by cases H; exact q1)
theorem impl_TreeUnits_ok (w : World) {p0 : Timpl_Tree} {cs0 : List Value} {r : Int} (H : impl_TreeUnits p0 = some r)  (g0 : (eTimpl_Tree).rd w [] p0 cs0) :
    Calls Tryz.prog 255 #[.agg cs0.toArray] w (fun en w' => en = .returned (.int .i64 r) ∧ Ext [] w w') := by
 obtain ⟨c10, c11, rfl, g12, g13⟩ := rdo_Timpl_Tree g0
 obtain ⟨a14, c15, rfl⟩ := rd_sl1 g12
 obtain rfl : c11 = [.int .i64 p0.Seen_] := g13
 unfold impl_TreeUnits at H
 refine f_enter (vs := [.agg #[.slice a14 p0.Nodes_.length c15, .int .i64 p0.Seen_]]) Tryz.func255 rfl Tryz.ntmps255 rfl (St.init w []) <| c_seq <| c_reg <| ob [.slice a14 p0.Nodes_.length c15, .int .i64 p0.Seen_] rfl fun b16 => ow_batch [.p] rfl <| ow_nil <| x_qs <| c_seq <| c_reg <| ow_batch [.p] rfl <| ow_nil <| x_qs <| c_seq <| c_seq <| c_reg <| ow_batch [.fa 39 0 0 fa39_0] rfl <| o1 rfl (r1 0 0 rfl ty37 rfl) <| ow_batch [.lenS 37 118 sl37, .p] rfl <| ow_nil <| x_qs <| c_block <| CW.at (loopI2 (fun (i60 : Int) (i61 : Int) => St w [] []) (fun (i60 : Int) (i61 : Int) => [(3, .int .i64 i60), (7, .slice a14 p0.Nodes_.length c15), (8, .int .i64 (p0.Nodes_.length : Int)), (9, .int .i64 i61)]) (fun kk => fun (i60 : Int) (i61 : Int) => impl_TreeUnits_L1 p0 kk i60 i61 = some r) (fun _ _ H => ?_) (fun k1 ihk1 i60 i61 H => ?_) Fuel (0) (0) (H)) (fun _ h => St.sel [] rfl rfl h) ⟨rfl, rfl, rfl, rfl,  trivial⟩
 ·unfold impl_TreeUnits_L1 at H
  exact absurd H (by simp)
 ·unfold impl_TreeUnits_L1 at H
  refine c_seq <| c_reg <| ow_batch [.p] rfl <| ow_nil <| x_qs <| c_seq <| cI H rfl (fun H => ?_) (fun H => ?_)
  ·refine c_skip <| x_qs <| c_seq <| c_block <| c_seq <| c_reg <| bE H fun e105 h106 H => ow_ixB rfl rfl rfl rfl rfl sl37 ty118 rfl g12 h106 fun q109 c110 hd107 hA108 => ?_
   obtain ⟨c111, c112, c113, c114, c115, c116, c117, c118, c119, c120, rfl, g121, g122, g123, g124, g125, g126, g127, g128, g129, g130⟩ := rdo_Timpl_Node hd107
   obtain rfl : c111 = [.bool e105.Leaf_] := g121
   obtain rfl : c112 = [.int .i64 e105.Fork_.Attr_, .int .i64 e105.Fork_.At_] := g122
   obtain ⟨a131, c132, rfl⟩ := rd_sl1 g123
   obtain rfl : c114 = [.int .i64 e105.Miss_] := g124
   obtain ⟨c133, c134, rfl, g135, g136⟩ := rdo_Timpl_Stats g125
   obtain ⟨a137, c138, rfl⟩ := rd_sl1 g135
   obtain ⟨a139, c140, rfl⟩ := rd_sl1 g136
   obtain rfl : c116 = [.int .i64 e105.Since_] := g126
   obtain ⟨a141, c142, rfl⟩ := rd_sl1 g127
   obtain rfl : c118 = [.int .i64 e105.Depth_] := g128
   obtain rfl : c119 = [.int .i64 e105.Up_] := g129
   obtain rfl : c120 = [.int .i64 e105.Born_] := g130
   exact o1 rfl (ry_load (cs := [.bool e105.Leaf_, .int .i64 e105.Fork_.Attr_, .int .i64 e105.Fork_.At_, .slice a131 e105.Kids_.length c132, .int .i64 e105.Miss_, .slice a137 e105.Stats_.Totals_.length c138, .slice a139 e105.Stats_.Cells_.length c140, .int .i64 e105.Since_, .slice a141 e105.Attrs_.length c142, .int .i64 e105.Depth_, .int .i64 e105.Up_, .int .i64 e105.Born_]) rfl rfl ty118 (at_bor bor hA108) rfl) <| ow_alloc rfl rfl rfl rfl ty118 (fun _ => kp) fun b143 => sC 0 [.bool e105.Leaf_, .int .i64 e105.Fork_.Attr_, .int .i64 e105.Fork_.At_, .slice a131 e105.Kids_.length c132, .int .i64 e105.Miss_, .slice a137 e105.Stats_.Totals_.length c138, .slice a139 e105.Stats_.Cells_.length c140, .int .i64 e105.Since_, .slice a141 e105.Attrs_.length c142, .int .i64 e105.Depth_, .int .i64 e105.Up_, .int .i64 e105.Born_] [_, _, _, _, _, _, _, _, _, _, _, _] 0 rfl ty118 rfl <| ow_nil <| x_qs <| c_reg <| ow_batch [.p] rfl <| o1 rfl (rx 0 0 [.bool e105.Leaf_, .int .i64 e105.Fork_.Attr_, .int .i64 e105.Fork_.At_, .slice a131 e105.Kids_.length c132, .int .i64 e105.Miss_, .slice a137 e105.Stats_.Totals_.length c138, .slice a139 e105.Stats_.Cells_.length c140, .int .i64 e105.Since_, .slice a141 e105.Attrs_.length c142, .int .i64 e105.Depth_, .int .i64 e105.Up_, .int .i64 e105.Born_] rfl ty118 rfl) <| bE H fun y144 h145 H => oq rfl (qc rfl fn271 (fun w1 hw1 => impl_UnitsOf_ok w1 (cs0 := [.bool e105.Leaf_, .int .i64 e105.Fork_.Attr_, .int .i64 e105.Fork_.At_, .slice a131 e105.Kids_.length c132, .int .i64 e105.Miss_, .slice a137 e105.Stats_.Totals_.length c138, .slice a139 e105.Stats_.Cells_.length c140, .int .i64 e105.Since_, .slice a141 e105.Attrs_.length c142, .int .i64 e105.Depth_, .int .i64 e105.Up_, .int .i64 e105.Born_]) h145 (rdm_Timpl_Node (x := e105) (c0 := [.bool e105.Leaf_]) (c1 := [.int .i64 e105.Fork_.Attr_, .int .i64 e105.Fork_.At_]) (c2 := [.slice a131 e105.Kids_.length c132]) (c3 := [.int .i64 e105.Miss_]) (c4 := [.slice a137 e105.Stats_.Totals_.length c138, .slice a139 e105.Stats_.Cells_.length c140]) (c5 := [.int .i64 e105.Since_]) (c6 := [.slice a141 e105.Attrs_.length c142]) (c7 := [.int .i64 e105.Depth_]) (c8 := [.int .i64 e105.Up_]) (c9 := [.int .i64 e105.Born_]) rfl rfl (rds_bor g123 w1 hw1) rfl (rdm_Timpl_Stats (x := e105.Stats_) (c0 := [.slice a137 e105.Stats_.Totals_.length c138]) (c1 := [.slice a139 e105.Stats_.Cells_.length c140]) (rds_bor g135 w1 hw1) (rds_bor g136 w1 hw1)) rfl (rds_bor g127 w1 hw1) rfl rfl rfl))) tt2 <| ow_batch [.p, .p] rfl <| ow_nil <| x_qb <| x_qs <| c_reg <| ow_batch [.p, .p] rfl <| ow_nil <| x_ql (RW.at (ihk1 (IntKind.i64.wrap (i60 + y144)) (IntKind.i64.wrap (i61 + 1)) (H)) (fun _ h => St.sel [] rfl rfl h) ⟨rfl, rfl, rfl, rfl, trivial⟩)
  ·exact c_exit <| x_qs_exit <| x_ql_exit <| x_qb_here <| x_qs <| c_seq <| c_reg <| ow_batch [.p, .p] rfl <| ow_nil <| x_qs <| c_ret <| xr 2 rfl (by cases H; exact q1)
theorem impl_Fits_ok (w : World) {p0 : Timpl_Schema} {p1 : Timpl_Rule} {p2 : Timpl_Tree} {cs0 : List Value} {cs2 : List Value} {r : Bool} (H : impl_Fits p0 p1 p2 = some r)  (g0 : (eTimpl_Schema).rd w [] p0 cs0) (g2 : (eTimpl_Tree).rd w [] p2 cs2) :
    Calls Tryz.prog 235 #[.agg cs0.toArray, .agg #[.int .i64 p1.Sure_, .int .i64 p1.Tie_, .int .i64 p1.Grace_, .int .i64 p1.Depth_, .int .i64 p1.Nodes_, .int .i64 p1.Units_, .bool p1.Two_], .agg cs2.toArray] w (fun en w' => en = .returned (.bool r) ∧ Ext [] w w') := by
 obtain ⟨c10, c11, rfl, g12, g13⟩ := rdo_Timpl_Schema g0
 obtain ⟨a14, c15, rfl⟩ := rd_sl1 g12
 obtain ⟨a16, c17, rfl⟩ := rd_sl1 g13
 obtain ⟨c18, c19, rfl, g20, g21⟩ := rdo_Timpl_Tree g2
 obtain ⟨a22, c23, rfl⟩ := rd_sl1 g20
 obtain rfl : c19 = [.int .i64 p2.Seen_] := g21
 unfold impl_Fits at H
 refine f_enter (vs := [.agg #[.slice a14 p0.Attrs_.length c15, .slice a16 p0.Classes_.length c17], .agg #[.int .i64 p1.Sure_, .int .i64 p1.Tie_, .int .i64 p1.Grace_, .int .i64 p1.Depth_, .int .i64 p1.Nodes_, .int .i64 p1.Units_, .bool p1.Two_], .agg #[.slice a22 p2.Nodes_.length c23, .int .i64 p2.Seen_]]) Tryz.func235 rfl Tryz.ntmps235 rfl (St.init w []) <| c_seq <| c_reg <| ob [.slice a14 p0.Attrs_.length c15, .slice a16 p0.Classes_.length c17] rfl fun b24 => ob [.int .i64 p1.Sure_, .int .i64 p1.Tie_, .int .i64 p1.Grace_, .int .i64 p1.Depth_, .int .i64 p1.Nodes_, .int .i64 p1.Units_, .bool p1.Two_] rfl fun b25 => ob [.slice a22 p2.Nodes_.length c23, .int .i64 p2.Seen_] rfl fun b26 => ow_batch [.p] rfl <| ow_nil <| x_qs <| c_seq <| c_regQ mixed (by kernel_rfl) <| o1 rfl (rx 0 0 [.slice a14 p0.Attrs_.length c15, .slice a16 p0.Classes_.length c17] rfl ty35 rfl) <| o1 rfl (rx 0 2 [.slice a22 p2.Nodes_.length c23, .int .i64 p2.Seen_] rfl ty39 rfl) <| bE H fun y27 h28 H => oq rfl (qc rfl fn59 (fun w1 hw1 => impl_TreeOk_ok w1 (cs0 := [.slice a14 p0.Attrs_.length c15, .slice a16 p0.Classes_.length c17]) (cs1 := [.slice a22 p2.Nodes_.length c23, .int .i64 p2.Seen_]) h28 (rdm_Timpl_Schema (x := p0) (c0 := [.slice a14 p0.Attrs_.length c15]) (c1 := [.slice a16 p0.Classes_.length c17]) (rds_bor g12 w1 hw1) (rds_bor g13 w1 hw1)) (rdm_Timpl_Tree (x := p2) (c0 := [.slice a22 p2.Nodes_.length c23]) (c1 := [.int .i64 p2.Seen_]) (rds_bor g20 w1 hw1) rfl))) tt2 <| ow_batch [.p] rfl <| bE H fun u29 hu33 H => ow_cut [(13, .bool u29), (4, .pointer (some ⟨b25, 0, none⟩)), (5, .pointer (some ⟨b26, 0, none⟩)), (6, .bool false)] 3 ?_ (fun key => OW.sub (R := [(4, .pointer (some ⟨b25, 0, none⟩)), (5, .pointer (some ⟨b26, 0, none⟩)), (6, .bool false), (10, .bool y27)]) ?_ (sb rfl))
 ·refine ow_batch [.p] rfl <| ow_cut [(21, .bool (u29 && (decide ((p2.Nodes_.length : Int) ≤ p1.Nodes_)))), (4, .pointer (some ⟨b25, 0, none⟩)), (5, .pointer (some ⟨b26, 0, none⟩)), (6, .bool false)] 7 ?_ (fun key => OW.sub (R := [(4, .pointer (some ⟨b25, 0, none⟩)), (5, .pointer (some ⟨b26, 0, none⟩)), (6, .bool false), (14, .bool u29)]) ?_ (sb rfl))
  ·refine ow_batch [.p] rfl <| bE H fun u36 hu40 H => ow_cut [(28, .bool u36), (4, .pointer (some ⟨b25, 0, none⟩)), (5, .pointer (some ⟨b26, 0, none⟩)), (6, .bool false)] 6 ?_ (fun key => OW.sub (R := [(4, .pointer (some ⟨b25, 0, none⟩)), (5, .pointer (some ⟨b26, 0, none⟩)), (6, .bool false), (22, .bool (u29 && (decide ((p2.Nodes_.length : Int) ≤ p1.Nodes_))))]) ?_ (sb rfl))
   ·refine ow_batch [.p] rfl <| bE H fun u41 hu45 H => ow_cut [(35, .bool u41), (6, .bool false)] 6 ?_ (fun key => OW.sub (R := [(4, .pointer (some ⟨b25, 0, none⟩)), (5, .pointer (some ⟨b26, 0, none⟩)), (6, .bool false), (29, .bool u36)]) ?_ (sb rfl))
    ·exact ow_batch [.p] rfl <| ow_nilQ <| x_qs <| c_ret <| xr 6 rfl (by cases H; exact q1)
    ·clear H
     have H := hu45
     clear hu45
     generalize u36 = t44 at H key ⊢
     cases t44
     ·have H := of_if_f rfl H
      refine ow_batch [.p, .p, .p, .p, .p, .p] rfl ?_
      obtain rfl := of_some H
      exact OW.sub key (sb rfl)
     ·have H := of_if_t rfl H
      refine o1 rfl (rx 0 2 [.slice a22 p2.Nodes_.length c23, .int .i64 p2.Seen_] rfl ty39 rfl) <| bE H fun y42 h43 H => oq rfl (qc rfl fn255 (fun w1 hw1 => impl_TreeUnits_ok w1 (cs0 := [.slice a22 p2.Nodes_.length c23, .int .i64 p2.Seen_]) h43 (rdm_Timpl_Tree (x := p2) (c0 := [.slice a22 p2.Nodes_.length c23]) (c1 := [.int .i64 p2.Seen_]) (rds_bor g20 w1 hw1) rfl))) tt2 <| ow_batch [.fa 53 5 5 fa53_5] rfl <| o1 rfl (r1 5 1 rfl ty3 rfl) <| ow_batch [.p] rfl <| ow_batch [.p] rfl <| ?_
      obtain rfl := of_some H
      exact OW.sub key (sb rfl)
   ·clear H
    have H := hu40
    clear hu40
    generalize (u29 && (decide ((p2.Nodes_.length : Int) ≤ p1.Nodes_))) = t39 at H key ⊢
    cases t39
    ·have H := of_if_f rfl H
     refine ow_batch [.p, .p, .p, .p, .p, .p] rfl ?_
     obtain rfl := of_some H
     exact OW.sub key (sb rfl)
    ·have H := of_if_t rfl H
     refine o1 rfl (rx 0 2 [.slice a22 p2.Nodes_.length c23, .int .i64 p2.Seen_] rfl ty39 rfl) <| bE H fun y37 h38 H => oq rfl (qc rfl fn254 (fun w1 hw1 => impl_DepthOf_ok w1 (cs0 := [.slice a22 p2.Nodes_.length c23, .int .i64 p2.Seen_]) h38 (rdm_Timpl_Tree (x := p2) (c0 := [.slice a22 p2.Nodes_.length c23]) (c1 := [.int .i64 p2.Seen_]) (rds_bor g20 w1 hw1) rfl))) tt2 <| ow_batch [.fa 53 3 3 fa53_3] rfl <| o1 rfl (r1 3 1 rfl ty3 rfl) <| ow_batch [.p] rfl <| ow_batch [.p] rfl <| ?_
     obtain rfl := of_some H
     exact OW.sub key (sb rfl)
  ·generalize u29 = t35 at key ⊢
   cases t35
   ·exact ow_batch [.p, .p, .p, .p, .p, .p, .p] rfl <| OW.sub key (sb rfl)
   ·exact ow_batch [.fa 39 0 0 fa39_0] rfl <| o1 rfl (r1 0 2 rfl ty37 rfl) <| ow_batch [.lenS 37 118 sl37, .fa 53 4 4 fa53_4] rfl <| o1 rfl (r1 4 1 rfl ty3 rfl) <| ow_batch [.p] rfl <| ow_batch [.p] rfl <| OW.sub key (sb rfl)
 ·clear H
  have H := hu33
  clear hu33
  generalize y27 = t32 at H key ⊢
  cases t32
  ·have H := of_if_f rfl H
   refine ow_batch [.p, .p, .p] rfl ?_
   obtain rfl := of_some H
   exact OW.sub key (sb rfl)
  ·have H := of_if_t rfl H
   refine o1 rfl (rx 0 1 [.int .i64 p1.Sure_, .int .i64 p1.Tie_, .int .i64 p1.Grace_, .int .i64 p1.Depth_, .int .i64 p1.Nodes_, .int .i64 p1.Units_, .bool p1.Two_] rfl ty53 rfl) <| bE H fun y30 h31 H => oq rfl (qc rfl fn81 (fun w1 hw1 => impl_RuleOk_ok w1 (p0 := p1) h31)) tt2 <| ow_batch [.p] rfl <| ?_
   obtain rfl := of_some H
   exact OW.sub key (sb rfl)
theorem impl_WindowOk_1_ok (w : World) {p0 : Int} {p1 : Int} {q_1 : Addr} {cs_1 : List Value} {r : Bool} (H : impl_WindowOk_1 p0 p1 = some r)  (g_1 : (eVal (Value.int .i64) (fun _ => rfl)).rd w [] p1 cs_1) (hA_1 : At w [] q_1 cs_1) :
    Calls Tryz.prog 272 #[.int .i64 p0, .pointer (some q_1)] w (fun en w' => en = .returned (.bool r) ∧ Ext [] w w') := by
 obtain rfl : cs_1 = [.int .i64 p1] := g_1
 unfold impl_WindowOk_1 at H
 exact f_enter (vs := [.int .i64 p0, .pointer (some q_1)]) Tryz.func272 rfl Tryz.ntmps272 rfl (St.init w []) <| c_seq <| c_reg <| ow_batch [.p] rfl <| ow_nil <| x_qs <| c_seq <| c_reg <| ow_batch [.p] rfl <| o1 rfl (ry_load1 rfl rfl ty3 (at_bor bor hA_1)) <| bE H fun x10 h11 H => o1 rfl (ry_shl rfl rfl rfl h11) <| bE H fun y12 h13 H => oq rfl (qc rfl fn91 (fun w1 hw1 => impl_within_ok w1  h13)) tt2 <| ow_batch [.p, .p] rfl <| ow_nil <| x_qs <| c_ret <| xr 3 rfl (by cases H; exact q1)
theorem lib_slices_IndexFunc___int_int___impl_WindowOk_1_ok (w : World) {p0 : List Int} {p1_0 : Int} {a_0 : Option Addr} {n_0 c_0 : Nat} {q_1_0 : Addr} {cs_1_0 : List Value} {r : Int} (H : lib_slices_IndexFunc___int_int___impl_WindowOk_1 p0 p1_0 = some r)  (g0 : (eList (eVal (Value.int .i64) (fun _ => rfl)) 3).rd w [] p0 [.slice a_0 n_0 c_0]) (g_1_0 : (eVal (Value.int .i64) (fun _ => rfl)).rd w [] p1_0 cs_1_0) (hA_1_0 : At w [] q_1_0 cs_1_0) :
    Calls Tryz.prog 238 #[.slice a_0 n_0 c_0, .func (.func 272) #[] #[.pointer (some q_1_0)]] w (fun en w' => en = .returned (.int .i64 r) ∧ Ext [] w w') := by
 obtain rfl := rd_n g0
 obtain rfl : cs_1_0 = [.int .i64 p1_0] := g_1_0
 unfold lib_slices_IndexFunc___int_int___impl_WindowOk_1 at H
 refine f_enter (vs := [.slice a_0 p0.length c_0, .func (.func 272) #[] #[.pointer (some q_1_0)]]) Tryz.func238 rfl Tryz.ntmps238 rfl (St.init w []) <| c_seq <| c_reg <| ow_batch [.p] rfl <| ow_nil <| x_qs <| c_seq <| c_seq <| c_reg <| ow_batch [.p, .lenS 59 3 sl59, .p] rfl <| ow_nil <| x_qs <| c_block <| CW.at (loopI1 (fun (i15 : Int) => St w [] []) (fun (i15 : Int) => [(0, .slice a_0 p0.length c_0), (1, .func (.func 272) #[] #[.pointer (some q_1_0)]), (7, .int .i64 (p0.length : Int)), (8, .int .i64 i15)]) (fun kk => fun (i15 : Int) => lib_slices_IndexFunc___int_int___impl_WindowOk_1_L1 p0 p1_0 kk i15 = some r) (fun _ H => ?_) (fun k1 ihk1 i15 H => ?_) Fuel (0) (H)) (fun _ h => St.sel [] rfl rfl h) ⟨rfl, rfl, rfl, rfl,  trivial⟩
 ·unfold lib_slices_IndexFunc___int_int___impl_WindowOk_1_L1 at H
  exact absurd H (by simp)
 ·unfold lib_slices_IndexFunc___int_int___impl_WindowOk_1_L1 at H
  refine c_seq <| c_reg <| ow_batch [.p] rfl <| ow_nil <| x_qs <| c_seq <| cI H rfl (fun H => ?_) (fun H => ?_)
  ·refine c_skip <| x_qs <| c_seq <| c_block <| c_seq <| c_reg <| ow_batch [.p, .p] rfl <| ow_nil <| x_qs <| c_seq <| c_reg <| ow_batch [.p, .p, .p] rfl <| bE H fun e21 h22 H => ow_ixE (e := eVal (Value.int .i64) (fun _ => rfl)) (xs := p0) (j := i15) rfl rfl rfl rfl rfl sl59 ty3 rfl (fun w1 hw1 => rds_bor g0 w1 hw1) h22 (by rw [Nat.mul_one]) <| o1 rfl (ry_load1 rfl rfl ty3 (at_elV (fun w1 hw1 => rds_bor g0 w1 hw1) h22)) <| bE H fun y23 h24 H => ow_q rfl rfl (dstOk_lt rfl) (qy_callV (cap := [.pointer (some q_1_0)]) rfl fn272 rfl rfl (fun w1 hw1 => impl_WindowOk_1_ok w1 (cs_1 := [.int .i64 p1_0]) h24 rfl (at_bor bor hA_1_0 w1 hw1))) (fun _ _ => trivial) <| ow_nil <| x_qs <| cI H rfl (fun H => ?_) (fun H => ?_)
   ·exact c_seq <| c_reg <| ow_batch [.p, .p] rfl <| ow_nil <| x_qs <| c_ret <| x_qb_ret <| x_qs_ret <| x_ql_ret <| x_qb_ret <| x_qs_ret <| xr 4 rfl (by cases H; exact q1)
   ·exact c_skip <| x_qb <| x_qs <| c_reg <| ow_batch [.p, .p] rfl <| ow_nil <| x_ql (RW.at (ihk1 (IntKind.i64.wrap (i15 + 1)) (H)) (fun _ h => St.sel [] rfl rfl h) ⟨rfl, rfl, rfl, rfl, trivial⟩)
  ·exact c_exit <| x_qs_exit <| x_ql_exit <| x_qb_here <| x_qs <| c_seq <| c_reg <| ow_batch [.p] rfl <| ow_nil <| x_qs <| c_ret <| xr 4 rfl (by cases H; exact q1)
theorem lib_slices_ContainsFunc___int_int___impl_WindowOk_1_ok (w : World) {p0 : List Int} {p1_0 : Int} {a_0 : Option Addr} {n_0 c_0 : Nat} {q_1_0 : Addr} {cs_1_0 : List Value} {r : Bool} (H : lib_slices_ContainsFunc___int_int___impl_WindowOk_1 p0 p1_0 = some r)  (g0 : (eList (eVal (Value.int .i64) (fun _ => rfl)) 3).rd w [] p0 [.slice a_0 n_0 c_0]) (g_1_0 : (eVal (Value.int .i64) (fun _ => rfl)).rd w [] p1_0 cs_1_0) (hA_1_0 : At w [] q_1_0 cs_1_0) :
    Calls Tryz.prog 188 #[.slice a_0 n_0 c_0, .func (.func 272) #[] #[.pointer (some q_1_0)]] w (fun en w' => en = .returned (.bool r) ∧ Ext [] w w') := by
 obtain rfl := rd_n g0
 obtain rfl : cs_1_0 = [.int .i64 p1_0] := g_1_0
 unfold lib_slices_ContainsFunc___int_int___impl_WindowOk_1 at H
 exact f_enter (vs := [.slice a_0 p0.length c_0, .func (.func 272) #[] #[.pointer (some q_1_0)]]) Tryz.func188 rfl Tryz.ntmps188 rfl (St.init w []) <| c_seq <| c_reg <| ow_batch [.p] rfl <| ow_nil <| x_qs <| c_seq <| c_reg <| ow_batch [.p, .p] rfl <| bE H fun y10 h11 H => oq rfl (qc rfl fn238 (fun w1 hw1 => lib_slices_IndexFunc___int_int___impl_WindowOk_1_ok w1 (cs_1_0 := [.int .i64 p1_0]) h11 (rds_bor g0 w1 hw1) rfl (at_bor bor hA_1_0 w1 hw1))) tt2 <| ow_batch [.p, .p] rfl <| ow_nil <| x_qs <| c_ret <| xr 4 rfl (by cases H; exact q1)
theorem impl_WindowOk_ok (w : World) {p0 : Timpl_Window} {cs0 : List Value} {r : Bool} (H : impl_WindowOk p0 = some r)  (g0 : (eTimpl_Window).rd w [] p0 cs0) :
    Calls Tryz.prog 256 #[.agg cs0.toArray] w (fun en w' => en = .returned (.bool r) ∧ Ext [] w w') := by
 obtain ⟨c10, rfl, g11⟩ := rdo_Timpl_Window g0
 obtain ⟨a12, c13, rfl⟩ := rd_sl1 g11
 unfold impl_WindowOk at H
 refine f_enter (vs := [.agg #[.slice a12 p0.Rows_.length c13]]) Tryz.func256 rfl Tryz.ntmps256 rfl (St.init w []) <| c_seq <| c_reg <| ob [.slice a12 p0.Rows_.length c13] rfl fun b14 => ow_batch [.p] rfl <| ow_nil <| x_qs <| c_seq <| c_seq <| c_reg <| ow_batch [.fa 212 0 0 fa212_0] rfl <| o1 rfl (r1 0 0 rfl ty60 rfl) <| ow_batch [.lenS 60 59 sl60, .p] rfl <| ow_nil <| x_qs <| cI H rfl (fun H => ?_) (fun H => ?_)
 ·exact c_seq <| c_reg <| ow_batch [.p] rfl <| ow_nil <| x_qs <| c_ret <| x_qs_ret <| xr 2 rfl (by cases H; exact q1)
 ·refine c_skip <| x_qs <| c_seq <| c_seq <| c_reg <| ow_batch [.fa 212 0 0 fa212_0] rfl <| o1 rfl (r1 0 0 rfl ty60 rfl) <| ow_batch [.lenS 60 59 sl60, .p] rfl <| ow_nil <| x_qs <| c_block <| CW.at (loopI1 (fun (i33 : Int) => St w [] []) (fun (i33 : Int) => [(10, .slice a12 p0.Rows_.length c13), (11, .int .i64 (p0.Rows_.length : Int)), (12, .int .i64 i33)]) (fun kk => fun (i33 : Int) => impl_WindowOk_L1 p0 kk i33 = some r) (fun _ H => ?_) (fun k1 ihk1 i33 H => ?_) Fuel (0) (H)) (fun _ h => St.sel [] rfl rfl h) ⟨rfl, rfl, rfl,  trivial⟩
  ·unfold impl_WindowOk_L1 at H
   exact absurd H (by simp)
  ·unfold impl_WindowOk_L1 at H
   refine c_seq <| c_reg <| ow_batch [.p] rfl <| ow_nil <| x_qs <| c_seq <| cI H rfl (fun H => ?_) (fun H => ?_)
   ·refine c_skip <| x_qs <| c_seq <| c_block <| c_seq <| c_reg <| ow_batch [.p] rfl <| bE H fun e51 h52 H => ow_ixB rfl rfl rfl rfl rfl sl60 ty59 rfl g11 h52 fun q55 c56 hd53 hA54 => ?_
    obtain ⟨a57, c58, rfl⟩ := rd_sl1 hd53
    refine o1 rfl (ry_load1 rfl rfl ty59 (at_bor bor hA54)) <| ow_alloc rfl rfl rfl rfl ty3 (fun _ => kp) fun b59 => sC 0 [.int .i64 i33] [_] 0 rfl ty3 rfl <| ow_batch [.p] rfl <| ow_nil <| x_qs <| c_seq <| c_reg <| ow_batch [.p, .lenS 59 3 sl59] rfl <| bE H fun y60 h61 H => oq rfl (qc rfl fn91 (fun w1 hw1 => impl_within_ok w1  h61)) tt2 <| ow_batch [.p, .p] rfl <| bE H fun u62 hu66 H => ow_cut [(25, .bool u62), (10, .slice a12 p0.Rows_.length c13), (11, .int .i64 (p0.Rows_.length : Int)), (12, .int .i64 i33)] 4 ?_ (fun key => OW.sub (R := [(3, .pointer (some ⟨b59, 0, none⟩)), (4, .slice a57 e51.length c58), (10, .slice a12 p0.Rows_.length c13), (11, .int .i64 (p0.Rows_.length : Int)), (12, .int .i64 i33), (21, .bool (!y60))]) ?_ (sb rfl))
    ·refine ow_nil <| x_qs <| cI H rfl (fun H => ?_) (fun H => ?_)
     ·exact c_seq <| c_reg <| ow_batch [.p] rfl <| ow_nil <| x_qs <| c_ret <| x_qb_ret <| x_qs_ret <| x_ql_ret <| x_qb_ret <| x_qs_ret <| xr 2 rfl (by cases H; exact q1)
     ·exact c_skip <| x_qb <| x_qs <| c_reg <| ow_batch [.p, .p] rfl <| ow_nil <| x_ql (RW.at (ihk1 (IntKind.i64.wrap (i33 + 1)) (H)) (fun _ h => St.sel [] rfl rfl h) ⟨rfl, rfl, rfl, trivial⟩)
    ·clear H
     have H := hu66
     clear hu66
     generalize (!y60) = t65 at H key ⊢
     cases t65
     ·have H := of_if_f rfl H
      refine ow_batch [.p] rfl <| o1 rfl (ry_makeFunc rfl rfl) <| bE H fun y63 h64 H => oq rfl (qc rfl fn188 (fun w1 hw1 => lib_slices_ContainsFunc___int_int___impl_WindowOk_1_ok w1 (cs_1_0 := [.int .i64 i33]) h64 (rds_bor hd53 w1 hw1) rfl (at_box (T := 3) 0 (boxIn (i := 0) rfl) rfl w1 hw1))) tt2 <| ow_batch [.p] rfl <| ?_
      obtain rfl := of_some H
      exact OW.sub key (sb rfl)
     ·have H := of_if_t rfl H
      refine ow_batch [.p, .p, .p, .p] rfl ?_
      obtain rfl := of_some H
      exact OW.sub key (sb rfl)
   ·exact c_exit <| x_qs_exit <| x_ql_exit <| x_qb_here <| x_qs <| c_seq <| c_reg <| ow_batch [.p] rfl <| ow_nil <| x_qs <| c_ret <| xr 2 rfl (by cases H; exact q1)
theorem impl_DetOk_ok (w : World) {p0 : Timpl_Det} {cs0 : List Value} {r : Bool} (H : impl_DetOk p0 = some r)  (g0 : (eTimpl_Det).rd w [] p0 cs0) :
    Calls Tryz.prog 236 #[.agg cs0.toArray] w (fun en w' => en = .returned (.bool r) ∧ Ext [] w w') := by
 obtain ⟨c10, c11, rfl, g12, g13⟩ := rdo_Timpl_Det g0
 obtain ⟨c14, rfl, g15⟩ := rdo_Timpl_Window g12
 obtain ⟨a16, c17, rfl⟩ := rd_sl1 g15
 obtain ⟨c18, rfl, g19⟩ := rdo_Timpl_Window g13
 obtain ⟨a20, c21, rfl⟩ := rd_sl1 g19
 unfold impl_DetOk at H
 refine f_enter (vs := [.agg #[.slice a16 p0.Warn_.Rows_.length c17, .slice a20 p0.Drift_.Rows_.length c21]]) Tryz.func236 rfl Tryz.ntmps236 rfl (St.init w []) <| c_seq <| c_reg <| ob [.slice a16 p0.Warn_.Rows_.length c17, .slice a20 p0.Drift_.Rows_.length c21] rfl fun b22 => ow_batch [.p] rfl <| ow_nil <| x_qs <| c_seq <| c_reg <| ow_batch [.fa 214 0 0 fa214_0] rfl <| o1 rfl (rx 0 0 [.slice a16 p0.Warn_.Rows_.length c17] rfl ty212 rfl) <| bE H fun y23 h24 H => oq rfl (qc rfl fn256 (fun w1 hw1 => impl_WindowOk_ok w1 (cs0 := [.slice a16 p0.Warn_.Rows_.length c17]) h24 (rdm_Timpl_Window (x := p0.Warn_) (c0 := [.slice a16 p0.Warn_.Rows_.length c17]) (rds_bor g15 w1 hw1)))) tt2 <| ow_batch [.p] rfl <| bE H fun u25 hu29 H => ow_cut [(10, .bool u25), (2, .bool false)] 4 ?_ (fun key => OW.sub (R := [(1, .pointer (some ⟨b22, 0, none⟩)), (2, .bool false), (6, .bool y23)]) ?_ (sb rfl))
 ·exact ow_batch [.p] rfl <| ow_nil <| x_qs <| c_ret <| xr 2 rfl (by cases H; exact q1)
 ·clear H
  have H := hu29
  clear hu29
  generalize y23 = t28 at H key ⊢
  cases t28
  ·have H := of_if_f rfl H
   refine ow_batch [.p, .p, .p, .p] rfl ?_
   obtain rfl := of_some H
   exact OW.sub key (sb rfl)
  ·have H := of_if_t rfl H
   refine ow_batch [.fa 214 1 1 fa214_1] rfl <| o1 rfl (rx 1 0 [.slice a20 p0.Drift_.Rows_.length c21] rfl ty212 rfl) <| bE H fun y26 h27 H => oq rfl (qc rfl fn256 (fun w1 hw1 => impl_WindowOk_ok w1 (cs0 := [.slice a20 p0.Drift_.Rows_.length c21]) h27 (rdm_Timpl_Window (x := p0.Drift_) (c0 := [.slice a20 p0.Drift_.Rows_.length c21]) (rds_bor g19 w1 hw1)))) tt2 <| ow_batch [.p] rfl <| ?_
   obtain rfl := of_some H
   exact OW.sub key (sb rfl)
theorem impl_NodeSame_ok (w : World) {p0 : Timpl_Node} {p1 : Timpl_Node} {cs0 : List Value} {cs1 : List Value} {r : Bool} (H : impl_NodeSame p0 p1 = some r)  (g0 : (eTimpl_Node).rd w [] p0 cs0) (g1 : (eTimpl_Node).rd w [] p1 cs1) :
    Calls Tryz.prog 258 #[.agg cs0.toArray, .agg cs1.toArray] w (fun en w' => en = .returned (.bool r) ∧ Ext [] w w') := by
 obtain ⟨c10, c11, c12, c13, c14, c15, c16, c17, c18, c19, rfl, g20, g21, g22, g23, g24, g25, g26, g27, g28, g29⟩ := rdo_Timpl_Node g0
 obtain rfl : c10 = [.bool p0.Leaf_] := g20
 obtain rfl : c11 = [.int .i64 p0.Fork_.Attr_, .int .i64 p0.Fork_.At_] := g21
 obtain ⟨a30, c31, rfl⟩ := rd_sl1 g22
 obtain rfl : c13 = [.int .i64 p0.Miss_] := g23
 obtain ⟨c32, c33, rfl, g34, g35⟩ := rdo_Timpl_Stats g24
 obtain ⟨a36, c37, rfl⟩ := rd_sl1 g34
 obtain ⟨a38, c39, rfl⟩ := rd_sl1 g35
 obtain rfl : c15 = [.int .i64 p0.Since_] := g25
 obtain ⟨a40, c41, rfl⟩ := rd_sl1 g26
 obtain rfl : c17 = [.int .i64 p0.Depth_] := g27
 obtain rfl : c18 = [.int .i64 p0.Up_] := g28
 obtain rfl : c19 = [.int .i64 p0.Born_] := g29
 obtain ⟨c42, c43, c44, c45, c46, c47, c48, c49, c50, c51, rfl, g52, g53, g54, g55, g56, g57, g58, g59, g60, g61⟩ := rdo_Timpl_Node g1
 obtain rfl : c42 = [.bool p1.Leaf_] := g52
 obtain rfl : c43 = [.int .i64 p1.Fork_.Attr_, .int .i64 p1.Fork_.At_] := g53
 obtain ⟨a62, c63, rfl⟩ := rd_sl1 g54
 obtain rfl : c45 = [.int .i64 p1.Miss_] := g55
 obtain ⟨c64, c65, rfl, g66, g67⟩ := rdo_Timpl_Stats g56
 obtain ⟨a68, c69, rfl⟩ := rd_sl1 g66
 obtain ⟨a70, c71, rfl⟩ := rd_sl1 g67
 obtain rfl : c47 = [.int .i64 p1.Since_] := g57
 obtain ⟨a72, c73, rfl⟩ := rd_sl1 g58
 obtain rfl : c49 = [.int .i64 p1.Depth_] := g59
 obtain rfl : c50 = [.int .i64 p1.Up_] := g60
 obtain rfl : c51 = [.int .i64 p1.Born_] := g61
 unfold impl_NodeSame at H
 refine f_enter (vs := [.agg #[.bool p0.Leaf_, .int .i64 p0.Fork_.Attr_, .int .i64 p0.Fork_.At_, .slice a30 p0.Kids_.length c31, .int .i64 p0.Miss_, .slice a36 p0.Stats_.Totals_.length c37, .slice a38 p0.Stats_.Cells_.length c39, .int .i64 p0.Since_, .slice a40 p0.Attrs_.length c41, .int .i64 p0.Depth_, .int .i64 p0.Up_, .int .i64 p0.Born_], .agg #[.bool p1.Leaf_, .int .i64 p1.Fork_.Attr_, .int .i64 p1.Fork_.At_, .slice a62 p1.Kids_.length c63, .int .i64 p1.Miss_, .slice a68 p1.Stats_.Totals_.length c69, .slice a70 p1.Stats_.Cells_.length c71, .int .i64 p1.Since_, .slice a72 p1.Attrs_.length c73, .int .i64 p1.Depth_, .int .i64 p1.Up_, .int .i64 p1.Born_]]) Tryz.func258 rfl Tryz.ntmps258 rfl (St.init w []) <| c_seq <| c_reg <| ob [.bool p0.Leaf_, .int .i64 p0.Fork_.Attr_, .int .i64 p0.Fork_.At_, .slice a30 p0.Kids_.length c31, .int .i64 p0.Miss_, .slice a36 p0.Stats_.Totals_.length c37, .slice a38 p0.Stats_.Cells_.length c39, .int .i64 p0.Since_, .slice a40 p0.Attrs_.length c41, .int .i64 p0.Depth_, .int .i64 p0.Up_, .int .i64 p0.Born_] rfl fun b74 => ob [.bool p1.Leaf_, .int .i64 p1.Fork_.Attr_, .int .i64 p1.Fork_.At_, .slice a62 p1.Kids_.length c63, .int .i64 p1.Miss_, .slice a68 p1.Stats_.Totals_.length c69, .slice a70 p1.Stats_.Cells_.length c71, .int .i64 p1.Since_, .slice a72 p1.Attrs_.length c73, .int .i64 p1.Depth_, .int .i64 p1.Up_, .int .i64 p1.Born_] rfl fun b75 => ow_batch [.p] rfl <| ow_nil <| x_qs <| c_seq <| c_reg <| ow_batch [.fa 118 0 0 fa118_0] rfl <| o1 rfl (r1 0 0 rfl ty4 rfl) <| ow_batch [.fa 118 0 0 fa118_0] rfl <| o1 rfl (r1 0 1 rfl ty4 rfl) <| o1 rfl (ry_beql rfl rfl rfl bl4) <| ow_batch [.p] rfl <| ow_cut [(16, .bool ((p0.Leaf_ == p1.Leaf_) && (p0.Fork_.Attr_ == p1.Fork_.Attr_ && (p0.Fork_.At_ == p1.Fork_.At_ && true)))), (2, .pointer (some ⟨b74, 0, none⟩)), (3, .pointer (some ⟨b75, 0, none⟩)), (4, .bool false)] 6 ?_ (fun key => OW.sub (R := [(2, .pointer (some ⟨b74, 0, none⟩)), (3, .pointer (some ⟨b75, 0, none⟩)), (4, .bool false), (10, .bool (p0.Leaf_ == p1.Leaf_))]) ?_ (sb rfl))
 ·refine ow_batch [.p] rfl <| bE H fun u78 hu82 H => ow_cut [(23, .bool u78), (2, .pointer (some ⟨b74, 0, none⟩)), (3, .pointer (some ⟨b75, 0, none⟩)), (4, .bool false)] 6 ?_ (fun key => OW.sub (R := [(2, .pointer (some ⟨b74, 0, none⟩)), (3, .pointer (some ⟨b75, 0, none⟩)), (4, .bool false), (17, .bool ((p0.Leaf_ == p1.Leaf_) && (p0.Fork_.Attr_ == p1.Fork_.Attr_ && (p0.Fork_.At_ == p1.Fork_.At_ && true))))]) ?_ (sb rfl))
  ·refine ow_batch [.p] rfl <| ow_cut [(30, .bool (u78 && (p0.Miss_ == p1.Miss_))), (2, .pointer (some ⟨b74, 0, none⟩)), (3, .pointer (some ⟨b75, 0, none⟩)), (4, .bool false)] 6 ?_ (fun key => OW.sub (R := [(2, .pointer (some ⟨b74, 0, none⟩)), (3, .pointer (some ⟨b75, 0, none⟩)), (4, .bool false), (24, .bool u78)]) ?_ (sb rfl))
   ·refine ow_batch [.p] rfl <| bE H fun u85 hu89 H => ow_cut [(37, .bool u85), (2, .pointer (some ⟨b74, 0, none⟩)), (3, .pointer (some ⟨b75, 0, none⟩)), (4, .bool false)] 6 ?_ (fun key => OW.sub (R := [(2, .pointer (some ⟨b74, 0, none⟩)), (3, .pointer (some ⟨b75, 0, none⟩)), (4, .bool false), (31, .bool (u78 && (p0.Miss_ == p1.Miss_)))]) ?_ (sb rfl))
    ·refine ow_batch [.p] rfl <| ow_cut [(44, .bool (u85 && (p0.Since_ == p1.Since_))), (2, .pointer (some ⟨b74, 0, none⟩)), (3, .pointer (some ⟨b75, 0, none⟩)), (4, .bool false)] 6 ?_ (fun key => OW.sub (R := [(2, .pointer (some ⟨b74, 0, none⟩)), (3, .pointer (some ⟨b75, 0, none⟩)), (4, .bool false), (38, .bool u85)]) ?_ (sb rfl))
     ·refine ow_batch [.p] rfl <| bE H fun u92 hu96 H => ow_cut [(51, .bool u92), (2, .pointer (some ⟨b74, 0, none⟩)), (3, .pointer (some ⟨b75, 0, none⟩)), (4, .bool false)] 6 ?_ (fun key => OW.sub (R := [(2, .pointer (some ⟨b74, 0, none⟩)), (3, .pointer (some ⟨b75, 0, none⟩)), (4, .bool false), (45, .bool (u85 && (p0.Since_ == p1.Since_)))]) ?_ (sb rfl))
      ·refine ow_batch [.p] rfl <| ow_cut [(58, .bool (u92 && (p0.Depth_ == p1.Depth_))), (2, .pointer (some ⟨b74, 0, none⟩)), (3, .pointer (some ⟨b75, 0, none⟩)), (4, .bool false)] 6 ?_ (fun key => OW.sub (R := [(2, .pointer (some ⟨b74, 0, none⟩)), (3, .pointer (some ⟨b75, 0, none⟩)), (4, .bool false), (52, .bool u92)]) ?_ (sb rfl))
       ·refine ow_batch [.p] rfl <| ow_cut [(65, .bool ((u92 && (p0.Depth_ == p1.Depth_)) && (p0.Up_ == p1.Up_))), (2, .pointer (some ⟨b74, 0, none⟩)), (3, .pointer (some ⟨b75, 0, none⟩)), (4, .bool false)] 6 ?_ (fun key => OW.sub (R := [(2, .pointer (some ⟨b74, 0, none⟩)), (3, .pointer (some ⟨b75, 0, none⟩)), (4, .bool false), (59, .bool (u92 && (p0.Depth_ == p1.Depth_)))]) ?_ (sb rfl))
        ·refine ow_batch [.p] rfl <| ow_cut [(72, .bool (((u92 && (p0.Depth_ == p1.Depth_)) && (p0.Up_ == p1.Up_)) && (p0.Born_ == p1.Born_))), (4, .bool false)] 6 ?_ (fun key => OW.sub (R := [(2, .pointer (some ⟨b74, 0, none⟩)), (3, .pointer (some ⟨b75, 0, none⟩)), (4, .bool false), (66, .bool ((u92 && (p0.Depth_ == p1.Depth_)) && (p0.Up_ == p1.Up_)))]) ?_ (sb rfl))
         ·exact ow_batch [.p] rfl <| ow_nil <| x_qs <| c_ret <| xr 4 rfl (by cases H; exact q1)
         ·generalize ((u92 && (p0.Depth_ == p1.Depth_)) && (p0.Up_ == p1.Up_)) = t102 at key ⊢
          cases t102
          ·exact ow_batch [.p, .p, .p, .p, .p, .p] rfl <| OW.sub key (sb rfl)
          ·exact ow_batch [.fa 118 9 11 fa118_9] rfl <| o1 rfl (r1 11 0 rfl ty3 rfl) <| ow_batch [.fa 118 9 11 fa118_9] rfl <| o1 rfl (r1 11 1 rfl ty3 rfl) <| ow_batch [.p] rfl <| ow_batch [.p] rfl <| OW.sub key (sb rfl)
        ·generalize (u92 && (p0.Depth_ == p1.Depth_)) = t100 at key ⊢
         cases t100
         ·exact ow_batch [.p, .p, .p, .p, .p, .p] rfl <| OW.sub key (sb rfl)
         ·exact ow_batch [.fa 118 8 10 fa118_8] rfl <| o1 rfl (r1 10 0 rfl ty3 rfl) <| ow_batch [.fa 118 8 10 fa118_8] rfl <| o1 rfl (r1 10 1 rfl ty3 rfl) <| ow_batch [.p] rfl <| ow_batch [.p] rfl <| OW.sub key (sb rfl)
       ·generalize u92 = t98 at key ⊢
        cases t98
        ·exact ow_batch [.p, .p, .p, .p, .p, .p] rfl <| OW.sub key (sb rfl)
        ·exact ow_batch [.fa 118 7 9 fa118_7] rfl <| o1 rfl (r1 9 0 rfl ty3 rfl) <| ow_batch [.fa 118 7 9 fa118_7] rfl <| o1 rfl (r1 9 1 rfl ty3 rfl) <| ow_batch [.p] rfl <| ow_batch [.p] rfl <| OW.sub key (sb rfl)
      ·clear H
       have H := hu96
       clear hu96
       generalize (u85 && (p0.Since_ == p1.Since_)) = t95 at H key ⊢
       cases t95
       ·have H := of_if_f rfl H
        refine ow_batch [.p, .p, .p, .p, .p, .p] rfl ?_
        obtain rfl := of_some H
        exact OW.sub key (sb rfl)
       ·have H := of_if_t rfl H
        refine ow_batch [.fa 118 6 8 fa118_6] rfl <| o1 rfl (r1 8 0 rfl ty59 rfl) <| ow_batch [.fa 118 6 8 fa118_6] rfl <| o1 rfl (r1 8 1 rfl ty59 rfl) <| bE H fun y93 h94 H => oq rfl (qc rfl fn84 (fun w1 hw1 => lib_slices_Equal___int_int__ok w1  h94 (rds_bor g26 w1 hw1) (rds_bor g58 w1 hw1))) tt2 <| ow_batch [.p] rfl <| ?_
        obtain rfl := of_some H
        exact OW.sub key (sb rfl)
     ·generalize u85 = t91 at key ⊢
      cases t91
      ·exact ow_batch [.p, .p, .p, .p, .p, .p] rfl <| OW.sub key (sb rfl)
      ·exact ow_batch [.fa 118 5 7 fa118_5] rfl <| o1 rfl (r1 7 0 rfl ty3 rfl) <| ow_batch [.fa 118 5 7 fa118_5] rfl <| o1 rfl (r1 7 1 rfl ty3 rfl) <| ow_batch [.p] rfl <| ow_batch [.p] rfl <| OW.sub key (sb rfl)
    ·clear H
     have H := hu89
     clear hu89
     generalize (u78 && (p0.Miss_ == p1.Miss_)) = t88 at H key ⊢
     cases t88
     ·have H := of_if_f rfl H
      refine ow_batch [.p, .p, .p, .p, .p, .p] rfl ?_
      obtain rfl := of_some H
      exact OW.sub key (sb rfl)
     ·have H := of_if_t rfl H
      refine ow_batch [.fa 118 4 5 fa118_4] rfl <| o1 rfl (rx 5 0 [.slice a36 p0.Stats_.Totals_.length c37, .slice a38 p0.Stats_.Cells_.length c39] rfl ty62 rfl) <| ow_batch [.fa 118 4 5 fa118_4] rfl <| o1 rfl (rx 5 1 [.slice a68 p1.Stats_.Totals_.length c69, .slice a70 p1.Stats_.Cells_.length c71] rfl ty62 rfl) <| bE H fun y86 h87 H => oq rfl (qc rfl fn86 (fun w1 hw1 => impl_StatsSame_ok w1 (cs0 := [.slice a36 p0.Stats_.Totals_.length c37, .slice a38 p0.Stats_.Cells_.length c39]) (cs1 := [.slice a68 p1.Stats_.Totals_.length c69, .slice a70 p1.Stats_.Cells_.length c71]) h87 (rdm_Timpl_Stats (x := p0.Stats_) (c0 := [.slice a36 p0.Stats_.Totals_.length c37]) (c1 := [.slice a38 p0.Stats_.Cells_.length c39]) (rds_bor g34 w1 hw1) (rds_bor g35 w1 hw1)) (rdm_Timpl_Stats (x := p1.Stats_) (c0 := [.slice a68 p1.Stats_.Totals_.length c69]) (c1 := [.slice a70 p1.Stats_.Cells_.length c71]) (rds_bor g66 w1 hw1) (rds_bor g67 w1 hw1)))) tt2 <| ow_batch [.p] rfl <| ?_
      obtain rfl := of_some H
      exact OW.sub key (sb rfl)
   ·generalize u78 = t84 at key ⊢
    cases t84
    ·exact ow_batch [.p, .p, .p, .p, .p, .p] rfl <| OW.sub key (sb rfl)
    ·exact ow_batch [.fa 118 3 4 fa118_3] rfl <| o1 rfl (r1 4 0 rfl ty3 rfl) <| ow_batch [.fa 118 3 4 fa118_3] rfl <| o1 rfl (r1 4 1 rfl ty3 rfl) <| ow_batch [.p] rfl <| ow_batch [.p] rfl <| OW.sub key (sb rfl)
  ·clear H
   have H := hu82
   clear hu82
   generalize ((p0.Leaf_ == p1.Leaf_) && (p0.Fork_.Attr_ == p1.Fork_.Attr_ && (p0.Fork_.At_ == p1.Fork_.At_ && true))) = t81 at H key ⊢
   cases t81
   ·have H := of_if_f rfl H
    refine ow_batch [.p, .p, .p, .p, .p, .p] rfl ?_
    obtain rfl := of_some H
    exact OW.sub key (sb rfl)
   ·have H := of_if_t rfl H
    refine ow_batch [.fa 118 2 3 fa118_2] rfl <| o1 rfl (r1 3 0 rfl ty59 rfl) <| ow_batch [.fa 118 2 3 fa118_2] rfl <| o1 rfl (r1 3 1 rfl ty59 rfl) <| bE H fun y79 h80 H => oq rfl (qc rfl fn84 (fun w1 hw1 => lib_slices_Equal___int_int__ok w1  h80 (rds_bor g22 w1 hw1) (rds_bor g54 w1 hw1))) tt2 <| ow_batch [.p] rfl <| ?_
    obtain rfl := of_some H
    exact OW.sub key (sb rfl)
 ·generalize (p0.Leaf_ == p1.Leaf_) = t77 at key ⊢
  cases t77
  ·exact ow_batch [.p, .p, .p, .p, .p, .p] rfl <| OW.sub key (sb rfl)
  ·exact ow_batch [.fa 118 1 1 fa118_1] rfl <| o1 rfl (rx 1 0 [.int .i64 p0.Fork_.Attr_, .int .i64 p0.Fork_.At_] rfl ty116 rfl) <| ow_batch [.fa 118 1 1 fa118_1] rfl <| o1 rfl (rx 1 1 [.int .i64 p1.Fork_.Attr_, .int .i64 p1.Fork_.At_] rfl ty116 rfl) <| o1 rfl (ry_seql (xs := [.int .i64 p0.Fork_.Attr_, .int .i64 p0.Fork_.At_]) (ys := [.int .i64 p1.Fork_.Attr_, .int .i64 p1.Fork_.At_]) rfl rfl rfl (se116 p0.Fork_.Attr_ p1.Fork_.Attr_ p0.Fork_.At_ p1.Fork_.At_)) <| ow_batch [.p] rfl <| OW.sub key (sb rfl)
theorem lib_slices_EqualFunc___impl_Node___impl_Node_impl_Node_impl_Node___impl_NodeSame_ok (w : World) {p0 : List Timpl_Node} {p1 : List Timpl_Node} {a_0 : Option Addr} {n_0 c_0 : Nat} {a_1 : Option Addr} {n_1 c_1 : Nat} {r : Bool} (H : lib_slices_EqualFunc___impl_Node___impl_Node_impl_Node_impl_Node___impl_NodeSame p0 p1 = some r)  (g0 : (eList (eTimpl_Node) 118).rd w [] p0 [.slice a_0 n_0 c_0]) (g1 : (eList (eTimpl_Node) 118).rd w [] p1 [.slice a_1 n_1 c_1]) :
    Calls Tryz.prog 257 #[.slice a_0 n_0 c_0, .slice a_1 n_1 c_1, .func (.func 258) #[] #[]] w (fun en w' => en = .returned (.bool r) ∧ Ext [] w w') := by
 obtain rfl := rd_n g0
 obtain rfl := rd_n g1
 unfold lib_slices_EqualFunc___impl_Node___impl_Node_impl_Node_impl_Node___impl_NodeSame at H
 refine f_enter (vs := [.slice a_0 p0.length c_0, .slice a_1 p1.length c_1, .func (.func 258) #[] #[]]) Tryz.func257 rfl Tryz.ntmps257 rfl (St.init w []) <| c_seq <| c_reg <| ow_batch [.p] rfl <| ow_nil <| x_qs <| c_seq <| c_seq <| c_reg <| ow_batch [.p, .lenS 37 118 sl37, .p, .lenS 37 118 sl37, .p] rfl <| ow_nil <| x_qs <| cI H rfl (fun H => ?_) (fun H => ?_)
 ·exact c_seq <| c_reg <| ow_batch [.p] rfl <| ow_nil <| x_qs <| c_ret <| x_qs_ret <| xr 6 rfl (by cases H; exact q1)
 ·refine c_skip <| x_qs <| c_seq <| c_seq <| c_reg <| ow_batch [.p, .lenS 37 118 sl37, .p] rfl <| ow_nil <| x_qs <| c_block <| CW.at (loopI1 (fun (i91 : Int) => St w [] []) (fun (i91 : Int) => [(1, .slice a_1 p1.length c_1), (2, .func (.func 258) #[] #[]), (15, .slice a_0 p0.length c_0), (16, .int .i64 (p0.length : Int)), (17, .int .i64 i91)]) (fun kk => fun (i91 : Int) => lib_slices_EqualFunc___impl_Node___impl_Node_impl_Node_impl_Node___impl_NodeSame_L1 p0 p1 kk i91 = some r) (fun _ H => ?_) (fun k1 ihk1 i91 H => ?_) Fuel (0) (H)) (fun _ h => St.sel [] rfl rfl h) ⟨rfl, rfl, rfl, rfl, rfl,  trivial⟩
  ·unfold lib_slices_EqualFunc___impl_Node___impl_Node_impl_Node_impl_Node___impl_NodeSame_L1 at H
   exact absurd H (by simp)
  ·unfold lib_slices_EqualFunc___impl_Node___impl_Node_impl_Node_impl_Node___impl_NodeSame_L1 at H
   refine c_seq <| c_reg <| ow_batch [.p] rfl <| ow_nil <| x_qs <| c_seq <| cI H rfl (fun H => ?_) (fun H => ?_)
   ·refine c_skip <| x_qs <| c_seq <| c_block <| c_seq <| c_reg <| ow_batch [.p] rfl <| bE H fun e173 h174 H => ow_ixB rfl rfl rfl rfl rfl sl37 ty118 rfl g0 h174 fun q177 c178 hd175 hA176 => ?_
    obtain ⟨c179, c180, c181, c182, c183, c184, c185, c186, c187, c188, rfl, g189, g190, g191, g192, g193, g194, g195, g196, g197, g198⟩ := rdo_Timpl_Node hd175
    obtain rfl : c179 = [.bool e173.Leaf_] := g189
    obtain rfl : c180 = [.int .i64 e173.Fork_.Attr_, .int .i64 e173.Fork_.At_] := g190
    obtain ⟨a199, c200, rfl⟩ := rd_sl1 g191
    obtain rfl : c182 = [.int .i64 e173.Miss_] := g192
    obtain ⟨c201, c202, rfl, g203, g204⟩ := rdo_Timpl_Stats g193
    obtain ⟨a205, c206, rfl⟩ := rd_sl1 g203
    obtain ⟨a207, c208, rfl⟩ := rd_sl1 g204
    obtain rfl : c184 = [.int .i64 e173.Since_] := g194
    obtain ⟨a209, c210, rfl⟩ := rd_sl1 g195
    obtain rfl : c186 = [.int .i64 e173.Depth_] := g196
    obtain rfl : c187 = [.int .i64 e173.Up_] := g197
    obtain rfl : c188 = [.int .i64 e173.Born_] := g198
    refine o1 rfl (ry_load (cs := [.bool e173.Leaf_, .int .i64 e173.Fork_.Attr_, .int .i64 e173.Fork_.At_, .slice a199 e173.Kids_.length c200, .int .i64 e173.Miss_, .slice a205 e173.Stats_.Totals_.length c206, .slice a207 e173.Stats_.Cells_.length c208, .int .i64 e173.Since_, .slice a209 e173.Attrs_.length c210, .int .i64 e173.Depth_, .int .i64 e173.Up_, .int .i64 e173.Born_]) rfl rfl ty118 (at_bor bor hA176) rfl) <| ow_alloc rfl rfl rfl rfl ty118 (fun _ => kp) fun b211 => ow_batch [.p] rfl <| sC 0 [.bool e173.Leaf_, .int .i64 e173.Fork_.Attr_, .int .i64 e173.Fork_.At_, .slice a199 e173.Kids_.length c200, .int .i64 e173.Miss_, .slice a205 e173.Stats_.Totals_.length c206, .slice a207 e173.Stats_.Cells_.length c208, .int .i64 e173.Since_, .slice a209 e173.Attrs_.length c210, .int .i64 e173.Depth_, .int .i64 e173.Up_, .int .i64 e173.Born_] [_, _, _, _, _, _, _, _, _, _, _, _] 0 rfl ty118 rfl <| ow_nil <| x_qs <| c_seq <| c_reg <| ow_batch [.p, .p] rfl <| bE H fun e212 h213 H => ow_ixB rfl rfl rfl rfl rfl sl37 ty118 rfl g1 h213 fun q216 c217 hd214 hA215 => ?_
    obtain ⟨c218, c219, c220, c221, c222, c223, c224, c225, c226, c227, rfl, g228, g229, g230, g231, g232, g233, g234, g235, g236, g237⟩ := rdo_Timpl_Node hd214
    obtain rfl : c218 = [.bool e212.Leaf_] := g228
    obtain rfl : c219 = [.int .i64 e212.Fork_.Attr_, .int .i64 e212.Fork_.At_] := g229
    obtain ⟨a238, c239, rfl⟩ := rd_sl1 g230
    obtain rfl : c221 = [.int .i64 e212.Miss_] := g231
    obtain ⟨c240, c241, rfl, g242, g243⟩ := rdo_Timpl_Stats g232
    obtain ⟨a244, c245, rfl⟩ := rd_sl1 g242
    obtain ⟨a246, c247, rfl⟩ := rd_sl1 g243
    obtain rfl : c223 = [.int .i64 e212.Since_] := g233
    obtain ⟨a248, c249, rfl⟩ := rd_sl1 g234
    obtain rfl : c225 = [.int .i64 e212.Depth_] := g235
    obtain rfl : c226 = [.int .i64 e212.Up_] := g236
    obtain rfl : c227 = [.int .i64 e212.Born_] := g237
    refine o1 rfl (ry_load (cs := [.bool e212.Leaf_, .int .i64 e212.Fork_.Attr_, .int .i64 e212.Fork_.At_, .slice a238 e212.Kids_.length c239, .int .i64 e212.Miss_, .slice a244 e212.Stats_.Totals_.length c245, .slice a246 e212.Stats_.Cells_.length c247, .int .i64 e212.Since_, .slice a248 e212.Attrs_.length c249, .int .i64 e212.Depth_, .int .i64 e212.Up_, .int .i64 e212.Born_]) rfl rfl ty118 (at_bor bor hA215) rfl) <| ow_alloc rfl rfl rfl rfl ty118 (fun _ => kp) fun b250 => sC 0 [.bool e212.Leaf_, .int .i64 e212.Fork_.Attr_, .int .i64 e212.Fork_.At_, .slice a238 e212.Kids_.length c239, .int .i64 e212.Miss_, .slice a244 e212.Stats_.Totals_.length c245, .slice a246 e212.Stats_.Cells_.length c247, .int .i64 e212.Since_, .slice a248 e212.Attrs_.length c249, .int .i64 e212.Depth_, .int .i64 e212.Up_, .int .i64 e212.Born_] [_, _, _, _, _, _, _, _, _, _, _, _] 1 rfl ty118 rfl <| ow_nil <| x_qs <| c_seq <| c_reg <| ow_batch [.p] rfl <| o1 rfl (rx 0 0 [.bool e173.Leaf_, .int .i64 e173.Fork_.Attr_, .int .i64 e173.Fork_.At_, .slice a199 e173.Kids_.length c200, .int .i64 e173.Miss_, .slice a205 e173.Stats_.Totals_.length c206, .slice a207 e173.Stats_.Cells_.length c208, .int .i64 e173.Since_, .slice a209 e173.Attrs_.length c210, .int .i64 e173.Depth_, .int .i64 e173.Up_, .int .i64 e173.Born_] rfl ty118 rfl) <| o1 rfl (rx 0 1 [.bool e212.Leaf_, .int .i64 e212.Fork_.Attr_, .int .i64 e212.Fork_.At_, .slice a238 e212.Kids_.length c239, .int .i64 e212.Miss_, .slice a244 e212.Stats_.Totals_.length c245, .slice a246 e212.Stats_.Cells_.length c247, .int .i64 e212.Since_, .slice a248 e212.Attrs_.length c249, .int .i64 e212.Depth_, .int .i64 e212.Up_, .int .i64 e212.Born_] rfl ty118 rfl) <| bE H fun y251 h252 H => ow_q rfl rfl (dstOk_lt rfl) (qy_callV (cap := []) rfl fn258 rfl rfl (fun w1 hw1 => impl_NodeSame_ok w1 (cs0 := [.bool e173.Leaf_, .int .i64 e173.Fork_.Attr_, .int .i64 e173.Fork_.At_, .slice a199 e173.Kids_.length c200, .int .i64 e173.Miss_, .slice a205 e173.Stats_.Totals_.length c206, .slice a207 e173.Stats_.Cells_.length c208, .int .i64 e173.Since_, .slice a209 e173.Attrs_.length c210, .int .i64 e173.Depth_, .int .i64 e173.Up_, .int .i64 e173.Born_]) (cs1 := [.bool e212.Leaf_, .int .i64 e212.Fork_.Attr_, .int .i64 e212.Fork_.At_, .slice a238 e212.Kids_.length c239, .int .i64 e212.Miss_, .slice a244 e212.Stats_.Totals_.length c245, .slice a246 e212.Stats_.Cells_.length c247, .int .i64 e212.Since_, .slice a248 e212.Attrs_.length c249, .int .i64 e212.Depth_, .int .i64 e212.Up_, .int .i64 e212.Born_]) h252 (rdm_Timpl_Node (x := e173) (c0 := [.bool e173.Leaf_]) (c1 := [.int .i64 e173.Fork_.Attr_, .int .i64 e173.Fork_.At_]) (c2 := [.slice a199 e173.Kids_.length c200]) (c3 := [.int .i64 e173.Miss_]) (c4 := [.slice a205 e173.Stats_.Totals_.length c206, .slice a207 e173.Stats_.Cells_.length c208]) (c5 := [.int .i64 e173.Since_]) (c6 := [.slice a209 e173.Attrs_.length c210]) (c7 := [.int .i64 e173.Depth_]) (c8 := [.int .i64 e173.Up_]) (c9 := [.int .i64 e173.Born_]) rfl rfl (rds_bor g191 w1 hw1) rfl (rdm_Timpl_Stats (x := e173.Stats_) (c0 := [.slice a205 e173.Stats_.Totals_.length c206]) (c1 := [.slice a207 e173.Stats_.Cells_.length c208]) (rds_bor g203 w1 hw1) (rds_bor g204 w1 hw1)) rfl (rds_bor g195 w1 hw1) rfl rfl rfl) (rdm_Timpl_Node (x := e212) (c0 := [.bool e212.Leaf_]) (c1 := [.int .i64 e212.Fork_.Attr_, .int .i64 e212.Fork_.At_]) (c2 := [.slice a238 e212.Kids_.length c239]) (c3 := [.int .i64 e212.Miss_]) (c4 := [.slice a244 e212.Stats_.Totals_.length c245, .slice a246 e212.Stats_.Cells_.length c247]) (c5 := [.int .i64 e212.Since_]) (c6 := [.slice a248 e212.Attrs_.length c249]) (c7 := [.int .i64 e212.Depth_]) (c8 := [.int .i64 e212.Up_]) (c9 := [.int .i64 e212.Born_]) rfl rfl (rds_bor g230 w1 hw1) rfl (rdm_Timpl_Stats (x := e212.Stats_) (c0 := [.slice a244 e212.Stats_.Totals_.length c245]) (c1 := [.slice a246 e212.Stats_.Cells_.length c247]) (rds_bor g242 w1 hw1) (rds_bor g243 w1 hw1)) rfl (rds_bor g234 w1 hw1) rfl rfl rfl))) (fun _ _ => trivial) <| ow_batch [.p] rfl <| ow_nil <| x_qs <| cI H rfl (fun H => ?_) (fun H => ?_)
    ·exact c_seq <| c_reg <| ow_batch [.p] rfl <| ow_nil <| x_qs <| c_ret <| x_qb_ret <| x_qs_ret <| x_ql_ret <| x_qb_ret <| x_qs_ret <| xr 6 rfl (by cases H; exact q1)
    ·exact c_skip <| x_qb <| x_qs <| c_reg <| ow_batch [.p, .p] rfl <| ow_nil <| x_ql (RW.at (ihk1 (IntKind.i64.wrap (i91 + 1)) (H)) (fun _ h => St.sel [] rfl rfl h) ⟨rfl, rfl, rfl, rfl, rfl, trivial⟩)
   ·exact c_exit <| x_qs_exit <| x_ql_exit <| x_qb_here <| x_qs <| c_seq <| c_reg <| ow_batch [.p] rfl <| ow_nil <| x_qs <| c_ret <| xr 6 rfl (by cases H; exact q1)
theorem impl_TreeSame_ok (w : World) {p0 : Timpl_Tree} {p1 : Timpl_Tree} {cs0 : List Value} {cs1 : List Value} {r : Bool} (H : impl_TreeSame p0 p1 = some r)  (g0 : (eTimpl_Tree).rd w [] p0 cs0) (g1 : (eTimpl_Tree).rd w [] p1 cs1) :
    Calls Tryz.prog 237 #[.agg cs0.toArray, .agg cs1.toArray] w (fun en w' => en = .returned (.bool r) ∧ Ext [] w w') := by
 obtain ⟨c10, c11, rfl, g12, g13⟩ := rdo_Timpl_Tree g0
 obtain ⟨a14, c15, rfl⟩ := rd_sl1 g12
 obtain rfl : c11 = [.int .i64 p0.Seen_] := g13
 obtain ⟨c16, c17, rfl, g18, g19⟩ := rdo_Timpl_Tree g1
 obtain ⟨a20, c21, rfl⟩ := rd_sl1 g18
 obtain rfl : c17 = [.int .i64 p1.Seen_] := g19
 unfold impl_TreeSame at H
 refine f_enter (vs := [.agg #[.slice a14 p0.Nodes_.length c15, .int .i64 p0.Seen_], .agg #[.slice a20 p1.Nodes_.length c21, .int .i64 p1.Seen_]]) Tryz.func237 rfl Tryz.ntmps237 rfl (St.init w []) <| c_seq <| c_reg <| ob [.slice a14 p0.Nodes_.length c15, .int .i64 p0.Seen_] rfl fun b22 => ob [.slice a20 p1.Nodes_.length c21, .int .i64 p1.Seen_] rfl fun b23 => ow_batch [.p] rfl <| ow_nil <| x_qs <| c_seq <| c_reg <| ow_batch [.fa 39 1 1 fa39_1] rfl <| o1 rfl (r1 1 0 rfl ty3 rfl) <| ow_batch [.fa 39 1 1 fa39_1] rfl <| o1 rfl (r1 1 1 rfl ty3 rfl) <| ow_batch [.p, .p] rfl <| bE H fun u24 hu28 H => ow_cut [(16, .bool u24), (4, .bool false)] 6 ?_ (fun key => OW.sub (R := [(2, .pointer (some ⟨b22, 0, none⟩)), (3, .pointer (some ⟨b23, 0, none⟩)), (4, .bool false), (10, .bool (p0.Seen_ == p1.Seen_))]) ?_ (sb rfl))
 ·exact ow_batch [.p] rfl <| ow_nil <| x_qs <| c_ret <| xr 4 rfl (by cases H; exact q1)
 ·clear H
  have H := hu28
  clear hu28
  generalize (p0.Seen_ == p1.Seen_) = t27 at H key ⊢
  cases t27
  ·have H := of_if_f rfl H
   refine ow_batch [.p, .p, .p, .p, .p, .p] rfl ?_
   obtain rfl := of_some H
   exact OW.sub key (sb rfl)
  ·have H := of_if_t rfl H
   refine ow_batch [.fa 39 0 0 fa39_0] rfl <| o1 rfl (r1 0 0 rfl ty37 rfl) <| ow_batch [.fa 39 0 0 fa39_0] rfl <| o1 rfl (r1 0 1 rfl ty37 rfl) <| bE H fun y25 h26 H => oq rfl (qc rfl fn257 (fun w1 hw1 => lib_slices_EqualFunc___impl_Node___impl_Node_impl_Node_impl_Node___impl_NodeSame_ok w1  h26 (rds_bor g12 w1 hw1) (rds_bor g18 w1 hw1))) tt2 <| ow_batch [.p] rfl <| ?_
   obtain rfl := of_some H
   exact OW.sub key (sb rfl)
theorem impl_MemberOk_ok (w : World) {p0 : Timpl_Conf} {p1 : Timpl_Member} {cs0 : List Value} {cs1 : List Value} {r : Bool} (H : impl_MemberOk p0 p1 = some r)  (g0 : (eTimpl_Conf).rd w [] p0 cs0) (g1 : (eTimpl_Member).rd w [] p1 cs1) :
    Calls Tryz.prog 187 #[.agg cs0.toArray, .agg cs1.toArray] w (fun en w' => en = .returned (.bool r) ∧ Ext [] w w') := by
 obtain ⟨c10, c11, c12, c13, c14, c15, c16, rfl, g17, g18, g19, g20, g21, g22, g23⟩ := rdo_Timpl_Conf g0
 obtain ⟨c24, c25, rfl, g26, g27⟩ := rdo_Timpl_Schema g17
 obtain ⟨a28, c29, rfl⟩ := rd_sl1 g26
 obtain ⟨a30, c31, rfl⟩ := rd_sl1 g27
 obtain rfl : c11 = [.int .i64 p0.Rule_.Sure_, .int .i64 p0.Rule_.Tie_, .int .i64 p0.Rule_.Grace_, .int .i64 p0.Rule_.Depth_, .int .i64 p0.Rule_.Nodes_, .int .i64 p0.Rule_.Units_, .bool p0.Rule_.Two_] := g18
 obtain rfl : c12 = [.int .i64 p0.Members_] := g19
 obtain rfl : c13 = [.int .i64 p0.Pick_] := g20
 obtain rfl : c14 = [.int .i64 p0.Lambda_] := g21
 obtain rfl : c15 = [.int .i64 p0.Warn_] := g22
 obtain rfl : c16 = [.int .i64 p0.Drift_] := g23
 obtain ⟨c32, c33, c34, c35, rfl, g36, g37, g38, g39⟩ := rdo_Timpl_Member g1
 obtain ⟨c40, c41, rfl, g42, g43⟩ := rdo_Timpl_Tree g36
 obtain ⟨a44, c45, rfl⟩ := rd_sl1 g42
 obtain rfl : c41 = [.int .i64 p1.Tree_.Seen_] := g43
 obtain rfl : c33 = [.bool p1.HasYoung_] := g37
 obtain ⟨c46, c47, rfl, g48, g49⟩ := rdo_Timpl_Tree g38
 obtain ⟨a50, c51, rfl⟩ := rd_sl1 g48
 obtain rfl : c47 = [.int .i64 p1.Young_.Seen_] := g49
 obtain ⟨c52, c53, rfl, g54, g55⟩ := rdo_Timpl_Det g39
 obtain ⟨c56, rfl, g57⟩ := rdo_Timpl_Window g54
 obtain ⟨a58, c59, rfl⟩ := rd_sl1 g57
 obtain ⟨c60, rfl, g61⟩ := rdo_Timpl_Window g55
 obtain ⟨a62, c63, rfl⟩ := rd_sl1 g61
 unfold impl_MemberOk at H
 refine f_enter (vs := [.agg #[.slice a28 p0.Schema_.Attrs_.length c29, .slice a30 p0.Schema_.Classes_.length c31, .int .i64 p0.Rule_.Sure_, .int .i64 p0.Rule_.Tie_, .int .i64 p0.Rule_.Grace_, .int .i64 p0.Rule_.Depth_, .int .i64 p0.Rule_.Nodes_, .int .i64 p0.Rule_.Units_, .bool p0.Rule_.Two_, .int .i64 p0.Members_, .int .i64 p0.Pick_, .int .i64 p0.Lambda_, .int .i64 p0.Warn_, .int .i64 p0.Drift_], .agg #[.slice a44 p1.Tree_.Nodes_.length c45, .int .i64 p1.Tree_.Seen_, .bool p1.HasYoung_, .slice a50 p1.Young_.Nodes_.length c51, .int .i64 p1.Young_.Seen_, .slice a58 p1.Det_.Warn_.Rows_.length c59, .slice a62 p1.Det_.Drift_.Rows_.length c63]]) Tryz.func187 rfl Tryz.ntmps187 rfl (St.init w []) <| c_seq <| c_reg <| ob [.slice a28 p0.Schema_.Attrs_.length c29, .slice a30 p0.Schema_.Classes_.length c31, .int .i64 p0.Rule_.Sure_, .int .i64 p0.Rule_.Tie_, .int .i64 p0.Rule_.Grace_, .int .i64 p0.Rule_.Depth_, .int .i64 p0.Rule_.Nodes_, .int .i64 p0.Rule_.Units_, .bool p0.Rule_.Two_, .int .i64 p0.Members_, .int .i64 p0.Pick_, .int .i64 p0.Lambda_, .int .i64 p0.Warn_, .int .i64 p0.Drift_] rfl fun b64 => ob [.slice a44 p1.Tree_.Nodes_.length c45, .int .i64 p1.Tree_.Seen_, .bool p1.HasYoung_, .slice a50 p1.Young_.Nodes_.length c51, .int .i64 p1.Young_.Seen_, .slice a58 p1.Det_.Warn_.Rows_.length c59, .slice a62 p1.Det_.Drift_.Rows_.length c63] rfl fun b65 => ow_batch [.p] rfl <| ow_nil <| x_qs <| c_seq <| c_seq <| c_reg <| o1 rfl (rx 0 0 [.slice a28 p0.Schema_.Attrs_.length c29, .slice a30 p0.Schema_.Classes_.length c31, .int .i64 p0.Rule_.Sure_, .int .i64 p0.Rule_.Tie_, .int .i64 p0.Rule_.Grace_, .int .i64 p0.Rule_.Depth_, .int .i64 p0.Rule_.Nodes_, .int .i64 p0.Rule_.Units_, .bool p0.Rule_.Two_, .int .i64 p0.Members_, .int .i64 p0.Pick_, .int .i64 p0.Lambda_, .int .i64 p0.Warn_, .int .i64 p0.Drift_] rfl ty73 rfl) <| bE H fun y66 h67 H => oq rfl (qc rfl fn164 (fun w1 hw1 => impl_ConfOk_ok w1 (cs0 := [.slice a28 p0.Schema_.Attrs_.length c29, .slice a30 p0.Schema_.Classes_.length c31, .int .i64 p0.Rule_.Sure_, .int .i64 p0.Rule_.Tie_, .int .i64 p0.Rule_.Grace_, .int .i64 p0.Rule_.Depth_, .int .i64 p0.Rule_.Nodes_, .int .i64 p0.Rule_.Units_, .bool p0.Rule_.Two_, .int .i64 p0.Members_, .int .i64 p0.Pick_, .int .i64 p0.Lambda_, .int .i64 p0.Warn_, .int .i64 p0.Drift_]) h67 (rdm_Timpl_Conf (x := p0) (c0 := [.slice a28 p0.Schema_.Attrs_.length c29, .slice a30 p0.Schema_.Classes_.length c31]) (c1 := [.int .i64 p0.Rule_.Sure_, .int .i64 p0.Rule_.Tie_, .int .i64 p0.Rule_.Grace_, .int .i64 p0.Rule_.Depth_, .int .i64 p0.Rule_.Nodes_, .int .i64 p0.Rule_.Units_, .bool p0.Rule_.Two_]) (c2 := [.int .i64 p0.Members_]) (c3 := [.int .i64 p0.Pick_]) (c4 := [.int .i64 p0.Lambda_]) (c5 := [.int .i64 p0.Warn_]) (c6 := [.int .i64 p0.Drift_]) (rdm_Timpl_Schema (x := p0.Schema_) (c0 := [.slice a28 p0.Schema_.Attrs_.length c29]) (c1 := [.slice a30 p0.Schema_.Classes_.length c31]) (rds_bor g26 w1 hw1) (rds_bor g27 w1 hw1)) rfl rfl rfl rfl rfl rfl))) tt2 <| ow_batch [.p, .p] rfl <| bE H fun u68 hu72 H => ow_cut [(17, .bool u68), (2, .pointer (some ⟨b64, 0, none⟩)), (3, .pointer (some ⟨b65, 0, none⟩))] 9 ?_ (fun key => OW.sub (R := [(2, .pointer (some ⟨b64, 0, none⟩)), (3, .pointer (some ⟨b65, 0, none⟩)), (8, .bool (!y66))]) ?_ (sb rfl))
 ·refine ow_batch [.p] rfl <| bE H fun u73 hu77 H => ow_cut [(23, .bool u73), (2, .pointer (some ⟨b64, 0, none⟩)), (3, .pointer (some ⟨b65, 0, none⟩))] 5 ?_ (fun key => OW.sub (R := [(2, .pointer (some ⟨b64, 0, none⟩)), (3, .pointer (some ⟨b65, 0, none⟩)), (18, .bool u68)]) ?_ (sb rfl))
  ·refine ow_nil <| x_qs <| cI H rfl (fun H => ?_) (fun H => ?_)
   ·exact c_seq <| c_reg <| ow_batch [.p] rfl <| ow_nil <| x_qs <| c_ret <| x_qs_ret <| xr 4 rfl (by cases H; exact q1)
   ·refine c_skip <| x_qs <| c_seq <| c_seq <| c_reg <| ow_batch [.fa 216 1 2 fa216_1] rfl <| o1 rfl (r1 2 1 rfl ty4 rfl) <| ow_nil <| x_qs <| cI H rfl (fun H => ?_) (fun H => ?_)
    ·exact c_seq <| c_reg <| ow_batch [.fa 73 0 0 fa73_0] rfl <| o1 rfl (rx 0 0 [.slice a28 p0.Schema_.Attrs_.length c29, .slice a30 p0.Schema_.Classes_.length c31] rfl ty35 rfl) <| ow_batch [.fa 73 1 2 fa73_1] rfl <| o1 rfl (rx 2 0 [.int .i64 p0.Rule_.Sure_, .int .i64 p0.Rule_.Tie_, .int .i64 p0.Rule_.Grace_, .int .i64 p0.Rule_.Depth_, .int .i64 p0.Rule_.Nodes_, .int .i64 p0.Rule_.Units_, .bool p0.Rule_.Two_] rfl ty53 rfl) <| ow_batch [.fa 216 2 3 fa216_2] rfl <| o1 rfl (rx 3 1 [.slice a50 p1.Young_.Nodes_.length c51, .int .i64 p1.Young_.Seen_] rfl ty39 rfl) <| bE H fun y78 h79 H => oq rfl (qc rfl fn235 (fun w1 hw1 => impl_Fits_ok w1 (p1 := p0.Rule_) (cs0 := [.slice a28 p0.Schema_.Attrs_.length c29, .slice a30 p0.Schema_.Classes_.length c31]) (cs2 := [.slice a50 p1.Young_.Nodes_.length c51, .int .i64 p1.Young_.Seen_]) h79 (rdm_Timpl_Schema (x := p0.Schema_) (c0 := [.slice a28 p0.Schema_.Attrs_.length c29]) (c1 := [.slice a30 p0.Schema_.Classes_.length c31]) (rds_bor g26 w1 hw1) (rds_bor g27 w1 hw1)) (rdm_Timpl_Tree (x := p1.Young_) (c0 := [.slice a50 p1.Young_.Nodes_.length c51]) (c1 := [.int .i64 p1.Young_.Seen_]) (rds_bor g48 w1 hw1) rfl))) tt2 <| ow_batch [.p] rfl <| ow_nil <| x_qs <| c_ret <| x_qs_ret <| xr 4 rfl (by cases H; exact q1)
    ·exact c_skip <| x_qs <| c_seq <| c_reg <| ow_batch [.fa 216 2 3 fa216_2] rfl <| o1 rfl (rx 3 1 [.slice a50 p1.Young_.Nodes_.length c51, .int .i64 p1.Young_.Seen_] rfl ty39 rfl) <| o1 rfl (ry_build2 [] [.slice none 0 0, .int .i64 0] rfl rfl ty39 fs39 rfl trivial rfl) <| bE H fun y80 h81 H => oq rfl (qc rfl fn237 (fun w1 hw1 => impl_TreeSame_ok w1 (cs0 := [.slice a50 p1.Young_.Nodes_.length c51, .int .i64 p1.Young_.Seen_]) (cs1 := [.slice none 0 0, .int .i64 0]) h81 (rdm_Timpl_Tree (x := p1.Young_) (c0 := [.slice a50 p1.Young_.Nodes_.length c51]) (c1 := [.int .i64 p1.Young_.Seen_]) (rds_bor g48 w1 hw1) rfl) (rdm_Timpl_Tree (x := (Timpl_Tree.mk ([] : List Timpl_Node) 0)) (c0 := [.slice none 0 0]) (c1 := [.int .i64 0]) rd_none rfl))) tt2 <| ow_batch [.p] rfl <| ow_nil <| x_qs <| c_ret <| xr 4 rfl (by cases H; exact q1)
  ·clear H
   have H := hu77
   clear hu77
   generalize u68 = t76 at H key ⊢
   cases t76
   ·have H := of_if_f rfl H
    refine ow_batch [.fa 216 3 5 fa216_3] rfl <| o1 rfl (rx 5 1 [.slice a58 p1.Det_.Warn_.Rows_.length c59, .slice a62 p1.Det_.Drift_.Rows_.length c63] rfl ty214 rfl) <| bE H fun y74 h75 H => oq rfl (qc rfl fn236 (fun w1 hw1 => impl_DetOk_ok w1 (cs0 := [.slice a58 p1.Det_.Warn_.Rows_.length c59, .slice a62 p1.Det_.Drift_.Rows_.length c63]) h75 (rdm_Timpl_Det (x := p1.Det_) (c0 := [.slice a58 p1.Det_.Warn_.Rows_.length c59]) (c1 := [.slice a62 p1.Det_.Drift_.Rows_.length c63]) (rdm_Timpl_Window (x := p1.Det_.Warn_) (c0 := [.slice a58 p1.Det_.Warn_.Rows_.length c59]) (rds_bor g57 w1 hw1)) (rdm_Timpl_Window (x := p1.Det_.Drift_) (c0 := [.slice a62 p1.Det_.Drift_.Rows_.length c63]) (rds_bor g61 w1 hw1))))) tt2 <| ow_batch [.p] rfl <| ow_batch [.p] rfl <| ?_
    obtain rfl := of_some H
    exact OW.sub key (sb rfl)
   ·have H := of_if_t rfl H
    refine ow_batch [.p, .p, .p, .p, .p] rfl ?_
    obtain rfl := of_some H
    exact OW.sub key (sb rfl)
 ·clear H
  have H := hu72
  clear hu72
  generalize (!y66) = t71 at H key ⊢
  cases t71
  ·have H := of_if_f rfl H
   refine ow_batch [.fa 73 0 0 fa73_0] rfl <| o1 rfl (rx 0 0 [.slice a28 p0.Schema_.Attrs_.length c29, .slice a30 p0.Schema_.Classes_.length c31] rfl ty35 rfl) <| ow_batch [.fa 73 1 2 fa73_1] rfl <| o1 rfl (rx 2 0 [.int .i64 p0.Rule_.Sure_, .int .i64 p0.Rule_.Tie_, .int .i64 p0.Rule_.Grace_, .int .i64 p0.Rule_.Depth_, .int .i64 p0.Rule_.Nodes_, .int .i64 p0.Rule_.Units_, .bool p0.Rule_.Two_] rfl ty53 rfl) <| ow_batch [.fa 216 0 0 fa216_0] rfl <| o1 rfl (rx 0 1 [.slice a44 p1.Tree_.Nodes_.length c45, .int .i64 p1.Tree_.Seen_] rfl ty39 rfl) <| bE H fun y69 h70 H => oq rfl (qc rfl fn235 (fun w1 hw1 => impl_Fits_ok w1 (p1 := p0.Rule_) (cs0 := [.slice a28 p0.Schema_.Attrs_.length c29, .slice a30 p0.Schema_.Classes_.length c31]) (cs2 := [.slice a44 p1.Tree_.Nodes_.length c45, .int .i64 p1.Tree_.Seen_]) h70 (rdm_Timpl_Schema (x := p0.Schema_) (c0 := [.slice a28 p0.Schema_.Attrs_.length c29]) (c1 := [.slice a30 p0.Schema_.Classes_.length c31]) (rds_bor g26 w1 hw1) (rds_bor g27 w1 hw1)) (rdm_Timpl_Tree (x := p1.Tree_) (c0 := [.slice a44 p1.Tree_.Nodes_.length c45]) (c1 := [.int .i64 p1.Tree_.Seen_]) (rds_bor g42 w1 hw1) rfl))) tt2 <| ow_batch [.p] rfl <| ow_batch [.p] rfl <| ?_
   obtain rfl := of_some H
   exact OW.sub key (sb rfl)
  ·have H := of_if_t rfl H
   refine ow_batch [.p, .p, .p, .p, .p, .p, .p, .p, .p] rfl ?_
   obtain rfl := of_some H
   exact OW.sub key (sb rfl)
theorem impl_ForestOk_1_ok (w : World) {p0 : Timpl_Member} {p1 : Timpl_Conf} {cs0 : List Value} {q_1 : Addr} {cs_1 : List Value} {r : Bool} (H : impl_ForestOk_1 p0 p1 = some r)  (g0 : (eTimpl_Member).rd w [] p0 cs0) (g_1 : (eTimpl_Conf).rd w [] p1 cs_1) (hA_1 : At w [] q_1 cs_1) :
    Calls Tryz.prog 186 #[.agg cs0.toArray, .pointer (some q_1)] w (fun en w' => en = .returned (.bool r) ∧ Ext [] w w') := by
 obtain ⟨c10, c11, c12, c13, rfl, g14, g15, g16, g17⟩ := rdo_Timpl_Member g0
 obtain ⟨c18, c19, rfl, g20, g21⟩ := rdo_Timpl_Tree g14
 obtain ⟨a22, c23, rfl⟩ := rd_sl1 g20
 obtain rfl : c19 = [.int .i64 p0.Tree_.Seen_] := g21
 obtain rfl : c11 = [.bool p0.HasYoung_] := g15
 obtain ⟨c24, c25, rfl, g26, g27⟩ := rdo_Timpl_Tree g16
 obtain ⟨a28, c29, rfl⟩ := rd_sl1 g26
 obtain rfl : c25 = [.int .i64 p0.Young_.Seen_] := g27
 obtain ⟨c30, c31, rfl, g32, g33⟩ := rdo_Timpl_Det g17
 obtain ⟨c34, rfl, g35⟩ := rdo_Timpl_Window g32
 obtain ⟨a36, c37, rfl⟩ := rd_sl1 g35
 obtain ⟨c38, rfl, g39⟩ := rdo_Timpl_Window g33
 obtain ⟨a40, c41, rfl⟩ := rd_sl1 g39
 obtain ⟨c42, c43, c44, c45, c46, c47, c48, rfl, g49, g50, g51, g52, g53, g54, g55⟩ := rdo_Timpl_Conf g_1
 obtain ⟨c56, c57, rfl, g58, g59⟩ := rdo_Timpl_Schema g49
 obtain ⟨a60, c61, rfl⟩ := rd_sl1 g58
 obtain ⟨a62, c63, rfl⟩ := rd_sl1 g59
 obtain rfl : c43 = [.int .i64 p1.Rule_.Sure_, .int .i64 p1.Rule_.Tie_, .int .i64 p1.Rule_.Grace_, .int .i64 p1.Rule_.Depth_, .int .i64 p1.Rule_.Nodes_, .int .i64 p1.Rule_.Units_, .bool p1.Rule_.Two_] := g50
 obtain rfl : c44 = [.int .i64 p1.Members_] := g51
 obtain rfl : c45 = [.int .i64 p1.Pick_] := g52
 obtain rfl : c46 = [.int .i64 p1.Lambda_] := g53
 obtain rfl : c47 = [.int .i64 p1.Warn_] := g54
 obtain rfl : c48 = [.int .i64 p1.Drift_] := g55
 unfold impl_ForestOk_1 at H
 exact f_enter (vs := [.agg #[.slice a22 p0.Tree_.Nodes_.length c23, .int .i64 p0.Tree_.Seen_, .bool p0.HasYoung_, .slice a28 p0.Young_.Nodes_.length c29, .int .i64 p0.Young_.Seen_, .slice a36 p0.Det_.Warn_.Rows_.length c37, .slice a40 p0.Det_.Drift_.Rows_.length c41], .pointer (some q_1)]) Tryz.func186 rfl Tryz.ntmps186 rfl (St.init w []) <| c_seq <| c_reg <| ob [.slice a22 p0.Tree_.Nodes_.length c23, .int .i64 p0.Tree_.Seen_, .bool p0.HasYoung_, .slice a28 p0.Young_.Nodes_.length c29, .int .i64 p0.Young_.Seen_, .slice a36 p0.Det_.Warn_.Rows_.length c37, .slice a40 p0.Det_.Drift_.Rows_.length c41] rfl fun b64 => ow_batch [.p] rfl <| ow_nil <| x_qs <| c_seq <| c_reg <| o1 rfl (ry_load (cs := [.slice a60 p1.Schema_.Attrs_.length c61, .slice a62 p1.Schema_.Classes_.length c63, .int .i64 p1.Rule_.Sure_, .int .i64 p1.Rule_.Tie_, .int .i64 p1.Rule_.Grace_, .int .i64 p1.Rule_.Depth_, .int .i64 p1.Rule_.Nodes_, .int .i64 p1.Rule_.Units_, .bool p1.Rule_.Two_, .int .i64 p1.Members_, .int .i64 p1.Pick_, .int .i64 p1.Lambda_, .int .i64 p1.Warn_, .int .i64 p1.Drift_]) rfl rfl ty73 (at_bor bor hA_1) rfl) <| o1 rfl (rx 0 0 [.slice a22 p0.Tree_.Nodes_.length c23, .int .i64 p0.Tree_.Seen_, .bool p0.HasYoung_, .slice a28 p0.Young_.Nodes_.length c29, .int .i64 p0.Young_.Seen_, .slice a36 p0.Det_.Warn_.Rows_.length c37, .slice a40 p0.Det_.Drift_.Rows_.length c41] rfl ty216 rfl) <| bE H fun y65 h66 H => oq rfl (qc rfl fn187 (fun w1 hw1 => impl_MemberOk_ok w1 (cs0 := [.slice a60 p1.Schema_.Attrs_.length c61, .slice a62 p1.Schema_.Classes_.length c63, .int .i64 p1.Rule_.Sure_, .int .i64 p1.Rule_.Tie_, .int .i64 p1.Rule_.Grace_, .int .i64 p1.Rule_.Depth_, .int .i64 p1.Rule_.Nodes_, .int .i64 p1.Rule_.Units_, .bool p1.Rule_.Two_, .int .i64 p1.Members_, .int .i64 p1.Pick_, .int .i64 p1.Lambda_, .int .i64 p1.Warn_, .int .i64 p1.Drift_]) (cs1 := [.slice a22 p0.Tree_.Nodes_.length c23, .int .i64 p0.Tree_.Seen_, .bool p0.HasYoung_, .slice a28 p0.Young_.Nodes_.length c29, .int .i64 p0.Young_.Seen_, .slice a36 p0.Det_.Warn_.Rows_.length c37, .slice a40 p0.Det_.Drift_.Rows_.length c41]) h66 (rdm_Timpl_Conf (x := p1) (c0 := [.slice a60 p1.Schema_.Attrs_.length c61, .slice a62 p1.Schema_.Classes_.length c63]) (c1 := [.int .i64 p1.Rule_.Sure_, .int .i64 p1.Rule_.Tie_, .int .i64 p1.Rule_.Grace_, .int .i64 p1.Rule_.Depth_, .int .i64 p1.Rule_.Nodes_, .int .i64 p1.Rule_.Units_, .bool p1.Rule_.Two_]) (c2 := [.int .i64 p1.Members_]) (c3 := [.int .i64 p1.Pick_]) (c4 := [.int .i64 p1.Lambda_]) (c5 := [.int .i64 p1.Warn_]) (c6 := [.int .i64 p1.Drift_]) (rdm_Timpl_Schema (x := p1.Schema_) (c0 := [.slice a60 p1.Schema_.Attrs_.length c61]) (c1 := [.slice a62 p1.Schema_.Classes_.length c63]) (rds_bor g58 w1 hw1) (rds_bor g59 w1 hw1)) rfl rfl rfl rfl rfl rfl) (rdm_Timpl_Member (x := p0) (c0 := [.slice a22 p0.Tree_.Nodes_.length c23, .int .i64 p0.Tree_.Seen_]) (c1 := [.bool p0.HasYoung_]) (c2 := [.slice a28 p0.Young_.Nodes_.length c29, .int .i64 p0.Young_.Seen_]) (c3 := [.slice a36 p0.Det_.Warn_.Rows_.length c37, .slice a40 p0.Det_.Drift_.Rows_.length c41]) (rdm_Timpl_Tree (x := p0.Tree_) (c0 := [.slice a22 p0.Tree_.Nodes_.length c23]) (c1 := [.int .i64 p0.Tree_.Seen_]) (rds_bor g20 w1 hw1) rfl) rfl (rdm_Timpl_Tree (x := p0.Young_) (c0 := [.slice a28 p0.Young_.Nodes_.length c29]) (c1 := [.int .i64 p0.Young_.Seen_]) (rds_bor g26 w1 hw1) rfl) (rdm_Timpl_Det (x := p0.Det_) (c0 := [.slice a36 p0.Det_.Warn_.Rows_.length c37]) (c1 := [.slice a40 p0.Det_.Drift_.Rows_.length c41]) (rdm_Timpl_Window (x := p0.Det_.Warn_) (c0 := [.slice a36 p0.Det_.Warn_.Rows_.length c37]) (rds_bor g35 w1 hw1)) (rdm_Timpl_Window (x := p0.Det_.Drift_) (c0 := [.slice a40 p0.Det_.Drift_.Rows_.length c41]) (rds_bor g39 w1 hw1)))))) tt2 <| ow_batch [.p, .p] rfl <| ow_nil <| x_qs <| c_ret <| xr 3 rfl (by cases H; exact q1)
end Go.Vk
