/- The code does what the functions of data say. Printed by program. -/
import Derived.Test.YtmdkpmcoaalaoaaGreatWStateSaysD
namespace Go.Vk
open Go.Proofs Go.RowKit
set_option maxHeartbeats 4000000
set_option maxRecDepth 100000
theorem laws_eqMember_ok (w : World) {p0 : Timpl_Member} {p1 : Timpl_Member} {cs0 : List Value} {cs1 : List Value} {r : Bool} (H : laws_eqMember p0 p1 = some r)  (g0 : (eTimpl_Member).rd w [] p0 cs0) (g1 : (eTimpl_Member).rd w [] p1 cs1) :
    Calls Tryz.prog 95 #[.agg cs0.toArray, .agg cs1.toArray] w (fun en w' => en = .returned (.bool r) ∧ Ext [] w w') := by
 obtain ⟨c10, c11, c12, c13, rfl, g14, g15, g16, g17⟩ := rdo_Timpl_Member g0
 obtain ⟨c18, c19, rfl, g20, g21⟩ := rdo_Timpl_Tree g14
 obtain ⟨a22, c23, rfl⟩ := rd_sl1 g20
 obtain rfl := g21
 obtain rfl := g15
 obtain ⟨c24, c25, rfl, g26, g27⟩ := rdo_Timpl_Tree g16
 obtain ⟨a28, c29, rfl⟩ := rd_sl1 g26
 obtain rfl := g27
 obtain ⟨c30, c31, rfl, g32, g33⟩ := rdo_Timpl_Det g17
 obtain ⟨c34, rfl, g35⟩ := rdo_Timpl_Window g32
 obtain ⟨a36, c37, rfl⟩ := rd_sl1 g35
 obtain ⟨c38, rfl, g39⟩ := rdo_Timpl_Window g33
 obtain ⟨a40, c41, rfl⟩ := rd_sl1 g39
 obtain ⟨c42, c43, c44, c45, rfl, g46, g47, g48, g49⟩ := rdo_Timpl_Member g1
 obtain ⟨c50, c51, rfl, g52, g53⟩ := rdo_Timpl_Tree g46
 obtain ⟨a54, c55, rfl⟩ := rd_sl1 g52
 obtain rfl := g53
 obtain rfl := g47
 obtain ⟨c56, c57, rfl, g58, g59⟩ := rdo_Timpl_Tree g48
 obtain ⟨a60, c61, rfl⟩ := rd_sl1 g58
 obtain rfl := g59
 obtain ⟨c62, c63, rfl, g64, g65⟩ := rdo_Timpl_Det g49
 obtain ⟨c66, rfl, g67⟩ := rdo_Timpl_Window g64
 obtain ⟨a68, c69, rfl⟩ := rd_sl1 g67
 obtain ⟨c70, rfl, g71⟩ := rdo_Timpl_Window g65
 obtain ⟨a72, c73, rfl⟩ := rd_sl1 g71
 unfold laws_eqMember at H
 refine f_enter Tryz.func95 rfl Tryz.ntmps95 rfl (St.init w []) <| sR <| ob _ rfl fun b74 => ob _ rfl fun b75 => oP rfl <| nQ <| c_seq <| sR <| ow_batch [.fa 99 0 0 fa99_0] rfl <| o1 rfl (rx 0 0 _ rfl ty93 rfl) <| ow_batch [.fa 99 0 0 fa99_0] rfl <| o1 rfl (rx 0 1 _ rfl ty93 rfl) <| bE H fun y76 h77 H => oq rfl (qc rfl fn130 (fun w1 hw1 => laws_eqTree_ok w1 h77 (rdm_Timpl_Tree (rds_bor g20 w1 hw1) rfl) (rdm_Timpl_Tree (rds_bor g52 w1 hw1) rfl))) tt2 <| oP rfl <| nQ <| cI H rfl (fun H => ?_) (fun H => ?_)
 ·exact sR <| oP rfl <| nT <| x_qs_ret <| xr 4 rfl (by cases H; exact q1)
 ·refine c_skip <| x_qs <| c_seq <| sR <| ow_batch [.fa 99 1 2 fa99_1] rfl <| o1 rfl (r1 2 0 rfl ty4 rfl) <| ow_batch [.fa 99 1 2 fa99_1] rfl <| o1 rfl (r1 2 1 rfl ty4 rfl) <| o1 rfl (ry_bneq rfl rfl rfl bl4) <| nQ <| cI H rfl (fun H => ?_) (fun H => ?_)
  ·exact sR <| oP rfl <| nT <| x_qs_ret <| xr 4 rfl (by cases H; exact q1)
  ·refine c_skip <| x_qs <| c_seq <| sR <| ow_batch [.fa 99 2 3 fa99_2] rfl <| o1 rfl (rx 3 0 _ rfl ty93 rfl) <| ow_batch [.fa 99 2 3 fa99_2] rfl <| o1 rfl (rx 3 1 _ rfl ty93 rfl) <| bE H fun y78 h79 H => oq rfl (qc rfl fn130 (fun w1 hw1 => laws_eqTree_ok w1 h79 (rdm_Timpl_Tree (rds_bor g26 w1 hw1) rfl) (rdm_Timpl_Tree (rds_bor g58 w1 hw1) rfl))) tt2 <| oP rfl <| nQ <| cI H rfl (fun H => ?_) (fun H => ?_)
   ·exact sR <| oP rfl <| nT <| x_qs_ret <| xr 4 rfl (by cases H; exact q1)
   ·refine c_skip <| x_qs <| c_seq <| sR <| ow_batch [.fa 99 3 5 fa99_3] rfl <| o1 rfl (rx 5 0 _ rfl ty97 rfl) <| ow_batch [.fa 99 3 5 fa99_3] rfl <| o1 rfl (rx 5 1 _ rfl ty97 rfl) <| bE H fun y80 h81 H => oq rfl (qc rfl fn131 (fun w1 hw1 => laws_eqDet_ok w1 h81 (rdm_Timpl_Det (rdm_Timpl_Window (rds_bor g35 w1 hw1)) (rdm_Timpl_Window (rds_bor g39 w1 hw1))) (rdm_Timpl_Det (rdm_Timpl_Window (rds_bor g67 w1 hw1)) (rdm_Timpl_Window (rds_bor g71 w1 hw1))))) tt2 <| oP rfl <| nQ <| cI H rfl (fun H => ?_) (fun H => ?_)
    ·exact sR <| oP rfl <| nT <| x_qs_ret <| xr 4 rfl (by cases H; exact q1)
    ·exact c_skip <| x_qs <| sR <| oP rfl <| nT <| xr 4 rfl (by cases H; exact q1)
theorem laws_eqMemberS_ok (w : World) {p0 : List Timpl_Member} {p1 : List Timpl_Member} {a_0 : Option Addr} {n_0 c_0 : Nat} {a_1 : Option Addr} {n_1 c_1 : Nat} {r : Bool} (H : laws_eqMemberS p0 p1 = some r)  (g0 : (eList (eTimpl_Member) 99).rd w [] p0 [.slice a_0 n_0 c_0]) (g1 : (eList (eTimpl_Member) 99).rd w [] p1 [.slice a_1 n_1 c_1]) :
    Calls Tryz.prog 56 #[.slice a_0 n_0 c_0, .slice a_1 n_1 c_1] w (fun en w' => en = .returned (.bool r) ∧ Ext [] w w') := by
 obtain rfl := rd_n g0
 obtain rfl := rd_n g1
 unfold laws_eqMemberS at H
 refine f_enter Tryz.func56 rfl Tryz.ntmps56 rfl (St.init w []) <| sR <| oP rfl <| nQ <| c_seq <| sR <| ow_batch [.p, .lenS 52 99 sl52, .p, .lenS 52 99 sl52, .p] rfl <| nQ <| cI H rfl (fun H => ?_) (fun H => ?_)
 ·exact sR <| oP rfl <| nT <| x_qs_ret <| xr 4 rfl (by cases H; exact q1)
 ·refine c_skip <| x_qs <| c_seq <| sR <| oP rfl <| nQ <| c_block <| CW.at (loopI1 (fun (i89 : Int) => St w [] []) (fun i89 => [(0, .slice a_0 p0.length c_0), (1, .slice a_1 p1.length c_1), (5, .int .i64 i89)]) (fun kk => fun i89 => laws_eqMemberS_L1 p0 p1 kk i89 = some r) (fun _ H => ?_) (fun k1 ihk1 i89 H => ?_) Fuel (0) (H)) (fun _ h => St.sel [] rfl rfl h) ⟨rfl, rfl, rfl,  trivial⟩
  ·unfold laws_eqMemberS_L1 at H
   exact absurd H (by simp)
  ·unfold laws_eqMemberS_L1 at H
   refine c_seq <| sR <| ow_batch [.p, .p, .lenS 52 99 sl52, .p] rfl <| nQ <| cI H rfl (fun H => ?_) (fun H => ?_)
   ·refine c_skip <| x_qs <| c_seq <| c_block <| c_seq <| c_regQ mixed (by kernel_rfl) <| oPP rfl <| bE H fun e169 h170 H => ow_ixB rfl rfl rfl rfl rfl sl52 ty99 rfl g0 h170 fun q173 c174 hd171 hA172 => ?_
    obtain ⟨c175, c176, c177, c178, rfl, g179, g180, g181, g182⟩ := rdo_Timpl_Member hd171
    obtain ⟨c183, c184, rfl, g185, g186⟩ := rdo_Timpl_Tree g179
    obtain ⟨a187, c188, rfl⟩ := rd_sl1 g185
    obtain rfl := g186
    obtain rfl := g180
    obtain ⟨c189, c190, rfl, g191, g192⟩ := rdo_Timpl_Tree g181
    obtain ⟨a193, c194, rfl⟩ := rd_sl1 g191
    obtain rfl := g192
    obtain ⟨c195, c196, rfl, g197, g198⟩ := rdo_Timpl_Det g182
    obtain ⟨c199, rfl, g200⟩ := rdo_Timpl_Window g197
    obtain ⟨a201, c202, rfl⟩ := rd_sl1 g200
    obtain ⟨c203, rfl, g204⟩ := rdo_Timpl_Window g198
    obtain ⟨a205, c206, rfl⟩ := rd_sl1 g204
    refine o1 rfl (ry_load (cs := [.slice a187 e169.Tree_.Nodes_.length c188, .int .i64 e169.Tree_.Seen_, .bool e169.HasYoung_, .slice a193 e169.Young_.Nodes_.length c194, .int .i64 e169.Young_.Seen_, .slice a201 e169.Det_.Warn_.Rows_.length c202, .slice a205 e169.Det_.Drift_.Rows_.length c206]) rfl rfl ty99 (at_bor bor hA172) rfl) <| oPP rfl <| bE H fun e207 h208 H => ow_ixB rfl rfl rfl rfl rfl sl52 ty99 rfl g1 h208 fun q211 c212 hd209 hA210 => ?_
    obtain ⟨c213, c214, c215, c216, rfl, g217, g218, g219, g220⟩ := rdo_Timpl_Member hd209
    obtain ⟨c221, c222, rfl, g223, g224⟩ := rdo_Timpl_Tree g217
    obtain ⟨a225, c226, rfl⟩ := rd_sl1 g223
    obtain rfl := g224
    obtain rfl := g218
    obtain ⟨c227, c228, rfl, g229, g230⟩ := rdo_Timpl_Tree g219
    obtain ⟨a231, c232, rfl⟩ := rd_sl1 g229
    obtain rfl := g230
    obtain ⟨c233, c234, rfl, g235, g236⟩ := rdo_Timpl_Det g220
    obtain ⟨c237, rfl, g238⟩ := rdo_Timpl_Window g235
    obtain ⟨a239, c240, rfl⟩ := rd_sl1 g238
    obtain ⟨c241, rfl, g242⟩ := rdo_Timpl_Window g236
    obtain ⟨a243, c244, rfl⟩ := rd_sl1 g242
    refine o1 rfl (ry_load (cs := [.slice a225 e207.Tree_.Nodes_.length c226, .int .i64 e207.Tree_.Seen_, .bool e207.HasYoung_, .slice a231 e207.Young_.Nodes_.length c232, .int .i64 e207.Young_.Seen_, .slice a239 e207.Det_.Warn_.Rows_.length c240, .slice a243 e207.Det_.Drift_.Rows_.length c244]) rfl rfl ty99 (at_bor bor hA210) rfl) <| bE H fun y245 h246 H => oq rfl (qc rfl fn95 (fun w1 hw1 => laws_eqMember_ok w1 h246 (rdm_Timpl_Member (rdm_Timpl_Tree (rds_bor g185 w1 hw1) rfl) rfl (rdm_Timpl_Tree (rds_bor g191 w1 hw1) rfl) (rdm_Timpl_Det (rdm_Timpl_Window (rds_bor g200 w1 hw1)) (rdm_Timpl_Window (rds_bor g204 w1 hw1)))) (rdm_Timpl_Member (rdm_Timpl_Tree (rds_bor g223 w1 hw1) rfl) rfl (rdm_Timpl_Tree (rds_bor g229 w1 hw1) rfl) (rdm_Timpl_Det (rdm_Timpl_Window (rds_bor g238 w1 hw1)) (rdm_Timpl_Window (rds_bor g242 w1 hw1)))))) tt2 <| oP rfl <| ow_nilQ <| x_qs <| cI H rfl (fun H => ?_) (fun H => ?_)
    ·exact sR <| oP rfl <| nT <| x_qb_ret <| x_qs_ret <| x_ql_ret <| x_qb_ret <| x_qs_ret <| xr 4 rfl (by cases H; exact q1)
    ·exact c_skip <| x_qb <| x_qs <| c_reg <| ow_batch [.p, .p, .p] rfl <| ow_nil <| x_ql (RW.at (ihk1 (IntKind.i64.wrap (i89 + 1)) (H)) (fun _ h => St.sel [] rfl rfl h) ⟨rfl, rfl, rfl, trivial⟩)
   ·exact c_exit <| x_qs_exit <| x_ql_exit <| x_qb_here <| x_qs <| sR <| oP rfl <| nT <| xr 4 rfl (by cases H; exact q1)
theorem laws_eqForest_ok (w : World) {p0 : Timpl_Forest} {p1 : Timpl_Forest} {cs0 : List Value} {cs1 : List Value} {r : Bool} (H : laws_eqForest p0 p1 = some r)  (g0 : (eTimpl_Forest).rd w [] p0 cs0) (g1 : (eTimpl_Forest).rd w [] p1 cs1) :
    Calls Tryz.prog 28 #[.agg cs0.toArray, .agg cs1.toArray] w (fun en w' => en = .returned (.bool r) ∧ Ext [] w w') := by
 obtain ⟨c10, rfl, g11⟩ := rdo_Timpl_Forest g0
 obtain ⟨a12, c13, rfl⟩ := rd_sl1 g11
 obtain ⟨c14, rfl, g15⟩ := rdo_Timpl_Forest g1
 obtain ⟨a16, c17, rfl⟩ := rd_sl1 g15
 unfold laws_eqForest at H
 refine f_enter Tryz.func28 rfl Tryz.ntmps28 rfl (St.init w []) <| sR <| ob _ rfl fun b18 => ob _ rfl fun b19 => oP rfl <| nQ <| c_seq <| sR <| ow_batch [.fa 54 0 0 fa54_0] rfl <| o1 rfl (r1 0 0 rfl ty52 rfl) <| ow_batch [.fa 54 0 0 fa54_0] rfl <| o1 rfl (r1 0 1 rfl ty52 rfl) <| bE H fun y20 h21 H => oq rfl (qc rfl fn56 (fun w1 hw1 => laws_eqMemberS_ok w1  h21 (rds_bor g11 w1 hw1) (rds_bor g15 w1 hw1))) tt2 <| oP rfl <| nQ <| cI H rfl (fun H => ?_) (fun H => ?_)
 ·exact sR <| oP rfl <| nT <| x_qs_ret <| xr 4 rfl (by cases H; exact q1)
 ·exact c_skip <| x_qs <| sR <| oP rfl <| nT <| xr 4 rfl (by cases H; exact q1)
theorem laws_eqPair_ok (w : World) {p0 : Timpl_Pair} {p1 : Timpl_Pair}  {r : Bool} (H : laws_eqPair p0 p1 = some r)   :
    Calls Tryz.prog 96 #[.agg #[.int .i64 p0.Truth_, .int .i64 p0.Said_], .agg #[.int .i64 p1.Truth_, .int .i64 p1.Said_]] w (fun en w' => en = .returned (.bool r) ∧ Ext [] w w') := by
 unfold laws_eqPair at H
 refine f_enter Tryz.func96 rfl Tryz.ntmps96 rfl (St.init w []) <| sR <| ob _ rfl fun b10 => ob _ rfl fun b11 => oP rfl <| nQ <| c_seq <| sR <| ow_batch [.fa 143 0 0 fa143_0] rfl <| o1 rfl (r1 0 0 rfl ty3 rfl) <| ow_batch [.fa 143 0 0 fa143_0] rfl <| o1 rfl (r1 0 1 rfl ty3 rfl) <| oP rfl <| nQ <| cI H rfl (fun H => ?_) (fun H => ?_)
 ·exact sR <| oP rfl <| nT <| x_qs_ret <| xr 4 rfl (by cases H; exact q1)
 ·refine c_skip <| x_qs <| c_seq <| sR <| ow_batch [.fa 143 1 1 fa143_1] rfl <| o1 rfl (r1 1 0 rfl ty3 rfl) <| ow_batch [.fa 143 1 1 fa143_1] rfl <| o1 rfl (r1 1 1 rfl ty3 rfl) <| oP rfl <| nQ <| cI H rfl (fun H => ?_) (fun H => ?_)
  ·exact sR <| oP rfl <| nT <| x_qs_ret <| xr 4 rfl (by cases H; exact q1)
  ·exact c_skip <| x_qs <| sR <| oP rfl <| nT <| xr 4 rfl (by cases H; exact q1)
theorem laws_eqPairS_ok (w : World) {p0 : List Timpl_Pair} {p1 : List Timpl_Pair} {a_0 : Option Addr} {n_0 c_0 : Nat} {a_1 : Option Addr} {n_1 c_1 : Nat} {r : Bool} (H : laws_eqPairS p0 p1 = some r)  (g0 : (eList (eTimpl_Pair) 143).rd w [] p0 [.slice a_0 n_0 c_0]) (g1 : (eList (eTimpl_Pair) 143).rd w [] p1 [.slice a_1 n_1 c_1]) :
    Calls Tryz.prog 58 #[.slice a_0 n_0 c_0, .slice a_1 n_1 c_1] w (fun en w' => en = .returned (.bool r) ∧ Ext [] w w') := by
 obtain rfl := rd_n g0
 obtain rfl := rd_n g1
 unfold laws_eqPairS at H
 refine f_enter Tryz.func58 rfl Tryz.ntmps58 rfl (St.init w []) <| sR <| oP rfl <| nQ <| c_seq <| sR <| ow_batch [.p, .lenS 55 143 sl55, .p, .lenS 55 143 sl55, .p] rfl <| nQ <| cI H rfl (fun H => ?_) (fun H => ?_)
 ·exact sR <| oP rfl <| nT <| x_qs_ret <| xr 4 rfl (by cases H; exact q1)
 ·refine c_skip <| x_qs <| c_seq <| sR <| oP rfl <| nQ <| c_block <| CW.at (loopI1 (fun (i18 : Int) => St w [] []) (fun i18 => [(0, .slice a_0 p0.length c_0), (1, .slice a_1 p1.length c_1), (5, .int .i64 i18)]) (fun kk => fun i18 => laws_eqPairS_L1 p0 p1 kk i18 = some r) (fun _ H => ?_) (fun k1 ihk1 i18 H => ?_) Fuel (0) (H)) (fun _ h => St.sel [] rfl rfl h) ⟨rfl, rfl, rfl,  trivial⟩
  ·unfold laws_eqPairS_L1 at H
   exact absurd H (by simp)
  ·unfold laws_eqPairS_L1 at H
   refine c_seq <| sR <| ow_batch [.p, .p, .lenS 55 143 sl55, .p] rfl <| nQ <| cI H rfl (fun H => ?_) (fun H => ?_)
   ·refine c_skip <| x_qs <| c_seq <| c_block <| c_seq <| c_regQ mixed (by kernel_rfl) <| oPP rfl <| bE H fun e26 h27 H => ow_ixE (e := eTimpl_Pair) (xs := p0) (j := i18) rfl rfl rfl rfl rfl sl55 ty143 rfl (fun w1 hw1 => rds_bor g0 w1 hw1) h27 rfl <| o1 rfl (ry_load (cs := [.int .i64 e26.Truth_, .int .i64 e26.Said_]) rfl rfl ty143 (at_castA (at_eltE (fun w1 hw1 => rds_bor g0 w1 hw1) h27 (fun _ _ h => h)) rfl) rfl) <| oPP rfl <| bE H fun e28 h29 H => ow_ixE (e := eTimpl_Pair) (xs := p1) (j := i18) rfl rfl rfl rfl rfl sl55 ty143 rfl (fun w1 hw1 => rds_bor g1 w1 hw1) h29 rfl <| o1 rfl (ry_load (cs := [.int .i64 e28.Truth_, .int .i64 e28.Said_]) rfl rfl ty143 (at_castA (at_eltE (fun w1 hw1 => rds_bor g1 w1 hw1) h29 (fun _ _ h => h)) rfl) rfl) <| bE H fun y30 h31 H => oq rfl (qc rfl fn96 (fun w1 hw1 => laws_eqPair_ok w1 (p0 := e26) (p1 := e28) h31)) tt2 <| oP rfl <| ow_nilQ <| x_qs <| cI H rfl (fun H => ?_) (fun H => ?_)
    ·exact sR <| oP rfl <| nT <| x_qb_ret <| x_qs_ret <| x_ql_ret <| x_qb_ret <| x_qs_ret <| xr 4 rfl (by cases H; exact q1)
    ·exact c_skip <| x_qb <| x_qs <| c_reg <| ow_batch [.p, .p, .p] rfl <| ow_nil <| x_ql (RW.at (ihk1 (IntKind.i64.wrap (i18 + 1)) (H)) (fun _ h => St.sel [] rfl rfl h) ⟨rfl, rfl, rfl, trivial⟩)
   ·exact c_exit <| x_qs_exit <| x_ql_exit <| x_qb_here <| x_qs <| sR <| oP rfl <| nT <| xr 4 rfl (by cases H; exact q1)
theorem laws_eqScore_ok (w : World) {p0 : Timpl_Score} {p1 : Timpl_Score} {cs0 : List Value} {cs1 : List Value} {r : Bool} (H : laws_eqScore p0 p1 = some r)  (g0 : (eTimpl_Score).rd w [] p0 cs0) (g1 : (eTimpl_Score).rd w [] p1 cs1) :
    Calls Tryz.prog 29 #[.agg cs0.toArray, .agg cs1.toArray] w (fun en w' => en = .returned (.bool r) ∧ Ext [] w w') := by
 obtain ⟨c10, c11, rfl, g12, g13⟩ := rdo_Timpl_Score g0
 obtain ⟨a14, c15, rfl⟩ := rd_sl1 g12
 obtain ⟨a16, c17, rfl⟩ := rd_sl1 g13
 obtain ⟨c18, c19, rfl, g20, g21⟩ := rdo_Timpl_Score g1
 obtain ⟨a22, c23, rfl⟩ := rd_sl1 g20
 obtain ⟨a24, c25, rfl⟩ := rd_sl1 g21
 unfold laws_eqScore at H
 refine f_enter Tryz.func29 rfl Tryz.ntmps29 rfl (St.init w []) <| sR <| ob _ rfl fun b26 => ob _ rfl fun b27 => oP rfl <| nQ <| c_seq <| sR <| ow_batch [.fa 57 0 0 fa57_0] rfl <| o1 rfl (r1 0 0 rfl ty33 rfl) <| ow_batch [.fa 57 0 0 fa57_0] rfl <| o1 rfl (r1 0 1 rfl ty33 rfl) <| bE H fun y28 h29 H => oq rfl (qc rfl fn57 (fun w1 hw1 => laws_eqIntSS_ok w1  h29 (rds_bor g12 w1 hw1) (rds_bor g20 w1 hw1))) tt2 <| oP rfl <| nQ <| cI H rfl (fun H => ?_) (fun H => ?_)
 ·exact sR <| oP rfl <| nT <| x_qs_ret <| xr 4 rfl (by cases H; exact q1)
 ·refine c_skip <| x_qs <| c_seq <| sR <| ow_batch [.fa 57 1 1 fa57_1] rfl <| o1 rfl (r1 1 0 rfl ty55 rfl) <| ow_batch [.fa 57 1 1 fa57_1] rfl <| o1 rfl (r1 1 1 rfl ty55 rfl) <| bE H fun y30 h31 H => oq rfl (qc rfl fn58 (fun w1 hw1 => laws_eqPairS_ok w1  h31 (rds_bor g13 w1 hw1) (rds_bor g21 w1 hw1))) tt2 <| oP rfl <| nQ <| cI H rfl (fun H => ?_) (fun H => ?_)
  ·exact sR <| oP rfl <| nT <| x_qs_ret <| xr 4 rfl (by cases H; exact q1)
  ·exact c_skip <| x_qs <| sR <| oP rfl <| nT <| xr 4 rfl (by cases H; exact q1)
theorem laws_eqState_ok (w : World) {p0 : Timpl_State} {p1 : Timpl_State} {cs0 : List Value} {cs1 : List Value} {r : Bool} (H : laws_eqState p0 p1 = some r)  (g0 : (eTimpl_State).rd w [] p0 cs0) (g1 : (eTimpl_State).rd w [] p1 cs1) :
    Calls Tryz.prog 11 #[.agg cs0.toArray, .agg cs1.toArray] w (fun en w' => en = .returned (.bool r) ∧ Ext [] w w') := by
 obtain ⟨c10, c11, c12, rfl, g13, g14, g15⟩ := rdo_Timpl_State g0
 obtain ⟨c16, c17, c18, c19, c20, c21, c22, rfl, g23, g24, g25, g26, g27, g28, g29⟩ := rdo_Timpl_Conf g13
 obtain ⟨c30, c31, rfl, g32, g33⟩ := rdo_Timpl_Schema g23
 obtain ⟨a34, c35, rfl⟩ := rd_sl1 g32
 obtain ⟨a36, c37, rfl⟩ := rd_sl1 g33
 obtain rfl := g24
 obtain rfl := g25
 obtain rfl := g26
 obtain rfl := g27
 obtain rfl := g28
 obtain rfl := g29
 obtain ⟨c38, rfl, g39⟩ := rdo_Timpl_Forest g14
 obtain ⟨a40, c41, rfl⟩ := rd_sl1 g39
 obtain ⟨c42, c43, rfl, g44, g45⟩ := rdo_Timpl_Score g15
 obtain ⟨a46, c47, rfl⟩ := rd_sl1 g44
 obtain ⟨a48, c49, rfl⟩ := rd_sl1 g45
 obtain ⟨c50, c51, c52, rfl, g53, g54, g55⟩ := rdo_Timpl_State g1
 obtain ⟨c56, c57, c58, c59, c60, c61, c62, rfl, g63, g64, g65, g66, g67, g68, g69⟩ := rdo_Timpl_Conf g53
 obtain ⟨c70, c71, rfl, g72, g73⟩ := rdo_Timpl_Schema g63
 obtain ⟨a74, c75, rfl⟩ := rd_sl1 g72
 obtain ⟨a76, c77, rfl⟩ := rd_sl1 g73
 obtain rfl := g64
 obtain rfl := g65
 obtain rfl := g66
 obtain rfl := g67
 obtain rfl := g68
 obtain rfl := g69
 obtain ⟨c78, rfl, g79⟩ := rdo_Timpl_Forest g54
 obtain ⟨a80, c81, rfl⟩ := rd_sl1 g79
 obtain ⟨c82, c83, rfl, g84, g85⟩ := rdo_Timpl_Score g55
 obtain ⟨a86, c87, rfl⟩ := rd_sl1 g84
 obtain ⟨a88, c89, rfl⟩ := rd_sl1 g85
 unfold laws_eqState at H
 refine f_enter Tryz.func11 rfl Tryz.ntmps11 rfl (St.init w []) <| sR <| ob _ rfl fun b90 => ob _ rfl fun b91 => oP rfl <| nQ <| c_seq <| sR <| ow_batch [.fa 59 0 0 fa59_0] rfl <| o1 rfl (rx 0 0 _ rfl ty51 rfl) <| ow_batch [.fa 59 0 0 fa59_0] rfl <| o1 rfl (rx 0 1 _ rfl ty51 rfl) <| bE H fun y92 h93 H => oq rfl (qc rfl fn27 (fun w1 hw1 => laws_eqConf_ok w1 h93 (rdm_Timpl_Conf (rdm_Timpl_Schema (rds_bor g32 w1 hw1) (rds_bor g33 w1 hw1)) rfl rfl rfl rfl rfl rfl) (rdm_Timpl_Conf (rdm_Timpl_Schema (rds_bor g72 w1 hw1) (rds_bor g73 w1 hw1)) rfl rfl rfl rfl rfl rfl))) tt2 <| oP rfl <| nQ <| cI H rfl (fun H => ?_) (fun H => ?_)
 ·exact sR <| oP rfl <| nT <| x_qs_ret <| xr 4 rfl (by cases H; exact q1)
 ·refine c_skip <| x_qs <| c_seq <| sR <| ow_batch [.fa 59 1 14 fa59_1] rfl <| o1 rfl (rx 14 0 _ rfl ty54 rfl) <| ow_batch [.fa 59 1 14 fa59_1] rfl <| o1 rfl (rx 14 1 _ rfl ty54 rfl) <| bE H fun y94 h95 H => oq rfl (qc rfl fn28 (fun w1 hw1 => laws_eqForest_ok w1 h95 (rdm_Timpl_Forest (rds_bor g39 w1 hw1)) (rdm_Timpl_Forest (rds_bor g79 w1 hw1)))) tt2 <| oP rfl <| nQ <| cI H rfl (fun H => ?_) (fun H => ?_)
  ·exact sR <| oP rfl <| nT <| x_qs_ret <| xr 4 rfl (by cases H; exact q1)
  ·refine c_skip <| x_qs <| c_seq <| sR <| ow_batch [.fa 59 2 15 fa59_2] rfl <| o1 rfl (rx 15 0 _ rfl ty57 rfl) <| ow_batch [.fa 59 2 15 fa59_2] rfl <| o1 rfl (rx 15 1 _ rfl ty57 rfl) <| bE H fun y96 h97 H => oq rfl (qc rfl fn29 (fun w1 hw1 => laws_eqScore_ok w1 h97 (rdm_Timpl_Score (rds_bor g44 w1 hw1) (rds_bor g45 w1 hw1)) (rdm_Timpl_Score (rds_bor g84 w1 hw1) (rds_bor g85 w1 hw1)))) tt2 <| oP rfl <| nQ <| cI H rfl (fun H => ?_) (fun H => ?_)
   ·exact sR <| oP rfl <| nT <| x_qs_ret <| xr 4 rfl (by cases H; exact q1)
   ·exact c_skip <| x_qs <| sR <| oP rfl <| nT <| xr 4 rfl (by cases H; exact q1)
theorem laws_eqEx_ok (w : World) {p0 : Timpl_Ex} {p1 : Timpl_Ex} {cs0 : List Value} {cs1 : List Value} {r : Bool} (H : laws_eqEx p0 p1 = some r)  (g0 : (eTimpl_Ex).rd w [] p0 cs0) (g1 : (eTimpl_Ex).rd w [] p1 cs1) :
    Calls Tryz.prog 12 #[.agg cs0.toArray, .agg cs1.toArray] w (fun en w' => en = .returned (.bool r) ∧ Ext [] w w') := by
 obtain ⟨c10, c11, rfl, g12, g13⟩ := rdo_Timpl_Ex g0
 obtain ⟨a14, c15, rfl⟩ := rd_sl1 g12
 obtain rfl := g13
 obtain ⟨c16, c17, rfl, g18, g19⟩ := rdo_Timpl_Ex g1
 obtain ⟨a20, c21, rfl⟩ := rd_sl1 g18
 obtain rfl := g19
 unfold laws_eqEx at H
 refine f_enter Tryz.func12 rfl Tryz.ntmps12 rfl (St.init w []) <| sR <| ob _ rfl fun b22 => ob _ rfl fun b23 => oP rfl <| nQ <| c_seq <| sR <| ow_batch [.fa 61 0 0 fa61_0] rfl <| o1 rfl (r1 0 0 rfl ty39 rfl) <| ow_batch [.fa 61 0 0 fa61_0] rfl <| o1 rfl (r1 0 1 rfl ty39 rfl) <| bE H fun y24 h25 H => oq rfl (qc rfl fn10 (fun w1 hw1 => laws_eqIntS_ok w1  h25 (rds_bor g12 w1 hw1) (rds_bor g18 w1 hw1))) tt2 <| oP rfl <| nQ <| cI H rfl (fun H => ?_) (fun H => ?_)
 ·exact sR <| oP rfl <| nT <| x_qs_ret <| xr 4 rfl (by cases H; exact q1)
 ·refine c_skip <| x_qs <| c_seq <| sR <| ow_batch [.fa 61 1 1 fa61_1] rfl <| o1 rfl (r1 1 0 rfl ty3 rfl) <| ow_batch [.fa 61 1 1 fa61_1] rfl <| o1 rfl (r1 1 1 rfl ty3 rfl) <| oP rfl <| nQ <| cI H rfl (fun H => ?_) (fun H => ?_)
  ·exact sR <| oP rfl <| nT <| x_qs_ret <| xr 4 rfl (by cases H; exact q1)
  ·exact c_skip <| x_qs <| sR <| oP rfl <| nT <| xr 4 rfl (by cases H; exact q1)
theorem laws_markText_ok (w : World) {p0 : Int}  {r : List UInt8} (H : laws_markText p0 = some r)   :
    Calls Tryz.prog 132 #[.int .i64 p0] w (fun en w' => en = .returned (vS r) ∧ Ext [] w w') := by
 unfold laws_markText at H
 refine f_enter Tryz.func132 rfl Tryz.ntmps132 rfl (St.init w []) <| sR <| oP rfl <| nQ <| c_seq <| sR <| oPP rfl <| nQ <| cI H rfl (fun H => ?_) (fun H => ?_)
 ·exact sR <| oP rfl <| nT <| x_qs_ret <| xr 2 rfl (by cases H; exact q1)
 ·refine c_skip <| x_qs <| sR <| oP rfl <| nQ <| c_seq <| c_block <| CW.at (loopI2 (fun (i15 : Int) (s16 : List UInt8) => St w [] []) (fun i15 s16 => [(0, .int .i64 i15), (3, vS s16)]) (fun kk => fun i15 s16 => laws_markText_L1 kk i15 s16 = some r) (fun _ _ H => ?_) (fun k1 ihk1 i15 s16 H => ?_) Fuel (p0) (([] : List UInt8)) (H)) (fun _ h => St.sel [] rfl rfl h) ⟨rfl, rfl,  trivial⟩
  ·unfold laws_markText_L1 at H
   exact absurd H (by simp)
  ·unfold laws_markText_L1 at H
   refine c_seq <| sR <| oPP rfl <| nQ <| cI H rfl (fun H => ?_) (fun H => ?_)
   ·exact c_skip <| x_qs <| c_block <| sR <| ow_batch [.p, .p, .p, .cv 3 5 .u8 us3 in5] rfl <| ow_blit (val := Value.int .u8) (h1 := fun _ => rfl) [IntKind.u8.wrap (IntKind.i64.wrap (48 + (Int.tmod i15 10)))] [(0, [.int .u8 (IntKind.u8.wrap (IntKind.i64.wrap (48 + (Int.tmod i15 10))))])] rfl rfl rfl rfl rfl sl200 ty5 rfl rfl rfl ⟨rfl, rfl, Nat.le_of_ble_eq_true rfl,  trivial⟩ rfl rfl (fun _ => kp) fun b22 => o1 rfl (ry_bts (xs := ([IntKind.u8.wrap (IntKind.i64.wrap (48 + (Int.tmod i15 10)))] : List Int)) rfl rfl sl200 in5 st9 (fun w1 hw1 => rds_own (e := eList (eVal (Value.int .u8) (fun _ => rfl)) 5) (r := 0) rfl w1 hw1)) <| oP rfl <| bE H fun s23 h24 H => o1 rfl (ry_sadd rfl rfl rfl h24) <| oP rfl <| nQ <| c_reg <| ow_batch [.p, .p, .p] rfl <| ow_nil <| x_qb <| x_ql (RW.at (ihk1 (IntKind.i64.wrap (Int.tdiv i15 10)) (s23) (H)) (fun _ h => St.sel [] rfl rfl h) ⟨rfl, rfl, trivial⟩)
   ·exact c_exit <| x_qs_exit <| x_ql_exit <| x_qb_here <| x_qs <| sR <| oP rfl <| bE H fun s25 h26 H => o1 rfl (ry_sadd rfl rfl rfl h26) <| oP rfl <| nT <| xr 2 rfl (by cases H; exact q1)
theorem laws_markIntS_ok (w : World) {M0 : List Nat} {p0 : List Int} {p1 : Int} {a_0_0 : Option Addr} {n_0_0 c_0_0 : Nat} {F_0_0 : List Nat} {r : Int × (List Int)} (H : laws_markIntS p0 p1 = some r) (HS : St w M0 [Res.own (eList eI 3) F_0_0 p0 [.slice a_0_0 n_0_0 c_0_0]] w)  :
    Calls Tryz.prog 15 #[.slice a_0_0 n_0_0 c_0_0, .int .i64 p1] w (fun en w' => ∃ v, en = .returned v ∧ ∃ (F0 : List Nat), v = .int .i64 r.1 ∧ St w M0 [Res.own (eList eI 3) F0 r.2 [.slice a_0_0 n_0_0 c_0_0]] w') := by
 obtain rfl := own_nS (i := 0) HS rfl
 unfold laws_markIntS at H
 refine f_enter Tryz.func15 rfl Tryz.ntmps15 rfl (HS) <| sR <| oP rfl <| nQ <| c_seq <| sR <| oP rfl <| nQ <| c_block <| CW.at (loopI3 (fun (l15 : List Int) (i17 : Int) (i18 : Int) => St w M0 [Res.own (eList eI 3) F_0_0 l15 [.slice a_0_0 p0.length c_0_0]]) (fun l15 i17 i18 => [(0, .slice a_0_0 p0.length c_0_0), (1, .int .i64 i17), (5, .int .i64 i18)]) (fun kk => fun l15 i17 i18 => laws_markIntS_L1 p0 kk l15 i17 i18 = some r) (fun _ _ _ H => ?_) (fun k1 ihk1 l15 i17 i18 H => ?_) Fuel (p0) (p1) (0) (H)) (fun _ h => St.sel [0] rfl rfl h) ⟨rfl, rfl, rfl,  trivial⟩
 ·unfold laws_markIntS_L1 at H
  exact absurd H (by simp)
 ·unfold laws_markIntS_L1 at H
  refine c_seq <| sR <| ow_batch [.p, .p, .lenS 39 3 sl39, .p] rfl <| nQ <| cI H rfl (fun H => ?_) (fun H => ?_)
  ·exact c_skip <| x_qs <| c_seq <| c_block <| sR <| ow_batch [.p, .p, .p] rfl <| bE H fun e24 h25 H => ow_ixE (e := eI) (xs := l15) (j := i18) rfl rfl rfl rfl rfl sl39 ty3 rfl (fun w1 hw1 => rds_own (e := eList eI 3) (r := 0) rfl w1 hw1) h25 (by rw [Nat.mul_one]) <| ow_storeV (i := 0) (j := i18) rfl rfl rfl rfl rfl rfl ty3 rfl h25 (fun _ => rfl) kp <| nQ <| c_reg <| ow_batch [.p, .p, .p] rfl <| ow_nil <| x_qb <| x_qs <| c_reg <| ow_batch [.p, .p, .p] rfl <| ow_nil <| x_ql (RW.at (ihk1 ((l15.set i18.toNat i17)) (IntKind.i64.wrap (i17 + 1)) (IntKind.i64.wrap (i18 + 1)) (H)) (fun _ h => St.sel [0] rfl rfl h) ⟨rfl, rfl, rfl, trivial⟩)
  ·exact c_exit <| x_qs_exit <| x_ql_exit <| x_qb_here <| x_qs <| sR <| oPP rfl <| nT <| x_retR (rs := [.tmp 4]) (vs := [.int .i64 i17]) rfl ⟨rfl, trivial⟩ (fun w' hw' => by
    obtain rfl := of_some H
    exact ⟨_, rfl, F_0_0, rfl, hw'.sel [0] rfl rfl⟩)
theorem laws_markStringS_ok (w : World) {M0 : List Nat} {p0 : List (List UInt8)} {p1 : Int} {a_0_0 : Option Addr} {n_0_0 c_0_0 : Nat} {F_0_0 : List Nat} {r : Int × (List (List UInt8))} (H : laws_markStringS p0 p1 = some r) (HS : St w M0 [Res.own (eList (eStr) 9) F_0_0 p0 [.slice a_0_0 n_0_0 c_0_0]] w)  :
    Calls Tryz.prog 98 #[.slice a_0_0 n_0_0 c_0_0, .int .i64 p1] w (fun en w' => ∃ v, en = .returned v ∧ ∃ (F0 : List Nat), v = .int .i64 r.1 ∧ St w M0 [Res.own (eList (eStr) 9) F0 r.2 [.slice a_0_0 n_0_0 c_0_0]] w') := by
 obtain rfl := own_nS (i := 0) HS rfl
 unfold laws_markStringS at H
 refine f_enter Tryz.func98 rfl Tryz.ntmps98 rfl (HS) <| sR <| oP rfl <| nQ <| c_seq <| sR <| oP rfl <| nQ <| c_block <| CW.at (loopI3 (fun (l18 : List (List UInt8)) (i19 : Int) (i20 : Int) => St w M0 [Res.own (eList (eStr) 9) F_0_0 l18 [.slice a_0_0 p0.length c_0_0]]) (fun l18 i19 i20 => [(0, .slice a_0_0 p0.length c_0_0), (1, .int .i64 i19), (5, .int .i64 i20)]) (fun kk => fun l18 i19 i20 => laws_markStringS_L1 p0 kk l18 i19 i20 = some r) (fun _ _ _ H => ?_) (fun k1 ihk1 l18 i19 i20 H => ?_) Fuel (p0) (p1) (0) (H)) (fun _ h => St.sel [0] rfl rfl h) ⟨rfl, rfl, rfl,  trivial⟩
 ·unfold laws_markStringS_L1 at H
  exact absurd H (by simp)
 ·unfold laws_markStringS_L1 at H
  refine c_seq <| sR <| ow_batch [.p, .p, .lenS 23 9 sl23, .p] rfl <| nQ <| cI H rfl (fun H => ?_) (fun H => ?_)
  ·exact c_skip <| x_qs <| c_seq <| c_block <| sR <| ow_batch [.p, .p, .p] rfl <| bE H fun y28 h29 H => oq rfl (qc rfl fn132 (fun w1 hw1 => laws_markText_ok w1  h29)) tt2 <| bE H fun e30 h31 H => ow_ixE (e := eStr) (xs := l18) (j := i20) rfl rfl rfl rfl rfl sl23 ty9 rfl (fun w1 hw1 => rds_own (e := eList (eStr) 9) (r := 0) rfl w1 hw1) h31 (by rw [Nat.mul_one]) <| ow_storeV (i := 0) (j := i20) rfl rfl rfl rfl rfl rfl ty9 rfl h31 (fun _ => rfl) kp <| nQ <| c_reg <| ow_batch [.p, .p, .p] rfl <| ow_nil <| x_qb <| x_qs <| c_reg <| ow_batch [.p, .p, .p] rfl <| ow_nil <| x_ql (RW.at (ihk1 ((l18.set i20.toNat y28)) (IntKind.i64.wrap (i19 + 1)) (IntKind.i64.wrap (i20 + 1)) (H)) (fun _ h => St.sel [0] rfl rfl h) ⟨rfl, rfl, rfl, trivial⟩)
  ·exact c_exit <| x_qs_exit <| x_ql_exit <| x_qb_here <| x_qs <| sR <| oPP rfl <| nT <| x_retR (rs := [.tmp 4]) (vs := [.int .i64 i19]) rfl ⟨rfl, trivial⟩ (fun w' hw' => by
    obtain rfl := of_some H
    exact ⟨_, rfl, F_0_0, rfl, hw'.sel [0] rfl rfl⟩)
theorem laws_markAttrS_ok (w : World) {M0 : List Nat} {p0 : List Timpl_Attr} {p1 : Int} {a_0_0 : Option Addr} {n_0_0 c_0_0 : Nat} {F_0_0 : List Nat} {r : Int × (List Timpl_Attr)} (H : laws_markAttrS p0 p1 = some r) (HS : St w M0 [Res.own (eList (eTimpl_Attr) 133) F_0_0 p0 [.slice a_0_0 n_0_0 c_0_0]] w)  :
    Calls Tryz.prog 97 #[.slice a_0_0 n_0_0 c_0_0, .int .i64 p1] w (fun en w' => ∃ v, en = .returned v ∧ ∃ (F0 : List Nat), v = .int .i64 r.1 ∧ St w M0 [Res.own (eList (eTimpl_Attr) 133) F0 r.2 [.slice a_0_0 n_0_0 c_0_0]] w') := by
 obtain rfl := own_nS (i := 0) HS rfl
 unfold laws_markAttrS at H
 refine f_enter Tryz.func97 rfl Tryz.ntmps97 rfl (HS) <| sR <| oP rfl <| nQ <| c_seq <| sR <| oP rfl <| nQ <| c_block <| CW.at (loopI4 (fun (l46 : List Timpl_Attr) (F47 : List Nat) (i48 : Int) (i49 : Int) => St w M0 [Res.own (eList (eTimpl_Attr) 133) F47 l46 [.slice a_0_0 p0.length c_0_0]]) (fun l46 F47 i48 i49 => [(0, .slice a_0_0 p0.length c_0_0), (1, .int .i64 i48), (5, .int .i64 i49)]) (fun kk => fun l46 F47 i48 i49 => laws_markAttrS_L1 p0 kk l46 i48 i49 = some r) (fun _ _ _ _ H => ?_) (fun k1 ihk1 l46 F47 i48 i49 H => ?_) Fuel (p0) (F_0_0) (p1) (0) (H)) (fun _ h => St.sel [0] rfl rfl h) ⟨rfl, rfl, rfl,  trivial⟩
 ·unfold laws_markAttrS_L1 at H
  exact absurd H (by simp)
 ·unfold laws_markAttrS_L1 at H
  refine c_seq <| sR <| ow_batch [.p, .p, .lenS 46 133 sl46, .p] rfl <| nQ <| cI H rfl (fun H => ?_) (fun H => ?_)
  ·refine c_skip <| x_qs <| c_seq <| c_block <| sR <| ow_batch [.p, .p, .p] rfl <| bE H fun y86 h87 H => oq rfl (qc rfl fn132 (fun w1 hw1 => laws_markText_ok w1  h87)) tt2 <| bE H fun e88 h89 H => ow_ex4 rfl (fun w1 hw1 => foc (r := 0) hw1 rfl h89) fun b91 G92 F93 c94 => ow_fact rfl (fun w1 hw1 => hw1.1) fun q90 => ?_
   obtain ⟨ha95, hn96⟩ := q90
   refine ow_st (C' := St w M0 [_, _, _]) rfl (fun w1 hw1 => hw1.2) <| ow_ex3 rfl (fun w1 hw1 => opn_Timpl_Attr (i := 2) hw1 rfl) fun a98 c99 F100 => ow_ex3 rfl (fun _ h => h) fun a101 c102 F103 => ow_fact rfl (fun w1 hw1 => hw1.1) fun q97 => ?_
   subst q97
   refine ow_st (C' := St w M0 [_, _, _, _, _]) rfl (fun w1 hw1 => hw1.2) <| ow_ixH rfl rfl rfl rfl rfl sl46 ty133 rfl (holeIn (p := 1) rfl) hn96 ha95 (idx_some h89).1 <| ow_batch [.fa 133 0 0 fa133_0] rfl <| ow_storeH (off := 0) [vS y86] (p := 1) (c' := [_, _, _]) rfl rfl rfl rfl rfl (by first | rfl | simp only [add_lit, add_add, add_zero]) rfl ty9 rfl rfl (by intro u hu; simp only [List.mem_cons, List.not_mem_nil, or_false] at hu; rcases hu with rfl <;> rfl) rfl rfl rfl kp <| nQ <| c_seq <| CW.weak (C' := St w M0 [_, _, _]) ?_ (fun _ h => St.sel [1, 3, 4] rfl rfl h)
   refine c_reg <| ow_batch [.p, .p, .p] rfl <| nR <| oPP rfl <| ow_ixH rfl rfl rfl rfl rfl sl46 ty133 rfl (holeIn (p := 0) rfl) hn96 ha95 (idx_some h89).1 <| ow_batch [.fa 133 1 1 fa133_1] rfl <| o1 rfl (ry_hole1 0 1 rfl rfl rfl ty39 (by first | rfl | simp only [add_lit, add_add, add_zero]) rfl) <| oP rfl <| bE H fun y104 h105 H => ow_callS rfl fn15 rfl rfl rfl rfl (fun w1 hw1 => laws_markIntS_ok w1  h105 (hw1.carve [1] rfl rfl)) fun v106 w1 w2 hw1 hR108 => ?_
   obtain ⟨F109, rfl, hS107⟩ := hR108
   refine ⟨St w M0 [_, _, _, _], hw1.comp [1] rfl rfl hS107, fun _ _ => trivial, ?_⟩
   refine oP rfl <| nQ <| c_reg <| oPP rfl <| ow_ixH rfl rfl rfl rfl rfl sl46 ty133 rfl (holeIn (p := 0) rfl) hn96 ha95 (idx_some h89).1 <| ow_batch [.fa 133 2 2 fa133_2] rfl <| o1 rfl (ry_hole1 0 2 rfl rfl rfl ty23 (by first | rfl | simp only [add_lit, add_add, add_zero]) rfl) <| oP rfl <| bE H fun y110 h111 H => ow_callS rfl fn98 rfl rfl rfl rfl (fun w1 hw1 => laws_markStringS_ok w1  h111 (hw1.carve [2] rfl rfl)) fun v112 w1 w2 hw1 hR114 => ?_
   obtain ⟨F115, rfl, hS113⟩ := hR114
   refine ⟨St w M0 [_, _, _, _, _], hw1.comp [2] rfl rfl hS113, fun _ _ => trivial, ?_⟩
   refine oP rfl <| ow_nil <| x_qb <| x_qs <| CW.weak (C' := St w M0 [_, _, _]) ?_ (fun _ h => St.sel [0, 3, 4] rfl rfl h)
   exact c_reg <| ow_batch [.p, .p, .p] rfl <| ow_nil <| xw_ex (fun w1 hw1 => fus_Timpl_Attr (x0 := y86) [1, 2] hw1 rfl rfl) fun F116 => xw_st (C' := St w M0 [_, _, _, _]) (fun _ h => h) <| xw_ex (fun w1 hw1 => unf (p := 0) (q := 3) hw1 rfl rfl rfl hn96 ha95) fun F117 => xw_st (C' := St w M0 [_, _, _, _, _]) (fun _ h => h) <| x_ql (RW.at (ihk1 ((l46.set i49.toNat (Timpl_Attr.mk y86 y104.2 y110.2))) (F117) (y110.1) (IntKind.i64.wrap (i49 + 1)) (H)) (fun _ h => St.sel [4] rfl rfl h) ⟨rfl, rfl, rfl, trivial⟩)
  ·exact c_exit <| x_qs_exit <| x_ql_exit <| x_qb_here <| x_qs <| sR <| oPP rfl <| nT <| x_retR (rs := [.tmp 4]) (vs := [.int .i64 i48]) rfl ⟨rfl, trivial⟩ (fun w' hw' => by
    obtain rfl := of_some H
    exact ⟨_, rfl, F47, rfl, hw'.sel [0] rfl rfl⟩)
theorem laws_markSchema_ok (w : World) {M0 : List Nat} {p0 : Timpl_Schema} {p1 : Int} {a_0_0 : Option Addr} {n_0_0 c_0_0 : Nat} {F_0_0 : List Nat} {a_0_1 : Option Addr} {n_0_1 c_0_1 : Nat} {F_0_1 : List Nat} {r : Int × Timpl_Schema} (H : laws_markSchema p0 p1 = some r) (HS : St w M0 [Res.own (eList (eTimpl_Attr) 133) F_0_0 p0.Attrs_ [.slice a_0_0 n_0_0 c_0_0], Res.own (eList (eStr) 9) F_0_1 p0.Classes_ [.slice a_0_1 n_0_1 c_0_1]] w)  :
    Calls Tryz.prog 59 #[.agg #[.slice a_0_0 n_0_0 c_0_0, .slice a_0_1 n_0_1 c_0_1], .int .i64 p1] w (fun en w' => ∃ v, en = .returned v ∧ ∃ (F0 : List Nat), ∃ (F1 : List Nat), v = .int .i64 r.1 ∧ St w M0 [Res.own (eList (eTimpl_Attr) 133) F0 r.2.Attrs_ [.slice a_0_0 n_0_0 c_0_0], Res.own (eList (eStr) 9) F1 r.2.Classes_ [.slice a_0_1 n_0_1 c_0_1]] w') := by
 obtain rfl := own_nS (i := 0) HS rfl
 obtain rfl := own_nS (i := 1) HS rfl
 unfold laws_markSchema at H
 refine f_enter Tryz.func59 rfl Tryz.ntmps59 rfl (HS) <| sR <| ob _ rfl fun b10 => oP rfl <| nR <| ow_batch [.fa 48 0 0 fa48_0] rfl <| o1 rfl (r1 0 2 rfl ty46 rfl) <| oP rfl <| bE H fun y11 h12 H => ow_callS rfl fn97 rfl rfl rfl rfl (fun w1 hw1 => laws_markAttrS_ok w1  h12 (hw1.carve [0] rfl rfl)) fun v13 w1 w2 hw1 hR15 => ?_
 obtain ⟨F16, rfl, hS14⟩ := hR15
 refine ⟨St w M0 [_, _, _, _], hw1.comp [0] rfl rfl hS14, fun _ _ => trivial, ?_⟩
 refine oP rfl <| nR <| ow_batch [.fa 48 1 1 fa48_1] rfl <| o1 rfl (r1 1 2 rfl ty23 rfl) <| oP rfl <| bE H fun y17 h18 H => ow_callS rfl fn98 rfl rfl rfl rfl (fun w1 hw1 => laws_markStringS_ok w1  h18 (hw1.carve [1] rfl rfl)) fun v19 w1 w2 hw1 hR21 => ?_
 obtain ⟨F22, rfl, hS20⟩ := hR21
 refine ⟨St w M0 [_, _, _, _, _], hw1.comp [1] rfl rfl hS20, fun _ _ => trivial, ?_⟩
 refine oP rfl <| nQ <| c_seq <| CW.weak (C' := St w M0 [_, _, _]) ?_ (fun _ h => St.sel [2, 3, 4] rfl rfl h)
 exact c_reg <| oPP rfl <| nT <| x_retR (rs := [.tmp 4]) (vs := [.int .i64 y17.1]) rfl ⟨rfl, trivial⟩ (fun w' hw' => by
  obtain rfl := of_some H
  exact ⟨_, rfl, F16, F22, rfl, hw'.sel [1, 2] rfl rfl⟩)
theorem laws_markConf_ok (w : World) {M0 : List Nat} {p0 : Timpl_Conf} {p1 : Int} {a_0_0 : Option Addr} {n_0_0 c_0_0 : Nat} {F_0_0 : List Nat} {a_0_1 : Option Addr} {n_0_1 c_0_1 : Nat} {F_0_1 : List Nat} {r : Int × Timpl_Conf} (H : laws_markConf p0 p1 = some r) (HS : St w M0 [Res.own (eList (eTimpl_Attr) 133) F_0_0 p0.Schema_.Attrs_ [.slice a_0_0 n_0_0 c_0_0], Res.own (eList (eStr) 9) F_0_1 p0.Schema_.Classes_ [.slice a_0_1 n_0_1 c_0_1]] w)  :
    Calls Tryz.prog 30 #[.agg #[.slice a_0_0 n_0_0 c_0_0, .slice a_0_1 n_0_1 c_0_1, .int .i64 p0.Rule_.Sure_, .int .i64 p0.Rule_.Tie_, .int .i64 p0.Rule_.Grace_, .int .i64 p0.Rule_.Depth_, .int .i64 p0.Rule_.Nodes_, .int .i64 p0.Rule_.Units_, .bool p0.Rule_.Two_, .int .i64 p0.Members_, .int .i64 p0.Pick_, .int .i64 p0.Lambda_, .int .i64 p0.Warn_, .int .i64 p0.Drift_], .int .i64 p1] w (fun en w' => ∃ v, en = .returned v ∧ ∃ (F0 : List Nat), ∃ (F1 : List Nat), v = .int .i64 r.1 ∧ St w M0 [Res.own (eList (eTimpl_Attr) 133) F0 r.2.Schema_.Attrs_ [.slice a_0_0 n_0_0 c_0_0], Res.own (eList (eStr) 9) F1 r.2.Schema_.Classes_ [.slice a_0_1 n_0_1 c_0_1]] w') := by
 obtain rfl := own_nS (i := 0) HS rfl
 obtain rfl := own_nS (i := 1) HS rfl
 unfold laws_markConf at H
 refine f_enter Tryz.func30 rfl Tryz.ntmps30 rfl (HS) <| sR <| ob _ rfl fun b10 => oP rfl <| nR <| ow_batch [.fa 51 0 0 fa51_0] rfl <| o1 rfl (rx 0 2 _ rfl ty48 rfl) <| oP rfl <| bE H fun y11 h12 H => ow_callS rfl fn59 rfl rfl rfl rfl (fun w1 hw1 => laws_markSchema_ok w1  h12 (hw1.carve [0, 1] rfl rfl)) fun v13 w1 w2 hw1 hR15 => ?_
 obtain ⟨F16, F17, rfl, hS14⟩ := hR15
 refine ⟨St w M0 [_, _, _, _, _], hw1.comp [0, 1] rfl rfl hS14, fun _ _ => trivial, ?_⟩
 refine oP rfl <| nQ <| c_seq <| CW.weak (C' := St w M0 [_, _, _]) ?_ (fun _ h => St.sel [2, 3, 4] rfl rfl h)
 exact c_reg <| oPP rfl <| nT <| x_retR (rs := [.tmp 4]) (vs := [.int .i64 y11.1]) rfl ⟨rfl, trivial⟩ (fun w' hw' => by
  obtain rfl := of_some H
  exact ⟨_, rfl, F16, F17, rfl, hw'.sel [1, 2] rfl rfl⟩)
theorem laws_markIntSS_ok (w : World) {M0 : List Nat} {p0 : List (List Int)} {p1 : Int} {a_0_0 : Option Addr} {n_0_0 c_0_0 : Nat} {F_0_0 : List Nat} {r : Int × (List (List Int))} (H : laws_markIntSS p0 p1 = some r) (HS : St w M0 [Res.own (eList (eList eI 3) 39) F_0_0 p0 [.slice a_0_0 n_0_0 c_0_0]] w)  :
    Calls Tryz.prog 61 #[.slice a_0_0 n_0_0 c_0_0, .int .i64 p1] w (fun en w' => ∃ v, en = .returned v ∧ ∃ (F0 : List Nat), v = .int .i64 r.1 ∧ St w M0 [Res.own (eList (eList eI 3) 39) F0 r.2 [.slice a_0_0 n_0_0 c_0_0]] w') := by
 obtain rfl := own_nS (i := 0) HS rfl
 unfold laws_markIntSS at H
 refine f_enter Tryz.func61 rfl Tryz.ntmps61 rfl (HS) <| sR <| oP rfl <| nQ <| c_seq <| sR <| oP rfl <| nQ <| c_block <| CW.at (loopI4 (fun (l34 : List (List Int)) (F35 : List Nat) (i36 : Int) (i37 : Int) => St w M0 [Res.own (eList (eList eI 3) 39) F35 l34 [.slice a_0_0 p0.length c_0_0]]) (fun l34 F35 i36 i37 => [(0, .slice a_0_0 p0.length c_0_0), (1, .int .i64 i36), (5, .int .i64 i37)]) (fun kk => fun l34 F35 i36 i37 => laws_markIntSS_L1 p0 kk l34 i36 i37 = some r) (fun _ _ _ _ H => ?_) (fun k1 ihk1 l34 F35 i36 i37 H => ?_) Fuel (p0) (F_0_0) (p1) (0) (H)) (fun _ h => St.sel [0] rfl rfl h) ⟨rfl, rfl, rfl,  trivial⟩
 ·unfold laws_markIntSS_L1 at H
  exact absurd H (by simp)
 ·unfold laws_markIntSS_L1 at H
  refine c_seq <| sR <| ow_batch [.p, .p, .lenS 33 39 sl33, .p] rfl <| nQ <| cI H rfl (fun H => ?_) (fun H => ?_)
  ·refine c_skip <| x_qs <| c_seq <| c_block <| c_reg <| oPP rfl <| bE H fun e61 h62 H => ow_ex4 rfl (fun w1 hw1 => foc (r := 0) hw1 rfl h62) fun b64 G65 F66 c67 => ow_fact rfl (fun w1 hw1 => hw1.1) fun q63 => ?_
   obtain ⟨ha68, hn69⟩ := q63
   refine ow_st (C' := St w M0 [_, _, _]) rfl (fun w1 hw1 => hw1.2) <| ow_ex2 rfl (fun w1 hw1 => opn_sl (i := 2) hw1 rfl) fun a70 c71 => ow_fact rfl (fun w1 hw1 => hw1.1) fun q72 => ?_
   subst q72
   refine ow_st (C' := St w M0 [_, _, _]) rfl (fun w1 hw1 => hw1.2) <| ow_ixH rfl rfl rfl rfl rfl sl33 ty39 rfl (holeIn (p := 1) rfl) hn69 ha68 (idx_some h62).1 <| o1 rfl (ry_hole1 1 0 rfl rfl rfl ty39 (by first | rfl | simp only [add_lit, add_add, add_zero]) rfl) <| oP rfl <| bE H fun y73 h74 H => ow_callS rfl fn15 rfl rfl rfl rfl (fun w1 hw1 => laws_markIntS_ok w1  h74 (hw1.carve [2] rfl rfl)) fun v75 w1 w2 hw1 hR77 => ?_
   obtain ⟨F78, rfl, hS76⟩ := hR77
   refine ⟨St w M0 [_, _, _, _], hw1.comp [2] rfl rfl hS76, fun _ _ => trivial, ?_⟩
   refine oP rfl <| ow_nil <| x_qb <| x_qs <| CW.weak (C' := St w M0 [_, _]) ?_ (fun _ h => St.sel [1, 3] rfl rfl h)
   exact c_reg <| ow_batch [.p, .p, .p] rfl <| ow_nil <| xw_ex (fun w1 hw1 => unf (p := 0) (q := 1) hw1 rfl rfl rfl hn69 ha68) fun F79 => xw_st (C' := St w M0 [_, _, _]) (fun _ h => h) <| x_ql (RW.at (ihk1 ((l34.set i37.toNat y73.2)) (F79) (y73.1) (IntKind.i64.wrap (i37 + 1)) (H)) (fun _ h => St.sel [2] rfl rfl h) ⟨rfl, rfl, rfl, trivial⟩)
  ·exact c_exit <| x_qs_exit <| x_ql_exit <| x_qb_here <| x_qs <| sR <| oPP rfl <| nT <| x_retR (rs := [.tmp 4]) (vs := [.int .i64 i36]) rfl ⟨rfl, trivial⟩ (fun w' hw' => by
    obtain rfl := of_some H
    exact ⟨_, rfl, F35, rfl, hw'.sel [0] rfl rfl⟩)
theorem laws_markNodeS_ok (w : World) {M0 : List Nat} {p0 : List Timpl_Node} {p1 : Int} {a_0_0 : Option Addr} {n_0_0 c_0_0 : Nat} {F_0_0 : List Nat} {r : Int × (List Timpl_Node)} (H : laws_markNodeS p0 p1 = some r) (HS : St w M0 [Res.own (eList (eTimpl_Node) 169) F_0_0 p0 [.slice a_0_0 n_0_0 c_0_0]] w)  :
    Calls Tryz.prog 99 #[.slice a_0_0 n_0_0 c_0_0, .int .i64 p1] w (fun en w' => ∃ v, en = .returned v ∧ ∃ (F0 : List Nat), v = .int .i64 r.1 ∧ St w M0 [Res.own (eList (eTimpl_Node) 169) F0 r.2 [.slice a_0_0 n_0_0 c_0_0]] w') := by
 obtain rfl := own_nS (i := 0) HS rfl
 unfold laws_markNodeS at H
 refine f_enter Tryz.func99 rfl Tryz.ntmps99 rfl (HS) <| sR <| oP rfl <| nQ <| c_seq <| sR <| oP rfl <| nQ <| c_block <| CW.at (loopI4 (fun (l62 : List Timpl_Node) (F63 : List Nat) (i65 : Int) (i66 : Int) => St w M0 [Res.own (eList (eTimpl_Node) 169) F63 l62 [.slice a_0_0 p0.length c_0_0]]) (fun l62 F63 i65 i66 => [(0, .slice a_0_0 p0.length c_0_0), (1, .int .i64 i65), (5, .int .i64 i66)]) (fun kk => fun l62 F63 i65 i66 => laws_markNodeS_L1 p0 kk l62 i65 i66 = some r) (fun _ _ _ _ H => ?_) (fun k1 ihk1 l62 F63 i65 i66 H => ?_) Fuel (p0) (F_0_0) (p1) (0) (H)) (fun _ h => St.sel [0] rfl rfl h) ⟨rfl, rfl, rfl,  trivial⟩
 ·unfold laws_markNodeS_L1 at H
  exact absurd H (by simp)
 ·unfold laws_markNodeS_L1 at H
  refine c_seq <| sR <| ow_batch [.p, .p, .lenS 91 169 sl91, .p] rfl <| nQ <| cI H rfl (fun H => ?_) (fun H => ?_)
  ·refine c_skip <| x_qs <| c_seq <| c_block <| sR <| ow_batch [.p, .p, .p, .p, .p] rfl <| bE H fun e119 h120 H => ow_ex4 rfl (fun w1 hw1 => foc (r := 0) hw1 rfl h120) fun b122 G123 F124 c125 => ow_fact rfl (fun w1 hw1 => hw1.1) fun q121 => ?_
   obtain ⟨ha126, hn127⟩ := q121
   refine ow_st (C' := St w M0 [_, _, _]) rfl (fun w1 hw1 => hw1.2) <| ow_ex3 rfl (fun w1 hw1 => opn_Timpl_Node (i := 2) hw1 rfl) fun a129 c130 F131 => ow_ex3 rfl (fun _ h => h) fun a132 c133 F134 => ow_ex3 rfl (fun _ h => h) fun a135 c136 F137 => ow_ex3 rfl (fun _ h => h) fun a138 c139 F140 => ow_fact rfl (fun w1 hw1 => hw1.1) fun q128 => ?_
   subst q128
   refine ow_st (C' := St w M0 [_, _, _, _, _, _, _]) rfl (fun w1 hw1 => hw1.2) <| ow_ixH rfl rfl rfl rfl rfl sl91 ty169 rfl (holeIn (p := 1) rfl) hn127 ha126 (idx_some h120).1 <| ow_batch [.fa 169 0 0 fa169_0] rfl <| ow_storeH (off := 0) [.bool ((Int.tmod i65 3) == 0)] (p := 1) (c' := [_, _, _, _, _, _, _, _, _, _, _, _]) rfl rfl rfl rfl rfl (by first | rfl | simp only [add_lit, add_add, add_zero]) rfl ty4 rfl rfl (by intro u hu; simp only [List.mem_cons, List.not_mem_nil, or_false] at hu; rcases hu with rfl <;> rfl) rfl rfl rfl kp <| nQ <| c_seq <| CW.weak (C' := St w M0 [_, _, _, _, _]) ?_ (fun _ h => St.sel [1, 3, 4, 5, 6] rfl rfl h)
   refine c_reg <| ow_batch [.p, .p, .p] rfl <| nR <| ow_batch [.p, .p, .p] rfl <| ow_ixH rfl rfl rfl rfl rfl sl91 ty169 rfl (holeIn (p := 0) rfl) hn127 ha126 (idx_some h120).1 <| ow_batch [.fa 169 1 1 fa169_1, .fa 165 0 0 fa165_0] rfl <| ow_storeH (off := 1) [.int .i64 (IntKind.i64.wrap (i65 + 1))] (p := 0) (c' := [_, _, _, _, _, _, _, _, _, _, _, _]) rfl rfl rfl rfl rfl (by first | rfl | simp only [add_lit, add_add, add_zero]) rfl ty3 rfl rfl (by intro u hu; simp only [List.mem_cons, List.not_mem_nil, or_false] at hu; rcases hu with rfl <;> rfl) rfl rfl rfl kp <| nR <| ow_batch [.p, .p, .p] rfl <| nR <| ow_batch [.p, .p, .p] rfl <| ow_ixH rfl rfl rfl rfl rfl sl91 ty169 rfl (holeIn (p := 0) rfl) hn127 ha126 (idx_some h120).1 <| ow_batch [.fa 169 1 1 fa169_1, .fa 165 1 1 fa165_1] rfl <| ow_storeH (off := 2) [.int .i64 (IntKind.i64.wrap ((IntKind.i64.wrap (i65 + 1)) + 1))] (p := 0) (c' := [_, _, _, _, _, _, _, _, _, _, _, _]) rfl rfl rfl rfl rfl (by first | rfl | simp only [add_lit, add_add, add_zero]) rfl ty3 rfl rfl (by intro u hu; simp only [List.mem_cons, List.not_mem_nil, or_false] at hu; rcases hu with rfl <;> rfl) rfl rfl rfl kp <| nR <| ow_batch [.p, .p, .p] rfl <| nR <| oPP rfl <| ow_ixH rfl rfl rfl rfl rfl sl91 ty169 rfl (holeIn (p := 0) rfl) hn127 ha126 (idx_some h120).1 <| ow_batch [.fa 169 2 3 fa169_2] rfl <| o1 rfl (ry_hole1 0 3 rfl rfl rfl ty39 (by first | rfl | simp only [add_lit, add_add, add_zero]) rfl) <| oP rfl <| bE H fun y141 h142 H => ow_callS rfl fn15 rfl rfl rfl rfl (fun w1 hw1 => laws_markIntS_ok w1  h142 (hw1.carve [1] rfl rfl)) fun v143 w1 w2 hw1 hR145 => ?_
   obtain ⟨F146, rfl, hS144⟩ := hR145
   refine ⟨St w M0 [_, _, _, _, _, _], hw1.comp [1] rfl rfl hS144, fun _ _ => trivial, ?_⟩
   refine oP rfl <| nR <| ow_batch [.p, .p, .p] rfl <| ow_ixH rfl rfl rfl rfl rfl sl91 ty169 rfl (holeIn (p := 0) rfl) hn127 ha126 (idx_some h120).1 <| ow_batch [.fa 169 3 4 fa169_3] rfl <| ow_storeH (off := 4) [.int .i64 y141.1] (p := 0) (c' := [_, _, _, _, _, _, _, _, _, _, _, _]) rfl rfl rfl rfl rfl (by first | rfl | simp only [add_lit, add_add, add_zero]) rfl ty3 rfl rfl (by intro u hu; simp only [List.mem_cons, List.not_mem_nil, or_false] at hu; rcases hu with rfl <;> rfl) rfl rfl rfl kp <| nR <| ow_batch [.p, .p, .p] rfl <| nR <| oPP rfl <| ow_ixH rfl rfl rfl rfl rfl sl91 ty169 rfl (holeIn (p := 0) rfl) hn127 ha126 (idx_some h120).1 <| ow_batch [.fa 169 4 5 fa169_4, .fa 167 0 0 fa167_0] rfl <| o1 rfl (ry_hole1 0 5 rfl rfl rfl ty39 (by first | rfl | simp only [add_lit, add_add, add_zero]) rfl) <| oP rfl <| bE H fun y147 h148 H => ow_callS rfl fn15 rfl rfl rfl rfl (fun w1 hw1 => laws_markIntS_ok w1  h148 (hw1.carve [2] rfl rfl)) fun v149 w1 w2 hw1 hR151 => ?_
   obtain ⟨F152, rfl, hS150⟩ := hR151
   refine ⟨St w M0 [_, _, _, _, _, _, _], hw1.comp [2] rfl rfl hS150, fun _ _ => trivial, ?_⟩
   refine oP rfl <| nQ <| c_seq <| CW.weak (C' := St w M0 [_, _, _, _, _]) ?_ (fun _ h => St.sel [0, 3, 4, 5, 6] rfl rfl h)
   refine c_reg <| oPP rfl <| ow_ixH rfl rfl rfl rfl rfl sl91 ty169 rfl (holeIn (p := 0) rfl) hn127 ha126 (idx_some h120).1 <| ow_batch [.fa 169 4 5 fa169_4, .fa 167 1 1 fa167_1] rfl <| o1 rfl (ry_hole1 0 6 rfl rfl rfl ty33 (by first | rfl | simp only [add_lit, add_add, add_zero]) rfl) <| oP rfl <| bE H fun y153 h154 H => ow_callS rfl fn61 rfl rfl rfl rfl (fun w1 hw1 => laws_markIntSS_ok w1  h154 (hw1.carve [1] rfl rfl)) fun v155 w1 w2 hw1 hR157 => ?_
   obtain ⟨F158, rfl, hS156⟩ := hR157
   refine ⟨St w M0 [_, _, _, _, _, _], hw1.comp [1] rfl rfl hS156, fun _ _ => trivial, ?_⟩
   refine oP rfl <| nR <| ow_batch [.p, .p, .p] rfl <| ow_ixH rfl rfl rfl rfl rfl sl91 ty169 rfl (holeIn (p := 0) rfl) hn127 ha126 (idx_some h120).1 <| ow_batch [.fa 169 5 7 fa169_5] rfl <| ow_storeH (off := 7) [.int .i64 y153.1] (p := 0) (c' := [_, _, _, _, _, _, _, _, _, _, _, _]) rfl rfl rfl rfl rfl (by first | rfl | simp only [add_lit, add_add, add_zero]) rfl ty3 rfl rfl (by intro u hu; simp only [List.mem_cons, List.not_mem_nil, or_false] at hu; rcases hu with rfl <;> rfl) rfl rfl rfl kp <| nR <| ow_batch [.p, .p, .p] rfl <| nR <| oPP rfl <| ow_ixH rfl rfl rfl rfl rfl sl91 ty169 rfl (holeIn (p := 0) rfl) hn127 ha126 (idx_some h120).1 <| ow_batch [.fa 169 6 8 fa169_6] rfl <| o1 rfl (ry_hole1 0 8 rfl rfl rfl ty39 (by first | rfl | simp only [add_lit, add_add, add_zero]) rfl) <| oP rfl <| bE H fun y159 h160 H => ow_callS rfl fn15 rfl rfl rfl rfl (fun w1 hw1 => laws_markIntS_ok w1  h160 (hw1.carve [2] rfl rfl)) fun v161 w1 w2 hw1 hR163 => ?_
   obtain ⟨F164, rfl, hS162⟩ := hR163
   refine ⟨St w M0 [_, _, _, _, _, _, _], hw1.comp [2] rfl rfl hS162, fun _ _ => trivial, ?_⟩
   refine oP rfl <| nQ <| c_seq <| CW.weak (C' := St w M0 [_, _, _, _, _]) ?_ (fun _ h => St.sel [0, 3, 4, 5, 6] rfl rfl h)
   refine c_reg <| ow_batch [.p, .p, .p] rfl <| ow_ixH rfl rfl rfl rfl rfl sl91 ty169 rfl (holeIn (p := 0) rfl) hn127 ha126 (idx_some h120).1 <| ow_batch [.fa 169 7 9 fa169_7] rfl <| ow_storeH (off := 9) [.int .i64 y159.1] (p := 0) (c' := [_, _, _, _, _, _, _, _, _, _, _, _]) rfl rfl rfl rfl rfl (by first | rfl | simp only [add_lit, add_add, add_zero]) rfl ty3 rfl rfl (by intro u hu; simp only [List.mem_cons, List.not_mem_nil, or_false] at hu; rcases hu with rfl <;> rfl) rfl rfl rfl kp <| nR <| ow_batch [.p, .p, .p] rfl <| nR <| ow_batch [.p, .p, .p] rfl <| ow_ixH rfl rfl rfl rfl rfl sl91 ty169 rfl (holeIn (p := 0) rfl) hn127 ha126 (idx_some h120).1 <| ow_batch [.fa 169 8 10 fa169_8] rfl <| ow_storeH (off := 10) [.int .i64 (IntKind.i64.wrap (y159.1 + 1))] (p := 0) (c' := [_, _, _, _, _, _, _, _, _, _, _, _]) rfl rfl rfl rfl rfl (by first | rfl | simp only [add_lit, add_add, add_zero]) rfl ty3 rfl rfl (by intro u hu; simp only [List.mem_cons, List.not_mem_nil, or_false] at hu; rcases hu with rfl <;> rfl) rfl rfl rfl kp <| nR <| ow_batch [.p, .p, .p] rfl <| nR <| ow_batch [.p, .p, .p] rfl <| ow_ixH rfl rfl rfl rfl rfl sl91 ty169 rfl (holeIn (p := 0) rfl) hn127 ha126 (idx_some h120).1 <| ow_batch [.fa 169 9 11 fa169_9] rfl <| ow_storeH (off := 11) [.int .i64 (IntKind.i64.wrap ((IntKind.i64.wrap (y159.1 + 1)) + 1))] (p := 0) (c' := [_, _, _, _, _, _, _, _, _, _, _, _]) rfl rfl rfl rfl rfl (by first | rfl | simp only [add_lit, add_add, add_zero]) rfl ty3 rfl rfl (by intro u hu; simp only [List.mem_cons, List.not_mem_nil, or_false] at hu; rcases hu with rfl <;> rfl) rfl rfl rfl kp <| nQ <| c_reg <| ow_batch [.p, .p, .p] rfl <| ow_nil <| x_qb <| x_qs <| c_reg <| ow_batch [.p, .p, .p] rfl <| ?_
   exact ow_nil <| xw_ex (fun w1 hw1 => fus_Timpl_Node (x0 := ((Int.tmod i65 3) == 0)) (x1 := IntKind.i64.wrap (i65 + 1)) (x2 := IntKind.i64.wrap ((IntKind.i64.wrap (i65 + 1)) + 1)) (x4 := y141.1) (x7 := y153.1) (x9 := y159.1) (x10 := IntKind.i64.wrap (y159.1 + 1)) (x11 := IntKind.i64.wrap ((IntKind.i64.wrap (y159.1 + 1)) + 1)) [1, 2, 3, 4] hw1 rfl rfl) fun F165 => xw_st (C' := St w M0 [_, _, _, _, _, _]) (fun _ h => h) <| xw_ex (fun w1 hw1 => unf (p := 0) (q := 5) hw1 rfl rfl rfl hn127 ha126) fun F166 => xw_st (C' := St w M0 [_, _, _, _, _, _, _]) (fun _ h => h) <| x_ql (RW.at (ihk1 ((l62.set i66.toNat (Timpl_Node.mk ((Int.tmod i65 3) == 0) (Timpl_Fork.mk (IntKind.i64.wrap (i65 + 1)) (IntKind.i64.wrap ((IntKind.i64.wrap (i65 + 1)) + 1))) y141.2 y141.1 (Timpl_Stats.mk y147.2 y153.2) y153.1 y159.2 y159.1 (IntKind.i64.wrap (y159.1 + 1)) (IntKind.i64.wrap ((IntKind.i64.wrap (y159.1 + 1)) + 1))))) (F166) (IntKind.i64.wrap ((IntKind.i64.wrap ((IntKind.i64.wrap (y159.1 + 1)) + 1)) + 1)) (IntKind.i64.wrap (i66 + 1)) (H)) (fun _ h => St.sel [6] rfl rfl h) ⟨rfl, rfl, rfl, trivial⟩)
  ·exact c_exit <| x_qs_exit <| x_ql_exit <| x_qb_here <| x_qs <| sR <| oPP rfl <| nT <| x_retR (rs := [.tmp 4]) (vs := [.int .i64 i65]) rfl ⟨rfl, trivial⟩ (fun w' hw' => by
    obtain rfl := of_some H
    exact ⟨_, rfl, F63, rfl, hw'.sel [0] rfl rfl⟩)
theorem laws_markMemberS_ok (w : World) {M0 : List Nat} {p0 : List Timpl_Member} {p1 : Int} {a_0_0 : Option Addr} {n_0_0 c_0_0 : Nat} {F_0_0 : List Nat} {r : Int × (List Timpl_Member)} (H : laws_markMemberS p0 p1 = some r) (HS : St w M0 [Res.own (eList (eTimpl_Member) 99) F_0_0 p0 [.slice a_0_0 n_0_0 c_0_0]] w)  :
    Calls Tryz.prog 60 #[.slice a_0_0 n_0_0 c_0_0, .int .i64 p1] w (fun en w' => ∃ v, en = .returned v ∧ ∃ (F0 : List Nat), v = .int .i64 r.1 ∧ St w M0 [Res.own (eList (eTimpl_Member) 99) F0 r.2 [.slice a_0_0 n_0_0 c_0_0]] w') := by
 obtain rfl := own_nS (i := 0) HS rfl
 unfold laws_markMemberS at H
 refine f_enter Tryz.func60 rfl Tryz.ntmps60 rfl (HS) <| sR <| oP rfl <| nQ <| c_seq <| sR <| oP rfl <| nQ <| c_block <| CW.at (loopI4 (fun (l62 : List Timpl_Member) (F63 : List Nat) (i65 : Int) (i66 : Int) => St w M0 [Res.own (eList (eTimpl_Member) 99) F63 l62 [.slice a_0_0 p0.length c_0_0]]) (fun l62 F63 i65 i66 => [(0, .slice a_0_0 p0.length c_0_0), (1, .int .i64 i65), (5, .int .i64 i66)]) (fun kk => fun l62 F63 i65 i66 => laws_markMemberS_L1 p0 kk l62 i65 i66 = some r) (fun _ _ _ _ H => ?_) (fun k1 ihk1 l62 F63 i65 i66 H => ?_) Fuel (p0) (F_0_0) (p1) (0) (H)) (fun _ h => St.sel [0] rfl rfl h) ⟨rfl, rfl, rfl,  trivial⟩
 ·unfold laws_markMemberS_L1 at H
  exact absurd H (by simp)
 ·unfold laws_markMemberS_L1 at H
  refine c_seq <| sR <| ow_batch [.p, .p, .lenS 52 99 sl52, .p] rfl <| nQ <| cI H rfl (fun H => ?_) (fun H => ?_)
  ·refine c_skip <| x_qs <| c_seq <| c_block <| sR <| oPP rfl <| bE H fun e119 h120 H => ow_ex4 rfl (fun w1 hw1 => foc (r := 0) hw1 rfl h120) fun b122 G123 F124 c125 => ow_fact rfl (fun w1 hw1 => hw1.1) fun q121 => ?_
   obtain ⟨ha126, hn127⟩ := q121
   refine ow_st (C' := St w M0 [_, _, _]) rfl (fun w1 hw1 => hw1.2) <| ow_ex3 rfl (fun w1 hw1 => opn_Timpl_Member (i := 2) hw1 rfl) fun a129 c130 F131 => ow_ex3 rfl (fun _ h => h) fun a132 c133 F134 => ow_ex3 rfl (fun _ h => h) fun a135 c136 F137 => ow_ex3 rfl (fun _ h => h) fun a138 c139 F140 => ow_fact rfl (fun w1 hw1 => hw1.1) fun q128 => ?_
   subst q128
   refine ow_st (C' := St w M0 [_, _, _, _, _, _, _]) rfl (fun w1 hw1 => hw1.2) <| ow_ixH rfl rfl rfl rfl rfl sl52 ty99 rfl (holeIn (p := 1) rfl) hn127 ha126 (idx_some h120).1 <| ow_batch [.fa 99 0 0 fa99_0, .fa 93 0 0 fa93_0] rfl <| o1 rfl (ry_hole1 1 0 rfl rfl rfl ty91 (by first | rfl | simp only [add_lit, add_add, add_zero]) rfl) <| oP rfl <| bE H fun y141 h142 H => ow_callS rfl fn99 rfl rfl rfl rfl (fun w1 hw1 => laws_markNodeS_ok w1  h142 (hw1.carve [3] rfl rfl)) fun v143 w1 w2 hw1 hR145 => ?_
   obtain ⟨F146, rfl, hS144⟩ := hR145
   refine ⟨St w M0 [_, _, _, _, _, _, _, _], hw1.comp [3] rfl rfl hS144, fun _ _ => trivial, ?_⟩
   refine oP rfl <| nQ <| c_seq <| CW.weak (C' := St w M0 [_, _, _, _, _]) ?_ (fun _ h => St.sel [1, 4, 5, 6, 7] rfl rfl h)
   refine c_reg <| ow_batch [.p, .p, .p] rfl <| ow_ixH rfl rfl rfl rfl rfl sl52 ty99 rfl (holeIn (p := 0) rfl) hn127 ha126 (idx_some h120).1 <| ow_batch [.fa 99 0 0 fa99_0, .fa 93 1 1 fa93_1] rfl <| ow_storeH (off := 1) [.int .i64 y141.1] (p := 0) (c' := [_, _, _, _, _, _, _]) rfl rfl rfl rfl rfl (by first | rfl | simp only [add_lit, add_add, add_zero]) rfl ty3 rfl rfl (by intro u hu; simp only [List.mem_cons, List.not_mem_nil, or_false] at hu; rcases hu with rfl <;> rfl) rfl rfl rfl kp <| nR <| ow_batch [.p, .p, .p] rfl <| nR <| ow_batch [.p, .p, .p, .p, .p] rfl <| ow_ixH rfl rfl rfl rfl rfl sl52 ty99 rfl (holeIn (p := 0) rfl) hn127 ha126 (idx_some h120).1 <| ow_batch [.fa 99 1 2 fa99_1] rfl <| ow_storeH (off := 2) [.bool ((Int.tmod (IntKind.i64.wrap (y141.1 + 1)) 3) == 0)] (p := 0) (c' := [_, _, _, _, _, _, _]) rfl rfl rfl rfl rfl (by first | rfl | simp only [add_lit, add_add, add_zero]) rfl ty4 rfl rfl (by intro u hu; simp only [List.mem_cons, List.not_mem_nil, or_false] at hu; rcases hu with rfl <;> rfl) rfl rfl rfl kp <| nR <| ow_batch [.p, .p, .p] rfl <| nR <| oPP rfl <| ow_ixH rfl rfl rfl rfl rfl sl52 ty99 rfl (holeIn (p := 0) rfl) hn127 ha126 (idx_some h120).1 <| ow_batch [.fa 99 2 3 fa99_2, .fa 93 0 0 fa93_0] rfl <| o1 rfl (ry_hole1 0 3 rfl rfl rfl ty91 (by first | rfl | simp only [add_lit, add_add, add_zero]) rfl) <| oP rfl <| bE H fun y147 h148 H => ow_callS rfl fn99 rfl rfl rfl rfl (fun w1 hw1 => laws_markNodeS_ok w1  h148 (hw1.carve [1] rfl rfl)) fun v149 w1 w2 hw1 hR151 => ?_
   obtain ⟨F152, rfl, hS150⟩ := hR151
   refine ⟨St w M0 [_, _, _, _, _, _], hw1.comp [1] rfl rfl hS150, fun _ _ => trivial, ?_⟩
   refine oP rfl <| nR <| ow_batch [.p, .p, .p] rfl <| ow_ixH rfl rfl rfl rfl rfl sl52 ty99 rfl (holeIn (p := 0) rfl) hn127 ha126 (idx_some h120).1 <| ow_batch [.fa 99 2 3 fa99_2, .fa 93 1 1 fa93_1] rfl <| ow_storeH (off := 4) [.int .i64 y147.1] (p := 0) (c' := [_, _, _, _, _, _, _]) rfl rfl rfl rfl rfl (by first | rfl | simp only [add_lit, add_add, add_zero]) rfl ty3 rfl rfl (by intro u hu; simp only [List.mem_cons, List.not_mem_nil, or_false] at hu; rcases hu with rfl <;> rfl) rfl rfl rfl kp <| nR <| ow_batch [.p, .p, .p] rfl <| nR <| oPP rfl <| ow_ixH rfl rfl rfl rfl rfl sl52 ty99 rfl (holeIn (p := 0) rfl) hn127 ha126 (idx_some h120).1 <| ow_batch [.fa 99 3 5 fa99_3, .fa 97 0 0 fa97_0, .fa 95 0 0 fa95_0] rfl <| o1 rfl (ry_hole1 0 5 rfl rfl rfl ty33 (by first | rfl | simp only [add_lit, add_add, add_zero]) rfl) <| oP rfl <| bE H fun y153 h154 H => ow_callS rfl fn61 rfl rfl rfl rfl (fun w1 hw1 => laws_markIntSS_ok w1  h154 (hw1.carve [2] rfl rfl)) fun v155 w1 w2 hw1 hR157 => ?_
   obtain ⟨F158, rfl, hS156⟩ := hR157
   refine ⟨St w M0 [_, _, _, _, _, _, _], hw1.comp [2] rfl rfl hS156, fun _ _ => trivial, ?_⟩
   refine oP rfl <| nQ <| CW.weak (C' := St w M0 [_, _, _, _, _]) ?_ (fun _ h => St.sel [0, 3, 4, 5, 6] rfl rfl h)
   refine c_reg <| oPP rfl <| ow_ixH rfl rfl rfl rfl rfl sl52 ty99 rfl (holeIn (p := 0) rfl) hn127 ha126 (idx_some h120).1 <| ow_batch [.fa 99 3 5 fa99_3, .fa 97 1 1 fa97_1, .fa 95 0 0 fa95_0] rfl <| o1 rfl (ry_hole1 0 6 rfl rfl rfl ty33 (by first | rfl | simp only [add_lit, add_add, add_zero]) rfl) <| oP rfl <| bE H fun y159 h160 H => ow_callS rfl fn61 rfl rfl rfl rfl (fun w1 hw1 => laws_markIntSS_ok w1  h160 (hw1.carve [1] rfl rfl)) fun v161 w1 w2 hw1 hR163 => ?_
   obtain ⟨F164, rfl, hS162⟩ := hR163
   refine ⟨St w M0 [_, _, _, _, _, _], hw1.comp [1] rfl rfl hS162, fun _ _ => trivial, ?_⟩
   exact oP rfl <| ow_nil <| x_qb <| x_qs <| c_reg <| ow_batch [.p, .p, .p] rfl <| ow_nil <| xw_ex (fun w1 hw1 => fus_Timpl_Member (x1 := y141.1) (x2 := ((Int.tmod (IntKind.i64.wrap (y141.1 + 1)) 3) == 0)) (x4 := y147.1) [2, 3, 4, 5] hw1 rfl rfl) fun F165 => xw_st (C' := St w M0 [_, _, _, _, _, _, _]) (fun _ h => h) <| xw_ex (fun w1 hw1 => unf (p := 0) (q := 6) hw1 rfl rfl rfl hn127 ha126) fun F166 => xw_st (C' := St w M0 [_, _, _, _, _, _, _, _]) (fun _ h => h) <| x_ql (RW.at (ihk1 ((l62.set i66.toNat (Timpl_Member.mk (Timpl_Tree.mk y141.2 y141.1) ((Int.tmod (IntKind.i64.wrap (y141.1 + 1)) 3) == 0) (Timpl_Tree.mk y147.2 y147.1) (Timpl_Det.mk (Timpl_Window.mk y153.2) (Timpl_Window.mk y159.2))))) (F166) (y159.1) (IntKind.i64.wrap (i66 + 1)) (H)) (fun _ h => St.sel [7] rfl rfl h) ⟨rfl, rfl, rfl, trivial⟩)
  ·exact c_exit <| x_qs_exit <| x_ql_exit <| x_qb_here <| x_qs <| sR <| oPP rfl <| nT <| x_retR (rs := [.tmp 4]) (vs := [.int .i64 i65]) rfl ⟨rfl, trivial⟩ (fun w' hw' => by
    obtain rfl := of_some H
    exact ⟨_, rfl, F63, rfl, hw'.sel [0] rfl rfl⟩)
theorem laws_markForest_ok (w : World) {M0 : List Nat} {p0 : Timpl_Forest} {p1 : Int} {a_0_0 : Option Addr} {n_0_0 c_0_0 : Nat} {F_0_0 : List Nat} {r : Int × Timpl_Forest} (H : laws_markForest p0 p1 = some r) (HS : St w M0 [Res.own (eList (eTimpl_Member) 99) F_0_0 p0.Members_ [.slice a_0_0 n_0_0 c_0_0]] w)  :
    Calls Tryz.prog 31 #[.agg #[.slice a_0_0 n_0_0 c_0_0], .int .i64 p1] w (fun en w' => ∃ v, en = .returned v ∧ ∃ (F0 : List Nat), v = .int .i64 r.1 ∧ St w M0 [Res.own (eList (eTimpl_Member) 99) F0 r.2.Members_ [.slice a_0_0 n_0_0 c_0_0]] w') := by
 obtain rfl := own_nS (i := 0) HS rfl
 unfold laws_markForest at H
 refine f_enter Tryz.func31 rfl Tryz.ntmps31 rfl (HS) <| sR <| ob _ rfl fun b10 => oP rfl <| nR <| ow_batch [.fa 54 0 0 fa54_0] rfl <| o1 rfl (r1 0 1 rfl ty52 rfl) <| oP rfl <| bE H fun y11 h12 H => ow_callS rfl fn60 rfl rfl rfl rfl (fun w1 hw1 => laws_markMemberS_ok w1  h12 (hw1.carve [0] rfl rfl)) fun v13 w1 w2 hw1 hR15 => ?_
 obtain ⟨F16, rfl, hS14⟩ := hR15
 refine ⟨St w M0 [_, _, _], hw1.comp [0] rfl rfl hS14, fun _ _ => trivial, ?_⟩
 exact oP rfl <| nR <| oPP rfl <| nT <| x_retR (rs := [.tmp 4]) (vs := [.int .i64 y11.1]) rfl ⟨rfl, trivial⟩ (fun w' hw' => by
  obtain rfl := of_some H
  exact ⟨_, rfl, F16, rfl, hw'.sel [2] rfl rfl⟩)
theorem laws_markPairS_ok (w : World) {M0 : List Nat} {p0 : List Timpl_Pair} {p1 : Int} {a_0_0 : Option Addr} {n_0_0 c_0_0 : Nat} {F_0_0 : List Nat} {r : Int × (List Timpl_Pair)} (H : laws_markPairS p0 p1 = some r) (HS : St w M0 [Res.own (eList (eTimpl_Pair) 143) F_0_0 p0 [.slice a_0_0 n_0_0 c_0_0]] w)  :
    Calls Tryz.prog 62 #[.slice a_0_0 n_0_0 c_0_0, .int .i64 p1] w (fun en w' => ∃ v, en = .returned v ∧ ∃ (F0 : List Nat), v = .int .i64 r.1 ∧ St w M0 [Res.own (eList (eTimpl_Pair) 143) F0 r.2 [.slice a_0_0 n_0_0 c_0_0]] w') := by
 obtain rfl := own_nS (i := 0) HS rfl
 unfold laws_markPairS at H
 refine f_enter Tryz.func62 rfl Tryz.ntmps62 rfl (HS) <| sR <| oP rfl <| nQ <| c_seq <| sR <| oP rfl <| nQ <| c_block <| CW.at (loopI4 (fun (l24 : List Timpl_Pair) (F25 : List Nat) (i26 : Int) (i27 : Int) => St w M0 [Res.own (eList (eTimpl_Pair) 143) F25 l24 [.slice a_0_0 p0.length c_0_0]]) (fun l24 F25 i26 i27 => [(0, .slice a_0_0 p0.length c_0_0), (1, .int .i64 i26), (5, .int .i64 i27)]) (fun kk => fun l24 F25 i26 i27 => laws_markPairS_L1 p0 kk l24 i26 i27 = some r) (fun _ _ _ _ H => ?_) (fun k1 ihk1 l24 F25 i26 i27 H => ?_) Fuel (p0) (F_0_0) (p1) (0) (H)) (fun _ h => St.sel [0] rfl rfl h) ⟨rfl, rfl, rfl,  trivial⟩
 ·unfold laws_markPairS_L1 at H
  exact absurd H (by simp)
 ·unfold laws_markPairS_L1 at H
  refine c_seq <| sR <| ow_batch [.p, .p, .lenS 55 143 sl55, .p] rfl <| nQ <| cI H rfl (fun H => ?_) (fun H => ?_)
  ·refine c_skip <| x_qs <| c_seq <| c_block <| sR <| ow_batch [.p, .p, .p] rfl <| bE H fun e42 h43 H => ow_ex4 rfl (fun w1 hw1 => foc (r := 0) hw1 rfl h43) fun b45 G46 F47 c48 => ow_fact rfl (fun w1 hw1 => hw1.1) fun q44 => ?_
   obtain ⟨ha49, hn50⟩ := q44
   refine ow_st (C' := St w M0 [_, _, _]) rfl (fun w1 hw1 => hw1.2) <| ow_fact rfl (fun w1 hw1 => opn_flat (i := 2) hw1 rfl) fun q44 => ?_
   obtain ⟨rfl, rfl⟩ := q44
   exact ow_st (C' := St w M0 [_, _]) rfl (fun w1 hw1 => St.mask [true, true] rfl hw1) <| ow_ixH rfl rfl rfl rfl rfl sl55 ty143 rfl (holeIn (p := 1) rfl) hn50 ha49 (idx_some h43).1 <| ow_batch [.fa 143 0 0 fa143_0] rfl <| ow_storeH (off := 0) [.int .i64 i26] (p := 1) (c' := [_, _]) rfl rfl rfl rfl rfl (by first | rfl | simp only [add_lit, add_add, add_zero]) rfl ty3 rfl rfl (by intro u hu; simp only [List.mem_cons, List.not_mem_nil, or_false] at hu; rcases hu with rfl <;> rfl) rfl rfl rfl kp <| nR <| ow_batch [.p, .p, .p] rfl <| nR <| ow_batch [.p, .p, .p] rfl <| ow_ixH rfl rfl rfl rfl rfl sl55 ty143 rfl (holeIn (p := 1) rfl) hn50 ha49 (idx_some h43).1 <| ow_batch [.fa 143 1 1 fa143_1] rfl <| ow_storeH (off := 1) [.int .i64 (IntKind.i64.wrap (i26 + 1))] (p := 1) (c' := [_, _]) rfl rfl rfl rfl rfl (by first | rfl | simp only [add_lit, add_add, add_zero]) rfl ty3 rfl rfl (by intro u hu; simp only [List.mem_cons, List.not_mem_nil, or_false] at hu; rcases hu with rfl <;> rfl) rfl rfl rfl kp <| nQ <| c_reg <| ow_batch [.p, .p, .p] rfl <| ow_nil <| x_qb <| x_qs <| c_reg <| ow_batch [.p, .p, .p] rfl <| ow_nil <| xw_st (fun _ h => St.push0 h (Res.own (eTimpl_Pair) [] (Timpl_Pair.mk i26 (IntKind.i64.wrap (i26 + 1))) [.int .i64 i26, .int .i64 (IntKind.i64.wrap (i26 + 1))]) rfl ⟨rfl, rfl⟩) <| xw_ex (fun w1 hw1 => unf (p := 1) (q := 2) hw1 rfl rfl rfl hn50 ha49) fun F51 => xw_st (C' := St w M0 [_, _, _, _]) (fun _ h => h) <| x_ql (RW.at (ihk1 ((l24.set i27.toNat (Timpl_Pair.mk i26 (IntKind.i64.wrap (i26 + 1))))) (F51) (IntKind.i64.wrap ((IntKind.i64.wrap (i26 + 1)) + 1)) (IntKind.i64.wrap (i27 + 1)) (H)) (fun _ h => St.sel [3] rfl rfl h) ⟨rfl, rfl, rfl, trivial⟩)
  ·exact c_exit <| x_qs_exit <| x_ql_exit <| x_qb_here <| x_qs <| sR <| oPP rfl <| nT <| x_retR (rs := [.tmp 4]) (vs := [.int .i64 i26]) rfl ⟨rfl, trivial⟩ (fun w' hw' => by
    obtain rfl := of_some H
    exact ⟨_, rfl, F25, rfl, hw'.sel [0] rfl rfl⟩)
theorem laws_markScore_ok (w : World) {M0 : List Nat} {p0 : Timpl_Score} {p1 : Int} {a_0_0 : Option Addr} {n_0_0 c_0_0 : Nat} {F_0_0 : List Nat} {a_0_1 : Option Addr} {n_0_1 c_0_1 : Nat} {F_0_1 : List Nat} {r : Int × Timpl_Score} (H : laws_markScore p0 p1 = some r) (HS : St w M0 [Res.own (eList (eList eI 3) 39) F_0_0 p0.Table_ [.slice a_0_0 n_0_0 c_0_0], Res.own (eList (eTimpl_Pair) 143) F_0_1 p0.Last_ [.slice a_0_1 n_0_1 c_0_1]] w)  :
    Calls Tryz.prog 32 #[.agg #[.slice a_0_0 n_0_0 c_0_0, .slice a_0_1 n_0_1 c_0_1], .int .i64 p1] w (fun en w' => ∃ v, en = .returned v ∧ ∃ (F0 : List Nat), ∃ (F1 : List Nat), v = .int .i64 r.1 ∧ St w M0 [Res.own (eList (eList eI 3) 39) F0 r.2.Table_ [.slice a_0_0 n_0_0 c_0_0], Res.own (eList (eTimpl_Pair) 143) F1 r.2.Last_ [.slice a_0_1 n_0_1 c_0_1]] w') := by
 obtain rfl := own_nS (i := 0) HS rfl
 obtain rfl := own_nS (i := 1) HS rfl
 unfold laws_markScore at H
 refine f_enter Tryz.func32 rfl Tryz.ntmps32 rfl (HS) <| sR <| ob _ rfl fun b10 => oP rfl <| nR <| ow_batch [.fa 57 0 0 fa57_0] rfl <| o1 rfl (r1 0 2 rfl ty33 rfl) <| oP rfl <| bE H fun y11 h12 H => ow_callS rfl fn61 rfl rfl rfl rfl (fun w1 hw1 => laws_markIntSS_ok w1  h12 (hw1.carve [0] rfl rfl)) fun v13 w1 w2 hw1 hR15 => ?_
 obtain ⟨F16, rfl, hS14⟩ := hR15
 refine ⟨St w M0 [_, _, _, _], hw1.comp [0] rfl rfl hS14, fun _ _ => trivial, ?_⟩
 refine oP rfl <| nR <| ow_batch [.fa 57 1 1 fa57_1] rfl <| o1 rfl (r1 1 2 rfl ty55 rfl) <| oP rfl <| bE H fun y17 h18 H => ow_callS rfl fn62 rfl rfl rfl rfl (fun w1 hw1 => laws_markPairS_ok w1  h18 (hw1.carve [1] rfl rfl)) fun v19 w1 w2 hw1 hR21 => ?_
 obtain ⟨F22, rfl, hS20⟩ := hR21
 refine ⟨St w M0 [_, _, _, _, _], hw1.comp [1] rfl rfl hS20, fun _ _ => trivial, ?_⟩
 refine oP rfl <| nQ <| c_seq <| CW.weak (C' := St w M0 [_, _, _]) ?_ (fun _ h => St.sel [2, 3, 4] rfl rfl h)
 exact c_reg <| oPP rfl <| nT <| x_retR (rs := [.tmp 4]) (vs := [.int .i64 y17.1]) rfl ⟨rfl, trivial⟩ (fun w' hw' => by
  obtain rfl := of_some H
  exact ⟨_, rfl, F16, F22, rfl, hw'.sel [1, 2] rfl rfl⟩)
theorem laws_markState_ok (w : World) {M0 : List Nat} {p0 : Timpl_State} {p1 : Int} {a_0_0 : Option Addr} {n_0_0 c_0_0 : Nat} {F_0_0 : List Nat} {a_0_1 : Option Addr} {n_0_1 c_0_1 : Nat} {F_0_1 : List Nat} {a_0_2 : Option Addr} {n_0_2 c_0_2 : Nat} {F_0_2 : List Nat} {a_0_3 : Option Addr} {n_0_3 c_0_3 : Nat} {F_0_3 : List Nat} {a_0_4 : Option Addr} {n_0_4 c_0_4 : Nat} {F_0_4 : List Nat} {r : Int × Timpl_State} (H : laws_markState p0 p1 = some r) (HS : St w M0 [Res.own (eList (eTimpl_Attr) 133) F_0_0 p0.Conf_.Schema_.Attrs_ [.slice a_0_0 n_0_0 c_0_0], Res.own (eList (eStr) 9) F_0_1 p0.Conf_.Schema_.Classes_ [.slice a_0_1 n_0_1 c_0_1], Res.own (eList (eTimpl_Member) 99) F_0_2 p0.Forest_.Members_ [.slice a_0_2 n_0_2 c_0_2], Res.own (eList (eList eI 3) 39) F_0_3 p0.Score_.Table_ [.slice a_0_3 n_0_3 c_0_3], Res.own (eList (eTimpl_Pair) 143) F_0_4 p0.Score_.Last_ [.slice a_0_4 n_0_4 c_0_4]] w)  :
    Calls Tryz.prog 13 #[.agg #[.slice a_0_0 n_0_0 c_0_0, .slice a_0_1 n_0_1 c_0_1, .int .i64 p0.Conf_.Rule_.Sure_, .int .i64 p0.Conf_.Rule_.Tie_, .int .i64 p0.Conf_.Rule_.Grace_, .int .i64 p0.Conf_.Rule_.Depth_, .int .i64 p0.Conf_.Rule_.Nodes_, .int .i64 p0.Conf_.Rule_.Units_, .bool p0.Conf_.Rule_.Two_, .int .i64 p0.Conf_.Members_, .int .i64 p0.Conf_.Pick_, .int .i64 p0.Conf_.Lambda_, .int .i64 p0.Conf_.Warn_, .int .i64 p0.Conf_.Drift_, .slice a_0_2 n_0_2 c_0_2, .slice a_0_3 n_0_3 c_0_3, .slice a_0_4 n_0_4 c_0_4], .int .i64 p1] w (fun en w' => ∃ v, en = .returned v ∧ ∃ (F0 : List Nat), ∃ (F1 : List Nat), ∃ (F2 : List Nat), ∃ (F3 : List Nat), ∃ (F4 : List Nat), v = .int .i64 r.1 ∧ St w M0 [Res.own (eList (eTimpl_Attr) 133) F0 r.2.Conf_.Schema_.Attrs_ [.slice a_0_0 n_0_0 c_0_0], Res.own (eList (eStr) 9) F1 r.2.Conf_.Schema_.Classes_ [.slice a_0_1 n_0_1 c_0_1], Res.own (eList (eTimpl_Member) 99) F2 r.2.Forest_.Members_ [.slice a_0_2 n_0_2 c_0_2], Res.own (eList (eList eI 3) 39) F3 r.2.Score_.Table_ [.slice a_0_3 n_0_3 c_0_3], Res.own (eList (eTimpl_Pair) 143) F4 r.2.Score_.Last_ [.slice a_0_4 n_0_4 c_0_4]] w') := by
 obtain rfl := own_nS (i := 0) HS rfl
 obtain rfl := own_nS (i := 1) HS rfl
 obtain rfl := own_nS (i := 2) HS rfl
 obtain rfl := own_nS (i := 3) HS rfl
 obtain rfl := own_nS (i := 4) HS rfl
 unfold laws_markState at H
 refine f_enter Tryz.func13 rfl Tryz.ntmps13 rfl (HS) <| sR <| ob _ rfl fun b10 => oP rfl <| nR <| ow_batch [.fa 59 0 0 fa59_0] rfl <| o1 rfl (rx 0 5 _ rfl ty51 rfl) <| oP rfl <| bE H fun y11 h12 H => ow_callS rfl fn30 rfl rfl rfl rfl (fun w1 hw1 => laws_markConf_ok w1  h12 (hw1.carve [0, 1] rfl rfl)) fun v13 w1 w2 hw1 hR15 => ?_
 obtain ⟨F16, F17, rfl, hS14⟩ := hR15
 refine ⟨St w M0 [_, _, _, _, _, _, _, _], hw1.comp [0, 1] rfl rfl hS14, fun _ _ => trivial, ?_⟩
 refine oP rfl <| nQ <| c_seq <| CW.weak (C' := St w M0 [_, _, _, _, _, _]) ?_ (fun _ h => St.sel [2, 3, 4, 5, 6, 7] rfl rfl h)
 refine c_reg <| ow_batch [.fa 59 1 14 fa59_1] rfl <| o1 rfl (rx 14 3 _ rfl ty54 rfl) <| oP rfl <| bE H fun y18 h19 H => ow_callS rfl fn31 rfl rfl rfl rfl (fun w1 hw1 => laws_markForest_ok w1  h19 (hw1.carve [0] rfl rfl)) fun v20 w1 w2 hw1 hR22 => ?_
 obtain ⟨F23, rfl, hS21⟩ := hR22
 refine ⟨St w M0 [_, _, _, _, _, _, _], hw1.comp [0] rfl rfl hS21, fun _ _ => trivial, ?_⟩
 refine oP rfl <| nR <| ow_batch [.fa 59 2 15 fa59_2] rfl <| o1 rfl (rx 15 3 _ rfl ty57 rfl) <| oP rfl <| bE H fun y24 h25 H => ow_callS rfl fn32 rfl rfl rfl rfl (fun w1 hw1 => laws_markScore_ok w1  h25 (hw1.carve [1, 2] rfl rfl)) fun v26 w1 w2 hw1 hR28 => ?_
 obtain ⟨F29, F30, rfl, hS27⟩ := hR28
 refine ⟨St w M0 [_, _, _, _, _, _, _, _, _], hw1.comp [1, 2] rfl rfl hS27, fun _ _ => trivial, ?_⟩
 refine oP rfl <| nQ <| c_seq <| CW.weak (C' := St w M0 [_, _, _, _, _, _]) ?_ (fun _ h => St.sel [3, 4, 5, 6, 7, 8] rfl rfl h)
 exact c_reg <| oPP rfl <| nT <| x_retR (rs := [.tmp 4]) (vs := [.int .i64 y24.1]) rfl ⟨rfl, trivial⟩ (fun w' hw' => by
  obtain rfl := of_some H
  exact ⟨_, rfl, F16, F17, F23, F29, F30, rfl, hw'.sel [1, 2, 3, 4, 5] rfl rfl⟩)
theorem laws_markEx_ok (w : World) {M0 : List Nat} {p0 : Timpl_Ex} {p1 : Int} {a_0_0 : Option Addr} {n_0_0 c_0_0 : Nat} {F_0_0 : List Nat} {r : Int × Timpl_Ex} (H : laws_markEx p0 p1 = some r) (HS : St w M0 [Res.own (eList eI 3) F_0_0 p0.Bins_ [.slice a_0_0 n_0_0 c_0_0]] w)  :
    Calls Tryz.prog 14 #[.agg #[.slice a_0_0 n_0_0 c_0_0, .int .i64 p0.Class_], .int .i64 p1] w (fun en w' => ∃ v, en = .returned v ∧ ∃ (F0 : List Nat), v = .int .i64 r.1 ∧ St w M0 [Res.own (eList eI 3) F0 r.2.Bins_ [.slice a_0_0 n_0_0 c_0_0]] w') := by
 obtain rfl := own_nS (i := 0) HS rfl
 unfold laws_markEx at H
 refine f_enter Tryz.func14 rfl Tryz.ntmps14 rfl (HS) <| sR <| ob _ rfl fun b10 => oP rfl <| nR <| ow_batch [.fa 61 0 0 fa61_0] rfl <| o1 rfl (r1 0 1 rfl ty39 rfl) <| oP rfl <| bE H fun y11 h12 H => ow_callS rfl fn15 rfl rfl rfl rfl (fun w1 hw1 => laws_markIntS_ok w1  h12 (hw1.carve [0] rfl rfl)) fun v13 w1 w2 hw1 hR15 => ?_
 obtain ⟨F16, rfl, hS14⟩ := hR15
 refine ⟨St w M0 [_, _, _], hw1.comp [0] rfl rfl hS14, fun _ _ => trivial, ?_⟩
 exact oP rfl <| nR <| oPP rfl <| nT <| x_retR (rs := [.tmp 4]) (vs := [.int .i64 y11.1]) rfl ⟨rfl, trivial⟩ (fun w' hw' => by
  obtain rfl := of_some H
  exact ⟨_, rfl, F16, rfl, hw'.sel [2] rfl rfl⟩)
theorem laws_heldIntS_ok (w : World) {p0 : List Int} {p1 : Int} {a_0 : Option Addr} {n_0 c_0 : Nat} {r : Int} (H : laws_heldIntS p0 p1 = some r)  (g0 : (eList eI 3).rd w [] p0 [.slice a_0 n_0 c_0]) :
    Calls Tryz.prog 16 #[.slice a_0 n_0 c_0, .int .i64 p1] w (fun en w' => en = .returned (.int .i64 r) ∧ Ext [] w w') := by
 obtain rfl := rd_n g0
 unfold laws_heldIntS at H
 refine f_enter Tryz.func16 rfl Tryz.ntmps16 rfl (St.init w []) <| sR <| oP rfl <| nQ <| c_seq <| sR <| oP rfl <| nQ <| c_block <| CW.at (loopI2 (fun (i14 : Int) (i15 : Int) => St w [] []) (fun i14 i15 => [(0, .slice a_0 p0.length c_0), (1, .int .i64 i14), (5, .int .i64 i15)]) (fun kk => fun i14 i15 => laws_heldIntS_L1 p0 kk i14 i15 = some r) (fun _ _ H => ?_) (fun k1 ihk1 i14 i15 H => ?_) Fuel (p1) (0) (H)) (fun _ h => St.sel [] rfl rfl h) ⟨rfl, rfl, rfl,  trivial⟩
 ·unfold laws_heldIntS_L1 at H
  exact absurd H (by simp)
 ·unfold laws_heldIntS_L1 at H
  refine c_seq <| sR <| ow_batch [.p, .p, .lenS 39 3 sl39, .p] rfl <| nQ <| cI H rfl (fun H => ?_) (fun H => ?_)
  ·refine c_skip <| x_qs <| c_seq <| c_block <| c_seq <| sR <| oPP rfl <| bE H fun e20 h21 H => ow_ixE (e := eI) (xs := p0) (j := i15) rfl rfl rfl rfl rfl sl39 ty3 rfl (fun w1 hw1 => rds_bor g0 w1 hw1) h21 (by rw [Nat.mul_one]) <| o1 rfl (ry_load1 rfl rfl ty3 (at_elV (fun w1 hw1 => rds_bor g0 w1 hw1) h21)) <| oPP rfl <| nQ <| cI H rfl (fun H => ?_) (fun H => ?_)
   ·exact sR <| oP rfl <| nT <| x_qs_ret <| x_qb_ret <| x_qs_ret <| x_ql_ret <| x_qb_ret <| x_qs_ret <| xr 4 rfl (by cases H; exact q1)
   ·exact c_skip <| x_qs <| c_reg <| ow_batch [.p, .p, .p] rfl <| ow_nil <| x_qb <| x_qs <| c_reg <| ow_batch [.p, .p, .p] rfl <| ow_nil <| x_ql (RW.at (ihk1 (IntKind.i64.wrap (i14 + 1)) (IntKind.i64.wrap (i15 + 1)) (H)) (fun _ h => St.sel [] rfl rfl h) ⟨rfl, rfl, rfl, trivial⟩)
  ·exact c_exit <| x_qs_exit <| x_ql_exit <| x_qb_here <| x_qs <| sR <| oPP rfl <| nT <| xr 4 rfl (by cases H; exact q1)
theorem laws_FnExactStateSays_ok (w : World) {p0 : Tlaws_State} {p1 : Tlaws_Ex} {cs0 : List Value} {cs1 : List Value} {r : Bool} (H : laws_FnExactStateSays p0 p1 = some r)  (g0 : (eTlaws_State).rd w [] p0 cs0) (g1 : (eTlaws_Ex).rd w [] p1 cs1) :
    Calls Tryz.prog 3 #[.agg cs0.toArray, .agg cs1.toArray] w (fun en w' => en = .returned (.bool r) ∧ Ext [] w w') := by
 obtain ⟨c10, c11, c12, rfl, g13, g14, g15⟩ := rdo_Tlaws_State g0
 obtain ⟨c16, c17, c18, c19, c20, c21, c22, rfl, g23, g24, g25, g26, g27, g28, g29⟩ := rdo_Tlaws_Conf g13
 obtain ⟨c30, c31, rfl, g32, g33⟩ := rdo_Tlaws_Schema g23
 obtain ⟨a34, c35, rfl⟩ := rd_sl1 g32
 obtain ⟨a36, c37, rfl⟩ := rd_sl1 g33
 obtain rfl := g24
 obtain rfl := g25
 obtain rfl := g26
 obtain rfl := g27
 obtain rfl := g28
 obtain rfl := g29
 obtain ⟨c38, rfl, g39⟩ := rdo_Tlaws_Forest g14
 obtain ⟨a40, c41, rfl⟩ := rd_sl1 g39
 obtain ⟨c42, c43, rfl, g44, g45⟩ := rdo_Tlaws_Score g15
 obtain ⟨a46, c47, rfl⟩ := rd_sl1 g44
 obtain ⟨a48, c49, rfl⟩ := rd_sl1 g45
 obtain ⟨c50, c51, rfl, g52, g53⟩ := rdo_Tlaws_Ex g1
 obtain ⟨a54, c55, rfl⟩ := rd_sl1 g52
 obtain rfl := g53
 unfold laws_FnExactStateSays at H
 refine f_enter Tryz.func3 rfl Tryz.ntmps3 rfl (St.init w []) <| sR <| ob _ rfl fun b56 => ob _ rfl fun b57 => oP rfl <| nR <| oP rfl <| nR <| o1 rfl (rx 0 0 _ rfl ty38 rfl) <| oP rfl <| bE H fun y58 h59 H => oq rfl (qc rfl fn4 (fun w1 hw1 => laws_szState_ok w1 h59 (rdm_Tlaws_State (rdm_Tlaws_Conf (rdm_Tlaws_Schema (rds_bor g32 w1 hw1) (rds_bor g33 w1 hw1)) rfl rfl rfl rfl rfl rfl) (rdm_Tlaws_Forest (rds_bor g39 w1 hw1)) (rdm_Tlaws_Score (rds_bor g44 w1 hw1) (rds_bor g45 w1 hw1))))) tt2 <| oP rfl <| nQ <| c_seq <| sR <| oPP rfl <| nQ <| cI H rfl (fun H => ?_) (fun H => ?_)
 ·exact sR <| oP rfl <| nT <| x_qs_ret <| xr 4 rfl (by cases H; exact q1)
 ·refine c_skip <| x_qs <| sR <| o1 rfl (rx 0 1 _ rfl ty41 rfl) <| oP rfl <| bE H fun y60 h61 H => oq rfl (qc rfl fn5 (fun w1 hw1 => laws_szEx_ok w1 h61 (rdm_Tlaws_Ex (rds_bor g52 w1 hw1) rfl))) tt2 <| oP rfl <| nQ <| c_seq <| sR <| oPP rfl <| nQ <| cI H rfl (fun H => ?_) (fun H => ?_)
  ·exact sR <| oP rfl <| nT <| x_qs_ret <| xr 4 rfl (by cases H; exact q1)
  ·refine c_skip <| x_qs <| c_seq <| c_regHT 9 [(0, true), (2, true), (1, false), (3, false), (4, false), (5, true), (6, true), (7, true), (8, true)] (St w [] [Res.box b56 38 [.slice a34 p0.Conf_.Schema_.Attrs_.length c35, .slice a36 p0.Conf_.Schema_.Classes_.length c37, .int .i64 p0.Conf_.Rule_.Sure_, .int .i64 p0.Conf_.Rule_.Tie_, .int .i64 p0.Conf_.Rule_.Grace_, .int .i64 p0.Conf_.Rule_.Depth_, .int .i64 p0.Conf_.Rule_.Nodes_, .int .i64 p0.Conf_.Rule_.Units_, .bool p0.Conf_.Rule_.Two_, .int .i64 p0.Conf_.Members_, .int .i64 p0.Conf_.Pick_, .int .i64 p0.Conf_.Lambda_, .int .i64 p0.Conf_.Warn_, .int .i64 p0.Conf_.Drift_, .slice a40 p0.Forest_.Members_.length c41, .slice a46 p0.Score_.Table_.length c47, .slice a48 p0.Score_.Last_.length c49], Res.box b57 41 [.slice a54 p1.Bins_.length c55, .int .i64 p1.Class_]]) mixed (by kernel_rfl) (panicOk_qs panicOk_body) (fun _ h => St.mask [true, true] rfl h) <| ow_rH rfl (dstOk_lt rfl) (rx 0 0 _ rfl ty38 rfl) <| ow_rH rfl (dstOk_lt rfl) (rx 0 1 _ rfl ty41 rfl) <| bE H fun y105 h106 H => ow_callS rfl fn7 rfl rfl rfl rfl (fun w1 hw1 => laws_toState_ok w1 h106 (hw1.carve [] rfl rfl) (rdm_Tlaws_State (rdm_Tlaws_Conf (rdm_Tlaws_Schema (rds_bor g32 w1 hw1) (rds_bor g33 w1 hw1)) rfl rfl rfl rfl rfl rfl) (rdm_Tlaws_Forest (rds_bor g39 w1 hw1)) (rdm_Tlaws_Score (rds_bor g44 w1 hw1) (rds_bor g45 w1 hw1)))) fun v107 w1 w2 hw1 hR109 => ?_
   obtain ⟨a110, n111, c112, F113, a114, n115, c116, F117, a118, n119, c120, F121, a122, n123, c124, F125, a126, n127, c128, F129, rfl, hS108⟩ := hR109
   obtain rfl := own_nS (i := 0) hS108 rfl
   obtain rfl := own_nS (i := 1) hS108 rfl
   obtain rfl := own_nS (i := 2) hS108 rfl
   obtain rfl := own_nS (i := 3) hS108 rfl
   obtain rfl := own_nS (i := 4) hS108 rfl
   refine ⟨St w [] [_, _, _, _, _, _, _], hw1.comp [] rfl rfl hS108, (fun _ h => St.mask [true, true] rfl h), ?_⟩
   refine bE H fun y130 h131 H => ow_callS rfl fn8 rfl rfl rfl rfl (fun w1 hw1 => laws_toEx_ok w1 h131 (hw1.carve [] rfl rfl) (rdm_Tlaws_Ex (rds_bor g52 w1 hw1) rfl)) fun v132 w1 w2 hw1 hR134 => ?_
   obtain ⟨a135, n136, c137, F138, rfl, hS133⟩ := hR134
   obtain rfl := own_nS (i := 0) hS133 rfl
   refine ⟨St w [] [_, _, _, _, _, _, _, _], hw1.comp [] rfl rfl hS133, (fun _ h => St.mask [true, true] rfl h), ?_⟩
   refine bE H fun y139 h140 H => ow_callS rfl fn6 rfl rfl rfl rfl (fun w1 hw1 => spec_StateSays_ok w1 h140 (hw1.carve [] rfl rfl) (rdm_Timpl_State (x := y105) (c0 := [.slice a110 y105.Conf_.Schema_.Attrs_.length c112, .slice a114 y105.Conf_.Schema_.Classes_.length c116, .int .i64 y105.Conf_.Rule_.Sure_, .int .i64 y105.Conf_.Rule_.Tie_, .int .i64 y105.Conf_.Rule_.Grace_, .int .i64 y105.Conf_.Rule_.Depth_, .int .i64 y105.Conf_.Rule_.Nodes_, .int .i64 y105.Conf_.Rule_.Units_, .bool y105.Conf_.Rule_.Two_, .int .i64 y105.Conf_.Members_, .int .i64 y105.Conf_.Pick_, .int .i64 y105.Conf_.Lambda_, .int .i64 y105.Conf_.Warn_, .int .i64 y105.Conf_.Drift_]) (c1 := [.slice a118 y105.Forest_.Members_.length c120]) (c2 := [.slice a122 y105.Score_.Table_.length c124, .slice a126 y105.Score_.Last_.length c128]) (rdm_Timpl_Conf (x := y105.Conf_) (c0 := [.slice a110 y105.Conf_.Schema_.Attrs_.length c112, .slice a114 y105.Conf_.Schema_.Classes_.length c116]) (c1 := [.int .i64 y105.Conf_.Rule_.Sure_, .int .i64 y105.Conf_.Rule_.Tie_, .int .i64 y105.Conf_.Rule_.Grace_, .int .i64 y105.Conf_.Rule_.Depth_, .int .i64 y105.Conf_.Rule_.Nodes_, .int .i64 y105.Conf_.Rule_.Units_, .bool y105.Conf_.Rule_.Two_]) (c2 := [.int .i64 y105.Conf_.Members_]) (c3 := [.int .i64 y105.Conf_.Pick_]) (c4 := [.int .i64 y105.Conf_.Lambda_]) (c5 := [.int .i64 y105.Conf_.Warn_]) (c6 := [.int .i64 y105.Conf_.Drift_]) (rdm_Timpl_Schema (x := y105.Conf_.Schema_) (c0 := [.slice a110 y105.Conf_.Schema_.Attrs_.length c112]) (c1 := [.slice a114 y105.Conf_.Schema_.Classes_.length c116]) (rds_own (e := eList (eTimpl_Attr) 133) (r := 2) rfl w1 hw1) (rds_own (e := eList (eStr) 9) (r := 3) rfl w1 hw1)) rfl rfl rfl rfl rfl rfl) (rdm_Timpl_Forest (x := y105.Forest_) (c0 := [.slice a118 y105.Forest_.Members_.length c120]) (rds_own (e := eList (eTimpl_Member) 99) (r := 4) rfl w1 hw1)) (rdm_Timpl_Score (x := y105.Score_) (c0 := [.slice a122 y105.Score_.Table_.length c124]) (c1 := [.slice a126 y105.Score_.Last_.length c128]) (rds_own (e := eList (eList eI 3) 39) (r := 5) rfl w1 hw1) (rds_own (e := eList (eTimpl_Pair) 143) (r := 6) rfl w1 hw1))) (rdm_Timpl_Ex (x := y130) (c0 := [.slice a135 y130.Bins_.length c137]) (c1 := [.int .i64 y130.Class_]) (rds_own (e := eList eI 3) (r := 7) rfl w1 hw1) rfl)) fun v141 w1 w2 hw1 hR143 => ?_
   obtain ⟨a144, n145, c146, F147, rfl, hS142⟩ := hR143
   obtain rfl := own_nS (i := 0) hS142 rfl
   refine ⟨St w [] [_, _, _, _, _, _, _, _, _], hw1.comp [] rfl rfl hS142, (fun _ h => St.mask [true, true] rfl h), ?_⟩
   refine ow_batch [.p, .p, .p, .p] rfl <| ow_nilH <| x_qt <| oP rfl <| nR <| o1 rfl (rx 0 0 _ rfl ty38 rfl) <| bE H fun y148 h149 H => ow_callS rfl fn7 rfl rfl rfl rfl (fun w1 hw1 => laws_toState_ok w1 h149 (hw1.carve [] rfl rfl) (rdm_Tlaws_State (rdm_Tlaws_Conf (rdm_Tlaws_Schema (rds_bor g32 w1 hw1) (rds_bor g33 w1 hw1)) rfl rfl rfl rfl rfl rfl) (rdm_Tlaws_Forest (rds_bor g39 w1 hw1)) (rdm_Tlaws_Score (rds_bor g44 w1 hw1) (rds_bor g45 w1 hw1)))) fun v150 w1 w2 hw1 hR152 => ?_
   obtain ⟨a153, n154, c155, F156, a157, n158, c159, F160, a161, n162, c163, F164, a165, n166, c167, F168, a169, n170, c171, F172, rfl, hS151⟩ := hR152
   obtain rfl := own_nS (i := 0) hS151 rfl
   obtain rfl := own_nS (i := 1) hS151 rfl
   obtain rfl := own_nS (i := 2) hS151 rfl
   obtain rfl := own_nS (i := 3) hS151 rfl
   obtain rfl := own_nS (i := 4) hS151 rfl
   refine ⟨St w [] [_, _, _, _, _, _, _, _, _, _, _, _, _, _], hw1.comp [] rfl rfl hS151, fun _ _ => trivial, ?_⟩
   refine ow_alloc rfl rfl rfl rfl ty59 (fun _ => kp) fun b173 => sC 0 [.slice a153 y148.Conf_.Schema_.Attrs_.length c155, .slice a157 y148.Conf_.Schema_.Classes_.length c159, .int .i64 y148.Conf_.Rule_.Sure_, .int .i64 y148.Conf_.Rule_.Tie_, .int .i64 y148.Conf_.Rule_.Grace_, .int .i64 y148.Conf_.Rule_.Depth_, .int .i64 y148.Conf_.Rule_.Nodes_, .int .i64 y148.Conf_.Rule_.Units_, .bool y148.Conf_.Rule_.Two_, .int .i64 y148.Conf_.Members_, .int .i64 y148.Conf_.Pick_, .int .i64 y148.Conf_.Lambda_, .int .i64 y148.Conf_.Warn_, .int .i64 y148.Conf_.Drift_, .slice a161 y148.Forest_.Members_.length c163, .slice a165 y148.Score_.Table_.length c167, .slice a169 y148.Score_.Last_.length c171] [_, _, _, _, _, _, _, _, _, _, _, _, _, _, _, _, _] 14 rfl ty59 rfl <| nR <| o1 rfl (rx 0 1 _ rfl ty41 rfl) <| bE H fun y174 h175 H => ow_callS rfl fn8 rfl rfl rfl rfl (fun w1 hw1 => laws_toEx_ok w1 h175 (hw1.carve [] rfl rfl) (rdm_Tlaws_Ex (rds_bor g52 w1 hw1) rfl)) fun v176 w1 w2 hw1 hR178 => ?_
   obtain ⟨a179, n180, c181, F182, rfl, hS177⟩ := hR178
   obtain rfl := own_nS (i := 0) hS177 rfl
   refine ⟨St w [] [_, _, _, _, _, _, _, _, _, _, _, _, _, _, _, _], hw1.comp [] rfl rfl hS177, fun _ _ => trivial, ?_⟩
   refine ow_alloc rfl rfl rfl rfl ty61 (fun _ => kp) fun b183 => sC 0 [.slice a179 y174.Bins_.length c181, .int .i64 y174.Class_] [_, _] 16 rfl ty61 rfl <| nR <| o1 rfl (rx 0 14 _ rfl ty59 rfl) <| o1 rfl (rx 0 16 _ rfl ty61 rfl) <| bE H fun y184 h185 H => ow_callS rfl fn9 rfl rfl rfl rfl (fun w1 hw1 => impl_StateSays_ok w1 h185 (hw1.carve [] rfl rfl) (rdm_Timpl_State (x := y148) (c0 := [.slice a153 y148.Conf_.Schema_.Attrs_.length c155, .slice a157 y148.Conf_.Schema_.Classes_.length c159, .int .i64 y148.Conf_.Rule_.Sure_, .int .i64 y148.Conf_.Rule_.Tie_, .int .i64 y148.Conf_.Rule_.Grace_, .int .i64 y148.Conf_.Rule_.Depth_, .int .i64 y148.Conf_.Rule_.Nodes_, .int .i64 y148.Conf_.Rule_.Units_, .bool y148.Conf_.Rule_.Two_, .int .i64 y148.Conf_.Members_, .int .i64 y148.Conf_.Pick_, .int .i64 y148.Conf_.Lambda_, .int .i64 y148.Conf_.Warn_, .int .i64 y148.Conf_.Drift_]) (c1 := [.slice a161 y148.Forest_.Members_.length c163]) (c2 := [.slice a165 y148.Score_.Table_.length c167, .slice a169 y148.Score_.Last_.length c171]) (rdm_Timpl_Conf (x := y148.Conf_) (c0 := [.slice a153 y148.Conf_.Schema_.Attrs_.length c155, .slice a157 y148.Conf_.Schema_.Classes_.length c159]) (c1 := [.int .i64 y148.Conf_.Rule_.Sure_, .int .i64 y148.Conf_.Rule_.Tie_, .int .i64 y148.Conf_.Rule_.Grace_, .int .i64 y148.Conf_.Rule_.Depth_, .int .i64 y148.Conf_.Rule_.Nodes_, .int .i64 y148.Conf_.Rule_.Units_, .bool y148.Conf_.Rule_.Two_]) (c2 := [.int .i64 y148.Conf_.Members_]) (c3 := [.int .i64 y148.Conf_.Pick_]) (c4 := [.int .i64 y148.Conf_.Lambda_]) (c5 := [.int .i64 y148.Conf_.Warn_]) (c6 := [.int .i64 y148.Conf_.Drift_]) (rdm_Timpl_Schema (x := y148.Conf_.Schema_) (c0 := [.slice a153 y148.Conf_.Schema_.Attrs_.length c155]) (c1 := [.slice a157 y148.Conf_.Schema_.Classes_.length c159]) (rds_own (e := eList (eTimpl_Attr) 133) (r := 9) rfl w1 hw1) (rds_own (e := eList (eStr) 9) (r := 10) rfl w1 hw1)) rfl rfl rfl rfl rfl rfl) (rdm_Timpl_Forest (x := y148.Forest_) (c0 := [.slice a161 y148.Forest_.Members_.length c163]) (rds_own (e := eList (eTimpl_Member) 99) (r := 11) rfl w1 hw1)) (rdm_Timpl_Score (x := y148.Score_) (c0 := [.slice a165 y148.Score_.Table_.length c167]) (c1 := [.slice a169 y148.Score_.Last_.length c171]) (rds_own (e := eList (eList eI 3) 39) (r := 12) rfl w1 hw1) (rds_own (e := eList (eTimpl_Pair) 143) (r := 13) rfl w1 hw1))) (rdm_Timpl_Ex (x := y174) (c0 := [.slice a179 y174.Bins_.length c181]) (c1 := [.int .i64 y174.Class_]) (rds_own (e := eList eI 3) (r := 15) rfl w1 hw1) rfl)) fun v186 w1 w2 hw1 hR188 => ?_
   obtain ⟨a189, n190, c191, F192, rfl, hS187⟩ := hR188
   obtain rfl := own_nS (i := 0) hS187 rfl
   refine ⟨St w [] [_, _, _, _, _, _, _, _, _, _, _, _, _, _, _, _, _, _], hw1.comp [] rfl rfl hS187, fun _ _ => trivial, ?_⟩
   refine ow_batch [.p, .p, .p, .p, .p] rfl <| nQ <| c_seq <| sR <| ow_batch [.p, .p, .p, .p] rfl <| bE H fun u193 hu197 H => ow_cut [(53, .bool u193), (2, .pointer (some ⟨b56, 0, none⟩)), (3, .pointer (some ⟨b57, 0, none⟩)), (6, .int .i64 y139.1), (7, .slice a144 y139.2.length c146), (8, .pointer (some ⟨b173, 0, none⟩)), (9, .pointer (some ⟨b183, 0, none⟩)), (10, .int .i64 y184.1), (11, .slice a189 y184.2.length c191)] 5 ?_ (fun key => OW.sub (R := [(2, .pointer (some ⟨b56, 0, none⟩)), (3, .pointer (some ⟨b57, 0, none⟩)), (6, .int .i64 y139.1), (7, .slice a144 y139.2.length c146), (8, .pointer (some ⟨b173, 0, none⟩)), (9, .pointer (some ⟨b183, 0, none⟩)), (10, .int .i64 y184.1), (11, .slice a189 y184.2.length c191), (48, .bool (y184.1 != y139.1))]) ?_ (sb rfl))
   ·refine nQ <| cI H rfl (fun H => ?_) (fun H => ?_)
    ·exact sR <| oP rfl <| nT <| x_qs_ret <| xr 4 rfl (by cases H; exact q1)
    ·refine c_skip <| x_qs <| c_seq <| c_seq <| c_regHT 3 [(0, true), (1, true), (2, false)] (St w [] [Res.box b56 38 [.slice a34 p0.Conf_.Schema_.Attrs_.length c35, .slice a36 p0.Conf_.Schema_.Classes_.length c37, .int .i64 p0.Conf_.Rule_.Sure_, .int .i64 p0.Conf_.Rule_.Tie_, .int .i64 p0.Conf_.Rule_.Grace_, .int .i64 p0.Conf_.Rule_.Depth_, .int .i64 p0.Conf_.Rule_.Nodes_, .int .i64 p0.Conf_.Rule_.Units_, .bool p0.Conf_.Rule_.Two_, .int .i64 p0.Conf_.Members_, .int .i64 p0.Conf_.Pick_, .int .i64 p0.Conf_.Lambda_, .int .i64 p0.Conf_.Warn_, .int .i64 p0.Conf_.Drift_, .slice a40 p0.Forest_.Members_.length c41, .slice a46 p0.Score_.Table_.length c47, .slice a48 p0.Score_.Last_.length c49], Res.box b57 41 [.slice a54 p1.Bins_.length c55, .int .i64 p1.Class_], Res.own (eList (eTimpl_Attr) 133) F113 y105.Conf_.Schema_.Attrs_ [.slice a110 y105.Conf_.Schema_.Attrs_.length c112], Res.own (eList (eStr) 9) F117 y105.Conf_.Schema_.Classes_ [.slice a114 y105.Conf_.Schema_.Classes_.length c116], Res.own (eList (eTimpl_Member) 99) F121 y105.Forest_.Members_ [.slice a118 y105.Forest_.Members_.length c120], Res.own (eList (eList eI 3) 39) F125 y105.Score_.Table_ [.slice a122 y105.Score_.Table_.length c124], Res.own (eList (eTimpl_Pair) 143) F129 y105.Score_.Last_ [.slice a126 y105.Score_.Last_.length c128], Res.own (eList eI 3) F138 y130.Bins_ [.slice a135 y130.Bins_.length c137], Res.own (eList eI 3) F147 y139.2 [.slice a144 y139.2.length c146], Res.own (eList (eTimpl_Attr) 133) F156 y148.Conf_.Schema_.Attrs_ [.slice a153 y148.Conf_.Schema_.Attrs_.length c155], Res.own (eList (eStr) 9) F160 y148.Conf_.Schema_.Classes_ [.slice a157 y148.Conf_.Schema_.Classes_.length c159], Res.own (eList (eTimpl_Member) 99) F164 y148.Forest_.Members_ [.slice a161 y148.Forest_.Members_.length c163], Res.own (eList (eList eI 3) 39) F168 y148.Score_.Table_ [.slice a165 y148.Score_.Table_.length c167], Res.own (eList (eTimpl_Pair) 143) F172 y148.Score_.Last_ [.slice a169 y148.Score_.Last_.length c171], Res.box b173 59 [.slice a153 y148.Conf_.Schema_.Attrs_.length c155, .slice a157 y148.Conf_.Schema_.Classes_.length c159, .int .i64 y148.Conf_.Rule_.Sure_, .int .i64 y148.Conf_.Rule_.Tie_, .int .i64 y148.Conf_.Rule_.Grace_, .int .i64 y148.Conf_.Rule_.Depth_, .int .i64 y148.Conf_.Rule_.Nodes_, .int .i64 y148.Conf_.Rule_.Units_, .bool y148.Conf_.Rule_.Two_, .int .i64 y148.Conf_.Members_, .int .i64 y148.Conf_.Pick_, .int .i64 y148.Conf_.Lambda_, .int .i64 y148.Conf_.Warn_, .int .i64 y148.Conf_.Drift_, .slice a161 y148.Forest_.Members_.length c163, .slice a165 y148.Score_.Table_.length c167, .slice a169 y148.Score_.Last_.length c171], Res.own (eList eI 3) F182 y174.Bins_ [.slice a179 y174.Bins_.length c181], Res.box b183 61 [.slice a179 y174.Bins_.length c181, .int .i64 y174.Class_], Res.own (eList eI 3) F192 y184.2 [.slice a189 y184.2.length c191]]) mixed (by kernel_rfl) (panicOk_qs (panicOk_qs panicOk_body)) (fun _ h => St.mask [true, true, true, true, true, true, true, true, true, true, true, true, true, true, true, true, true, true] rfl h) <| ow_rH rfl (dstOk_lt rfl) (rx 0 14 _ rfl ty59 rfl) <| ow_rH rfl (dstOk_lt rfl) (rx 0 0 _ rfl ty38 rfl) <| bE H fun y223 h224 H => ow_callS rfl fn7 rfl rfl rfl rfl (fun w1 hw1 => laws_toState_ok w1 h224 (hw1.carve [] rfl rfl) (rdm_Tlaws_State (rdm_Tlaws_Conf (rdm_Tlaws_Schema (rds_bor g32 w1 hw1) (rds_bor g33 w1 hw1)) rfl rfl rfl rfl rfl rfl) (rdm_Tlaws_Forest (rds_bor g39 w1 hw1)) (rdm_Tlaws_Score (rds_bor g44 w1 hw1) (rds_bor g45 w1 hw1)))) fun v225 w1 w2 hw1 hR227 => ?_
     obtain ⟨a228, n229, c230, F231, a232, n233, c234, F235, a236, n237, c238, F239, a240, n241, c242, F243, a244, n245, c246, F247, rfl, hS226⟩ := hR227
     obtain rfl := own_nS (i := 0) hS226 rfl
     obtain rfl := own_nS (i := 1) hS226 rfl
     obtain rfl := own_nS (i := 2) hS226 rfl
     obtain rfl := own_nS (i := 3) hS226 rfl
     obtain rfl := own_nS (i := 4) hS226 rfl
     refine ⟨St w [] [_, _, _, _, _, _, _, _, _, _, _, _, _, _, _, _, _, _, _, _, _, _, _], hw1.comp [] rfl rfl hS226, (fun _ h => St.mask [true, true, true, true, true, true, true, true, true, true, true, true, true, true, true, true, true, true] rfl h), ?_⟩
     refine ow_nilH <| x_qt <| bE H fun y248 h249 H => oq rfl (qc rfl fn11 (fun w1 hw1 => laws_eqState_ok w1 h249 (rdm_Timpl_State (x := y148) (c0 := [.slice a153 y148.Conf_.Schema_.Attrs_.length c155, .slice a157 y148.Conf_.Schema_.Classes_.length c159, .int .i64 y148.Conf_.Rule_.Sure_, .int .i64 y148.Conf_.Rule_.Tie_, .int .i64 y148.Conf_.Rule_.Grace_, .int .i64 y148.Conf_.Rule_.Depth_, .int .i64 y148.Conf_.Rule_.Nodes_, .int .i64 y148.Conf_.Rule_.Units_, .bool y148.Conf_.Rule_.Two_, .int .i64 y148.Conf_.Members_, .int .i64 y148.Conf_.Pick_, .int .i64 y148.Conf_.Lambda_, .int .i64 y148.Conf_.Warn_, .int .i64 y148.Conf_.Drift_]) (c1 := [.slice a161 y148.Forest_.Members_.length c163]) (c2 := [.slice a165 y148.Score_.Table_.length c167, .slice a169 y148.Score_.Last_.length c171]) (rdm_Timpl_Conf (x := y148.Conf_) (c0 := [.slice a153 y148.Conf_.Schema_.Attrs_.length c155, .slice a157 y148.Conf_.Schema_.Classes_.length c159]) (c1 := [.int .i64 y148.Conf_.Rule_.Sure_, .int .i64 y148.Conf_.Rule_.Tie_, .int .i64 y148.Conf_.Rule_.Grace_, .int .i64 y148.Conf_.Rule_.Depth_, .int .i64 y148.Conf_.Rule_.Nodes_, .int .i64 y148.Conf_.Rule_.Units_, .bool y148.Conf_.Rule_.Two_]) (c2 := [.int .i64 y148.Conf_.Members_]) (c3 := [.int .i64 y148.Conf_.Pick_]) (c4 := [.int .i64 y148.Conf_.Lambda_]) (c5 := [.int .i64 y148.Conf_.Warn_]) (c6 := [.int .i64 y148.Conf_.Drift_]) (rdm_Timpl_Schema (x := y148.Conf_.Schema_) (c0 := [.slice a153 y148.Conf_.Schema_.Attrs_.length c155]) (c1 := [.slice a157 y148.Conf_.Schema_.Classes_.length c159]) (rds_own (e := eList (eTimpl_Attr) 133) (r := 9) rfl w1 hw1) (rds_own (e := eList (eStr) 9) (r := 10) rfl w1 hw1)) rfl rfl rfl rfl rfl rfl) (rdm_Timpl_Forest (x := y148.Forest_) (c0 := [.slice a161 y148.Forest_.Members_.length c163]) (rds_own (e := eList (eTimpl_Member) 99) (r := 11) rfl w1 hw1)) (rdm_Timpl_Score (x := y148.Score_) (c0 := [.slice a165 y148.Score_.Table_.length c167]) (c1 := [.slice a169 y148.Score_.Last_.length c171]) (rds_own (e := eList (eList eI 3) 39) (r := 12) rfl w1 hw1) (rds_own (e := eList (eTimpl_Pair) 143) (r := 13) rfl w1 hw1))) (rdm_Timpl_State (x := y223) (c0 := [.slice a228 y223.Conf_.Schema_.Attrs_.length c230, .slice a232 y223.Conf_.Schema_.Classes_.length c234, .int .i64 y223.Conf_.Rule_.Sure_, .int .i64 y223.Conf_.Rule_.Tie_, .int .i64 y223.Conf_.Rule_.Grace_, .int .i64 y223.Conf_.Rule_.Depth_, .int .i64 y223.Conf_.Rule_.Nodes_, .int .i64 y223.Conf_.Rule_.Units_, .bool y223.Conf_.Rule_.Two_, .int .i64 y223.Conf_.Members_, .int .i64 y223.Conf_.Pick_, .int .i64 y223.Conf_.Lambda_, .int .i64 y223.Conf_.Warn_, .int .i64 y223.Conf_.Drift_]) (c1 := [.slice a236 y223.Forest_.Members_.length c238]) (c2 := [.slice a240 y223.Score_.Table_.length c242, .slice a244 y223.Score_.Last_.length c246]) (rdm_Timpl_Conf (x := y223.Conf_) (c0 := [.slice a228 y223.Conf_.Schema_.Attrs_.length c230, .slice a232 y223.Conf_.Schema_.Classes_.length c234]) (c1 := [.int .i64 y223.Conf_.Rule_.Sure_, .int .i64 y223.Conf_.Rule_.Tie_, .int .i64 y223.Conf_.Rule_.Grace_, .int .i64 y223.Conf_.Rule_.Depth_, .int .i64 y223.Conf_.Rule_.Nodes_, .int .i64 y223.Conf_.Rule_.Units_, .bool y223.Conf_.Rule_.Two_]) (c2 := [.int .i64 y223.Conf_.Members_]) (c3 := [.int .i64 y223.Conf_.Pick_]) (c4 := [.int .i64 y223.Conf_.Lambda_]) (c5 := [.int .i64 y223.Conf_.Warn_]) (c6 := [.int .i64 y223.Conf_.Drift_]) (rdm_Timpl_Schema (x := y223.Conf_.Schema_) (c0 := [.slice a228 y223.Conf_.Schema_.Attrs_.length c230]) (c1 := [.slice a232 y223.Conf_.Schema_.Classes_.length c234]) (rds_own (e := eList (eTimpl_Attr) 133) (r := 18) rfl w1 hw1) (rds_own (e := eList (eStr) 9) (r := 19) rfl w1 hw1)) rfl rfl rfl rfl rfl rfl) (rdm_Timpl_Forest (x := y223.Forest_) (c0 := [.slice a236 y223.Forest_.Members_.length c238]) (rds_own (e := eList (eTimpl_Member) 99) (r := 20) rfl w1 hw1)) (rdm_Timpl_Score (x := y223.Score_) (c0 := [.slice a240 y223.Score_.Table_.length c242]) (c1 := [.slice a244 y223.Score_.Last_.length c246]) (rds_own (e := eList (eList eI 3) 39) (r := 21) rfl w1 hw1) (rds_own (e := eList (eTimpl_Pair) 143) (r := 22) rfl w1 hw1))))) tt2 <| oP rfl <| nQ <| cI H rfl (fun H => ?_) (fun H => ?_)
     ·exact sR <| oP rfl <| nT <| x_qs_ret <| xr 4 rfl (by cases H; exact q1)
     ·refine c_skip <| x_qs <| c_seq <| c_seq <| c_regHT 3 [(0, true), (1, true), (2, false)] (St w [] [Res.box b56 38 [.slice a34 p0.Conf_.Schema_.Attrs_.length c35, .slice a36 p0.Conf_.Schema_.Classes_.length c37, .int .i64 p0.Conf_.Rule_.Sure_, .int .i64 p0.Conf_.Rule_.Tie_, .int .i64 p0.Conf_.Rule_.Grace_, .int .i64 p0.Conf_.Rule_.Depth_, .int .i64 p0.Conf_.Rule_.Nodes_, .int .i64 p0.Conf_.Rule_.Units_, .bool p0.Conf_.Rule_.Two_, .int .i64 p0.Conf_.Members_, .int .i64 p0.Conf_.Pick_, .int .i64 p0.Conf_.Lambda_, .int .i64 p0.Conf_.Warn_, .int .i64 p0.Conf_.Drift_, .slice a40 p0.Forest_.Members_.length c41, .slice a46 p0.Score_.Table_.length c47, .slice a48 p0.Score_.Last_.length c49], Res.box b57 41 [.slice a54 p1.Bins_.length c55, .int .i64 p1.Class_], Res.own (eList (eTimpl_Attr) 133) F113 y105.Conf_.Schema_.Attrs_ [.slice a110 y105.Conf_.Schema_.Attrs_.length c112], Res.own (eList (eStr) 9) F117 y105.Conf_.Schema_.Classes_ [.slice a114 y105.Conf_.Schema_.Classes_.length c116], Res.own (eList (eTimpl_Member) 99) F121 y105.Forest_.Members_ [.slice a118 y105.Forest_.Members_.length c120], Res.own (eList (eList eI 3) 39) F125 y105.Score_.Table_ [.slice a122 y105.Score_.Table_.length c124], Res.own (eList (eTimpl_Pair) 143) F129 y105.Score_.Last_ [.slice a126 y105.Score_.Last_.length c128], Res.own (eList eI 3) F138 y130.Bins_ [.slice a135 y130.Bins_.length c137], Res.own (eList eI 3) F147 y139.2 [.slice a144 y139.2.length c146], Res.own (eList (eTimpl_Attr) 133) F156 y148.Conf_.Schema_.Attrs_ [.slice a153 y148.Conf_.Schema_.Attrs_.length c155], Res.own (eList (eStr) 9) F160 y148.Conf_.Schema_.Classes_ [.slice a157 y148.Conf_.Schema_.Classes_.length c159], Res.own (eList (eTimpl_Member) 99) F164 y148.Forest_.Members_ [.slice a161 y148.Forest_.Members_.length c163], Res.own (eList (eList eI 3) 39) F168 y148.Score_.Table_ [.slice a165 y148.Score_.Table_.length c167], Res.own (eList (eTimpl_Pair) 143) F172 y148.Score_.Last_ [.slice a169 y148.Score_.Last_.length c171], Res.box b173 59 [.slice a153 y148.Conf_.Schema_.Attrs_.length c155, .slice a157 y148.Conf_.Schema_.Classes_.length c159, .int .i64 y148.Conf_.Rule_.Sure_, .int .i64 y148.Conf_.Rule_.Tie_, .int .i64 y148.Conf_.Rule_.Grace_, .int .i64 y148.Conf_.Rule_.Depth_, .int .i64 y148.Conf_.Rule_.Nodes_, .int .i64 y148.Conf_.Rule_.Units_, .bool y148.Conf_.Rule_.Two_, .int .i64 y148.Conf_.Members_, .int .i64 y148.Conf_.Pick_, .int .i64 y148.Conf_.Lambda_, .int .i64 y148.Conf_.Warn_, .int .i64 y148.Conf_.Drift_, .slice a161 y148.Forest_.Members_.length c163, .slice a165 y148.Score_.Table_.length c167, .slice a169 y148.Score_.Last_.length c171], Res.own (eList eI 3) F182 y174.Bins_ [.slice a179 y174.Bins_.length c181], Res.box b183 61 [.slice a179 y174.Bins_.length c181, .int .i64 y174.Class_], Res.own (eList eI 3) F192 y184.2 [.slice a189 y184.2.length c191], Res.own (eList (eTimpl_Attr) 133) F231 y223.Conf_.Schema_.Attrs_ [.slice a228 y223.Conf_.Schema_.Attrs_.length c230], Res.own (eList (eStr) 9) F235 y223.Conf_.Schema_.Classes_ [.slice a232 y223.Conf_.Schema_.Classes_.length c234], Res.own (eList (eTimpl_Member) 99) F239 y223.Forest_.Members_ [.slice a236 y223.Forest_.Members_.length c238], Res.own (eList (eList eI 3) 39) F243 y223.Score_.Table_ [.slice a240 y223.Score_.Table_.length c242], Res.own (eList (eTimpl_Pair) 143) F247 y223.Score_.Last_ [.slice a244 y223.Score_.Last_.length c246]]) mixed (by kernel_rfl) (panicOk_qs (panicOk_qs panicOk_body)) (fun _ h => St.mask [true, true, true, true, true, true, true, true, true, true, true, true, true, true, true, true, true, true, true, true, true, true, true] rfl h) <| ow_rH rfl (dstOk_lt rfl) (rx 0 16 _ rfl ty61 rfl) <| ow_rH rfl (dstOk_lt rfl) (rx 0 1 _ rfl ty41 rfl) <| bE H fun y259 h260 H => ow_callS rfl fn8 rfl rfl rfl rfl (fun w1 hw1 => laws_toEx_ok w1 h260 (hw1.carve [] rfl rfl) (rdm_Tlaws_Ex (rds_bor g52 w1 hw1) rfl)) fun v261 w1 w2 hw1 hR263 => ?_
      obtain ⟨a264, n265, c266, F267, rfl, hS262⟩ := hR263
      obtain rfl := own_nS (i := 0) hS262 rfl
      refine ⟨St w [] [_, _, _, _, _, _, _, _, _, _, _, _, _, _, _, _, _, _, _, _, _, _, _, _], hw1.comp [] rfl rfl hS262, (fun _ h => St.mask [true, true, true, true, true, true, true, true, true, true, true, true, true, true, true, true, true, true, true, true, true, true, true] rfl h), ?_⟩
      refine ow_nilH <| x_qt <| bE H fun y268 h269 H => oq rfl (qc rfl fn12 (fun w1 hw1 => laws_eqEx_ok w1 h269 (rdm_Timpl_Ex (x := y174) (c0 := [.slice a179 y174.Bins_.length c181]) (c1 := [.int .i64 y174.Class_]) (rds_own (e := eList eI 3) (r := 15) rfl w1 hw1) rfl) (rdm_Timpl_Ex (x := y259) (c0 := [.slice a264 y259.Bins_.length c266]) (c1 := [.int .i64 y259.Class_]) (rds_own (e := eList eI 3) (r := 23) rfl w1 hw1) rfl))) tt2 <| oP rfl <| nQ <| cI H rfl (fun H => ?_) (fun H => ?_)
      ·exact sR <| oP rfl <| nT <| x_qs_ret <| xr 4 rfl (by cases H; exact q1)
      ·refine c_skip <| x_qs <| sR <| oP rfl <| nR <| o1 rfl (rx 0 14 _ rfl ty59 rfl) <| oP rfl <| bE H fun y270 h271 H => ow_callS rfl fn13 rfl rfl rfl rfl (fun w1 hw1 => laws_markState_ok w1  h271 (hw1.carve [9, 10, 11, 12, 13] rfl rfl)) fun v272 w1 w2 hw1 hR274 => ?_
       obtain ⟨F275, F276, F277, F278, F279, rfl, hS273⟩ := hR274
       refine ⟨St w [] [_, _, _, _, _, _, _, _, _, _, _, _, _, _, _, _, _, _, _, _, _, _, _, _, _, _, _, _, _], hw1.comp [9, 10, 11, 12, 13] rfl rfl hS273, fun _ _ => trivial, ?_⟩
       refine oP rfl <| nQ <| c_seq <| CW.weak (C' := St w [] [_, _, _, _, _, _, _, _, _, _, _, _, _, _, _, _, _, _, _, _, _, _, _, _]) ?_ (fun _ h => St.sel [0, 1, 2, 3, 4, 5, 6, 7, 8, 14, 15, 16, 17, 18, 19, 20, 21, 22, 23, 24, 25, 26, 27, 28] rfl rfl h)
       refine c_reg <| o1 rfl (rx 0 11 _ rfl ty61 rfl) <| oP rfl <| bE H fun y280 h281 H => ow_callS rfl fn14 rfl rfl rfl rfl (fun w1 hw1 => laws_markEx_ok w1  h281 (hw1.carve [10] rfl rfl)) fun v282 w1 w2 hw1 hR284 => ?_
       obtain ⟨F285, rfl, hS283⟩ := hR284
       refine ⟨St w [] [_, _, _, _, _, _, _, _, _, _, _, _, _, _, _, _, _, _, _, _, _, _, _, _, _], hw1.comp [10] rfl rfl hS283, fun _ _ => trivial, ?_⟩
       refine oP rfl <| nQ <| c_seq <| sR <| ow_batch [.p, .p, .p] rfl <| ow_cut [(76, .bool ((decide (y280.1 < 0)) || (y184.1 != y139.1))), (2, .pointer (some ⟨b56, 0, none⟩)), (3, .pointer (some ⟨b57, 0, none⟩)), (6, .int .i64 y139.1), (7, .slice a144 y139.2.length c146), (11, .slice a189 y184.2.length c191)] 4 ?_ (fun key => OW.sub (R := [(2, .pointer (some ⟨b56, 0, none⟩)), (3, .pointer (some ⟨b57, 0, none⟩)), (6, .int .i64 y139.1), (7, .slice a144 y139.2.length c146), (10, .int .i64 y184.1), (11, .slice a189 y184.2.length c191), (72, .bool (decide (y280.1 < 0)))]) ?_ (sb rfl))
       ·refine oP rfl <| bE H fun u288 hu292 H => ow_cut [(82, .bool u288), (2, .pointer (some ⟨b56, 0, none⟩)), (3, .pointer (some ⟨b57, 0, none⟩)), (6, .int .i64 y139.1), (7, .slice a144 y139.2.length c146), (11, .slice a189 y184.2.length c191)] 5 ?_ (fun key => OW.sub (R := [(2, .pointer (some ⟨b56, 0, none⟩)), (3, .pointer (some ⟨b57, 0, none⟩)), (6, .int .i64 y139.1), (7, .slice a144 y139.2.length c146), (11, .slice a189 y184.2.length c191), (77, .bool ((decide (y280.1 < 0)) || (y184.1 != y139.1)))]) ?_ (sb rfl))
        ·refine nQ <| cI H rfl (fun H => ?_) (fun H => ?_)
         ·exact sR <| oP rfl <| nT <| x_qs_ret <| xr 4 rfl (by cases H; exact q1)
         ·refine c_skip <| x_qs <| sR <| oP rfl <| nR <| oPP rfl <| bE H fun y293 h294 H => ow_callS rfl fn15 rfl rfl rfl rfl (fun w1 hw1 => laws_markIntS_ok w1  h294 (hw1.carve [12] rfl rfl)) fun v295 w1 w2 hw1 hR297 => ?_
          obtain ⟨F298, rfl, hS296⟩ := hR297
          refine ⟨St w [] [_, _, _, _, _, _, _, _, _, _, _, _, _, _, _, _, _, _, _, _, _, _, _, _, _, _], hw1.comp [12] rfl rfl hS296, fun _ _ => trivial, ?_⟩
          refine oP rfl <| nQ <| c_seq <| CW.weak (C' := St w [] [_, _, _, _, _, _, _, _, _, _, _, _, _, _, _, _, _, _, _, _, _, _, _, _]) ?_ (fun _ h => St.sel [0, 1, 2, 3, 4, 5, 6, 7, 8, 9, 11, 13, 14, 15, 16, 17, 18, 19, 20, 21, 22, 23, 24, 25] rfl rfl h)
          refine c_reg <| oP rfl <| nR <| oPP rfl <| bE H fun y299 h300 H => oq rfl (qc rfl fn16 (fun w1 hw1 => laws_heldIntS_ok w1  h300 (rds_own (e := eList eI 3) (r := 23) rfl w1 hw1))) tt2 <| oP rfl <| nQ <| c_seq <| sR <| oPP rfl <| nQ <| cI H rfl (fun H => ?_) (fun H => ?_)
          ·exact sR <| oP rfl <| nT <| x_qs_ret <| xr 4 rfl (by cases H; exact q1)
          ·refine c_skip <| x_qs <| c_seq <| sR <| ow_batch [.p, .p, .p] rfl <| nQ <| cI H rfl (fun H => ?_) (fun H => ?_)
           ·exact sR <| oP rfl <| nT <| x_qs_ret <| xr 4 rfl (by cases H; exact q1)
           ·refine c_skip <| x_qs <| c_seq <| c_regHT 9 [(0, true), (2, true), (1, false), (3, false), (4, false), (5, true), (6, true), (7, true), (8, true)] (St w [] [Res.box b56 38 [.slice a34 p0.Conf_.Schema_.Attrs_.length c35, .slice a36 p0.Conf_.Schema_.Classes_.length c37, .int .i64 p0.Conf_.Rule_.Sure_, .int .i64 p0.Conf_.Rule_.Tie_, .int .i64 p0.Conf_.Rule_.Grace_, .int .i64 p0.Conf_.Rule_.Depth_, .int .i64 p0.Conf_.Rule_.Nodes_, .int .i64 p0.Conf_.Rule_.Units_, .bool p0.Conf_.Rule_.Two_, .int .i64 p0.Conf_.Members_, .int .i64 p0.Conf_.Pick_, .int .i64 p0.Conf_.Lambda_, .int .i64 p0.Conf_.Warn_, .int .i64 p0.Conf_.Drift_, .slice a40 p0.Forest_.Members_.length c41, .slice a46 p0.Score_.Table_.length c47, .slice a48 p0.Score_.Last_.length c49], Res.box b57 41 [.slice a54 p1.Bins_.length c55, .int .i64 p1.Class_], Res.own (eList (eTimpl_Attr) 133) F113 y105.Conf_.Schema_.Attrs_ [.slice a110 y105.Conf_.Schema_.Attrs_.length c112], Res.own (eList (eStr) 9) F117 y105.Conf_.Schema_.Classes_ [.slice a114 y105.Conf_.Schema_.Classes_.length c116], Res.own (eList (eTimpl_Member) 99) F121 y105.Forest_.Members_ [.slice a118 y105.Forest_.Members_.length c120], Res.own (eList (eList eI 3) 39) F125 y105.Score_.Table_ [.slice a122 y105.Score_.Table_.length c124], Res.own (eList (eTimpl_Pair) 143) F129 y105.Score_.Last_ [.slice a126 y105.Score_.Last_.length c128], Res.own (eList eI 3) F138 y130.Bins_ [.slice a135 y130.Bins_.length c137], Res.own (eList eI 3) F147 y139.2 [.slice a144 y139.2.length c146], Res.box b173 59 [.slice a153 y148.Conf_.Schema_.Attrs_.length c155, .slice a157 y148.Conf_.Schema_.Classes_.length c159, .int .i64 y148.Conf_.Rule_.Sure_, .int .i64 y148.Conf_.Rule_.Tie_, .int .i64 y148.Conf_.Rule_.Grace_, .int .i64 y148.Conf_.Rule_.Depth_, .int .i64 y148.Conf_.Rule_.Nodes_, .int .i64 y148.Conf_.Rule_.Units_, .bool y148.Conf_.Rule_.Two_, .int .i64 y148.Conf_.Members_, .int .i64 y148.Conf_.Pick_, .int .i64 y148.Conf_.Lambda_, .int .i64 y148.Conf_.Warn_, .int .i64 y148.Conf_.Drift_, .slice a161 y148.Forest_.Members_.length c163, .slice a165 y148.Score_.Table_.length c167, .slice a169 y148.Score_.Last_.length c171], Res.box b183 61 [.slice a179 y174.Bins_.length c181, .int .i64 y174.Class_], Res.own (eList (eTimpl_Attr) 133) F231 y223.Conf_.Schema_.Attrs_ [.slice a228 y223.Conf_.Schema_.Attrs_.length c230], Res.own (eList (eStr) 9) F235 y223.Conf_.Schema_.Classes_ [.slice a232 y223.Conf_.Schema_.Classes_.length c234], Res.own (eList (eTimpl_Member) 99) F239 y223.Forest_.Members_ [.slice a236 y223.Forest_.Members_.length c238], Res.own (eList (eList eI 3) 39) F243 y223.Score_.Table_ [.slice a240 y223.Score_.Table_.length c242], Res.own (eList (eTimpl_Pair) 143) F247 y223.Score_.Last_ [.slice a244 y223.Score_.Last_.length c246], Res.own (eList eI 3) F267 y259.Bins_ [.slice a264 y259.Bins_.length c266], Res.own (eList (eTimpl_Attr) 133) F275 y270.2.Conf_.Schema_.Attrs_ [.slice a153 y148.Conf_.Schema_.Attrs_.length c155], Res.own (eList (eStr) 9) F276 y270.2.Conf_.Schema_.Classes_ [.slice a157 y148.Conf_.Schema_.Classes_.length c159], Res.own (eList (eTimpl_Member) 99) F277 y270.2.Forest_.Members_ [.slice a161 y148.Forest_.Members_.length c163], Res.own (eList (eList eI 3) 39) F278 y270.2.Score_.Table_ [.slice a165 y148.Score_.Table_.length c167], Res.own (eList (eTimpl_Pair) 143) F279 y270.2.Score_.Last_ [.slice a169 y148.Score_.Last_.length c171], Res.own (eList eI 3) F285 y280.2.Bins_ [.slice a179 y174.Bins_.length c181], Res.own (eList eI 3) F298 y293.2 [.slice a189 y184.2.length c191]]) mixed (by kernel_rfl) (panicOk_qs panicOk_body) (fun _ h => St.mask [true, true, true, true, true, true, true, true, true, true, true, true, true, true, true, true, true, true, true, true, true, true, true, true] rfl h) <| ow_rH rfl (dstOk_lt rfl) (rx 0 0 _ rfl ty38 rfl) <| ow_rH rfl (dstOk_lt rfl) (rx 0 1 _ rfl ty41 rfl) <| bE H fun y344 h345 H => ow_callS rfl fn7 rfl rfl rfl rfl (fun w1 hw1 => laws_toState_ok w1 h345 (hw1.carve [] rfl rfl) (rdm_Tlaws_State (rdm_Tlaws_Conf (rdm_Tlaws_Schema (rds_bor g32 w1 hw1) (rds_bor g33 w1 hw1)) rfl rfl rfl rfl rfl rfl) (rdm_Tlaws_Forest (rds_bor g39 w1 hw1)) (rdm_Tlaws_Score (rds_bor g44 w1 hw1) (rds_bor g45 w1 hw1)))) fun v346 w1 w2 hw1 hR348 => ?_
            obtain ⟨a349, n350, c351, F352, a353, n354, c355, F356, a357, n358, c359, F360, a361, n362, c363, F364, a365, n366, c367, F368, rfl, hS347⟩ := hR348
            obtain rfl := own_nS (i := 0) hS347 rfl
            obtain rfl := own_nS (i := 1) hS347 rfl
            obtain rfl := own_nS (i := 2) hS347 rfl
            obtain rfl := own_nS (i := 3) hS347 rfl
            obtain rfl := own_nS (i := 4) hS347 rfl
            refine ⟨St w [] [_, _, _, _, _, _, _, _, _, _, _, _, _, _, _, _, _, _, _, _, _, _, _, _, _, _, _, _, _], hw1.comp [] rfl rfl hS347, (fun _ h => St.mask [true, true, true, true, true, true, true, true, true, true, true, true, true, true, true, true, true, true, true, true, true, true, true, true] rfl h), ?_⟩
            refine bE H fun y369 h370 H => ow_callS rfl fn8 rfl rfl rfl rfl (fun w1 hw1 => laws_toEx_ok w1 h370 (hw1.carve [] rfl rfl) (rdm_Tlaws_Ex (rds_bor g52 w1 hw1) rfl)) fun v371 w1 w2 hw1 hR373 => ?_
            obtain ⟨a374, n375, c376, F377, rfl, hS372⟩ := hR373
            obtain rfl := own_nS (i := 0) hS372 rfl
            refine ⟨St w [] [_, _, _, _, _, _, _, _, _, _, _, _, _, _, _, _, _, _, _, _, _, _, _, _, _, _, _, _, _, _], hw1.comp [] rfl rfl hS372, (fun _ h => St.mask [true, true, true, true, true, true, true, true, true, true, true, true, true, true, true, true, true, true, true, true, true, true, true, true] rfl h), ?_⟩
            refine bE H fun y378 h379 H => ow_callS rfl fn9 rfl rfl rfl rfl (fun w1 hw1 => impl_StateSays_ok w1 h379 (hw1.carve [] rfl rfl) (rdm_Timpl_State (x := y344) (c0 := [.slice a349 y344.Conf_.Schema_.Attrs_.length c351, .slice a353 y344.Conf_.Schema_.Classes_.length c355, .int .i64 y344.Conf_.Rule_.Sure_, .int .i64 y344.Conf_.Rule_.Tie_, .int .i64 y344.Conf_.Rule_.Grace_, .int .i64 y344.Conf_.Rule_.Depth_, .int .i64 y344.Conf_.Rule_.Nodes_, .int .i64 y344.Conf_.Rule_.Units_, .bool y344.Conf_.Rule_.Two_, .int .i64 y344.Conf_.Members_, .int .i64 y344.Conf_.Pick_, .int .i64 y344.Conf_.Lambda_, .int .i64 y344.Conf_.Warn_, .int .i64 y344.Conf_.Drift_]) (c1 := [.slice a357 y344.Forest_.Members_.length c359]) (c2 := [.slice a361 y344.Score_.Table_.length c363, .slice a365 y344.Score_.Last_.length c367]) (rdm_Timpl_Conf (x := y344.Conf_) (c0 := [.slice a349 y344.Conf_.Schema_.Attrs_.length c351, .slice a353 y344.Conf_.Schema_.Classes_.length c355]) (c1 := [.int .i64 y344.Conf_.Rule_.Sure_, .int .i64 y344.Conf_.Rule_.Tie_, .int .i64 y344.Conf_.Rule_.Grace_, .int .i64 y344.Conf_.Rule_.Depth_, .int .i64 y344.Conf_.Rule_.Nodes_, .int .i64 y344.Conf_.Rule_.Units_, .bool y344.Conf_.Rule_.Two_]) (c2 := [.int .i64 y344.Conf_.Members_]) (c3 := [.int .i64 y344.Conf_.Pick_]) (c4 := [.int .i64 y344.Conf_.Lambda_]) (c5 := [.int .i64 y344.Conf_.Warn_]) (c6 := [.int .i64 y344.Conf_.Drift_]) (rdm_Timpl_Schema (x := y344.Conf_.Schema_) (c0 := [.slice a349 y344.Conf_.Schema_.Attrs_.length c351]) (c1 := [.slice a353 y344.Conf_.Schema_.Classes_.length c355]) (rds_own (e := eList (eTimpl_Attr) 133) (r := 24) rfl w1 hw1) (rds_own (e := eList (eStr) 9) (r := 25) rfl w1 hw1)) rfl rfl rfl rfl rfl rfl) (rdm_Timpl_Forest (x := y344.Forest_) (c0 := [.slice a357 y344.Forest_.Members_.length c359]) (rds_own (e := eList (eTimpl_Member) 99) (r := 26) rfl w1 hw1)) (rdm_Timpl_Score (x := y344.Score_) (c0 := [.slice a361 y344.Score_.Table_.length c363]) (c1 := [.slice a365 y344.Score_.Last_.length c367]) (rds_own (e := eList (eList eI 3) 39) (r := 27) rfl w1 hw1) (rds_own (e := eList (eTimpl_Pair) 143) (r := 28) rfl w1 hw1))) (rdm_Timpl_Ex (x := y369) (c0 := [.slice a374 y369.Bins_.length c376]) (c1 := [.int .i64 y369.Class_]) (rds_own (e := eList eI 3) (r := 29) rfl w1 hw1) rfl)) fun v380 w1 w2 hw1 hR382 => ?_
            obtain ⟨a383, n384, c385, F386, rfl, hS381⟩ := hR382
            obtain rfl := own_nS (i := 0) hS381 rfl
            refine ⟨St w [] [_, _, _, _, _, _, _, _, _, _, _, _, _, _, _, _, _, _, _, _, _, _, _, _, _, _, _, _, _, _, _], hw1.comp [] rfl rfl hS381, (fun _ h => St.mask [true, true, true, true, true, true, true, true, true, true, true, true, true, true, true, true, true, true, true, true, true, true, true, true] rfl h), ?_⟩
            refine ow_batch [.p, .p, .p, .p] rfl <| ow_nilH <| x_qt <| oP rfl <| nQ <| c_seq <| sR <| ow_batch [.p, .p, .p, .p] rfl <| bE H fun u387 hu391 H => ow_cut [(110, .bool u387), (11, .slice a189 y184.2.length c191), (13, .int .i64 y293.1)] 5 ?_ (fun key => OW.sub (R := [(7, .slice a144 y139.2.length c146), (11, .slice a189 y184.2.length c191), (13, .int .i64 y293.1), (16, .slice a383 y378.2.length c385), (105, .bool (y378.1 != y139.1))]) ?_ (sb rfl))
            ·refine nQ <| cI H rfl (fun H => ?_) (fun H => ?_)
             ·exact sR <| oP rfl <| nT <| x_qs_ret <| xr 4 rfl (by cases H; exact q1)
             ·refine c_skip <| x_qs <| sR <| oP rfl <| nR <| oPP rfl <| bE H fun y392 h393 H => oq rfl (qc rfl fn16 (fun w1 hw1 => laws_heldIntS_ok w1  h393 (rds_own (e := eList eI 3) (r := 23) rfl w1 hw1))) tt2 <| oP rfl <| nQ <| c_seq <| sR <| oPP rfl <| nQ <| cI H rfl (fun H => ?_) (fun H => ?_)
              ·exact sR <| oP rfl <| nT <| x_qs_ret <| xr 4 rfl (by cases H; exact q1)
              ·refine c_skip <| x_qs <| c_seq <| sR <| ow_batch [.p, .p, .p] rfl <| nQ <| cI H rfl (fun H => ?_) (fun H => ?_)
               ·exact sR <| oP rfl <| nT <| x_qs_ret <| xr 4 rfl (by cases H; exact q1)
               ·exact c_skip <| x_qs <| sR <| oP rfl <| nT <| xr 4 rfl (by cases H; exact q1)
            ·clear H
             have H := hu391
             clear hu391
             generalize (y378.1 != y139.1) = t390 at H key ⊢
             cases t390
             ·have H := of_if_f rfl H
              refine oPP rfl <| bE H fun y388 h389 H => oq rfl (qc rfl fn10 (fun w1 hw1 => laws_eqIntS_ok w1  h389 (rds_own (e := eList eI 3) (r := 30) rfl w1 hw1) (rds_own (e := eList eI 3) (r := 8) rfl w1 hw1))) tt2 <| oP rfl <| oP rfl <| ?_
              obtain rfl := of_some H
              exact OW.sub key (sb rfl)
             ·have H := of_if_t rfl H
              refine ow_batch [.p, .p, .p, .p, .p] rfl ?_
              obtain rfl := of_some H
              exact OW.sub key (sb rfl)
        ·clear H
         have H := hu292
         clear hu292
         generalize ((decide (y280.1 < 0)) || (y184.1 != y139.1)) = t291 at H key ⊢
         cases t291
         ·have H := of_if_f rfl H
          refine oPP rfl <| bE H fun y289 h290 H => oq rfl (qc rfl fn10 (fun w1 hw1 => laws_eqIntS_ok w1  h290 (rds_own (e := eList eI 3) (r := 12) rfl w1 hw1) (rds_own (e := eList eI 3) (r := 8) rfl w1 hw1))) tt2 <| oP rfl <| oP rfl <| ?_
          obtain rfl := of_some H
          exact OW.sub key (sb rfl)
         ·have H := of_if_t rfl H
          refine ow_batch [.p, .p, .p, .p, .p] rfl ?_
          obtain rfl := of_some H
          exact OW.sub key (sb rfl)
       ·generalize (decide (y280.1 < 0)) = t287 at key ⊢
        cases t287
        ·exact ow_batch [.p, .p, .p] rfl <| oP rfl <| OW.sub key (sb rfl)
        ·exact ow_batch [.p, .p, .p, .p] rfl <| OW.sub key (sb rfl)
   ·clear H
    have H := hu197
    clear hu197
    generalize (y184.1 != y139.1) = t196 at H key ⊢
    cases t196
    ·have H := of_if_f rfl H
     refine oPP rfl <| bE H fun y194 h195 H => oq rfl (qc rfl fn10 (fun w1 hw1 => laws_eqIntS_ok w1  h195 (rds_own (e := eList eI 3) (r := 17) rfl w1 hw1) (rds_own (e := eList eI 3) (r := 8) rfl w1 hw1))) tt2 <| oP rfl <| oP rfl <| ?_
     obtain rfl := of_some H
     exact OW.sub key (sb rfl)
    ·have H := of_if_t rfl H
     refine ow_batch [.p, .p, .p, .p, .p] rfl ?_
     obtain rfl := of_some H
     exact OW.sub key (sb rfl)
end Go.Vk
