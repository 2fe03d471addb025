/- The code does what the functions of data say. Printed by program. -/
import Derived.Test.YtmdkpmcoaalaoaaGreatWStateSaysB
namespace Go.Vk
open Go.Proofs Go.RowKit
set_option maxHeartbeats 4000000
set_option maxRecDepth 100000
theorem spec_LeafVote_ok (w : World) {M0 : List Nat} {p0 : Timpl_Schema} {p1 : Timpl_Tree} {p2 : Timpl_Ex} {cs0 : List Value} {cs1 : List Value} {cs2 : List Value} {r : List Int} (H : spec_LeafVote p0 p1 p2 = some r) (HS : St w M0 [] w) (g0 : (eTimpl_Schema).rd w M0 p0 cs0) (g1 : (eTimpl_Tree).rd w M0 p1 cs1) (g2 : (eTimpl_Ex).rd w M0 p2 cs2) :
    Calls Tryz.prog 71 #[.agg cs0.toArray, .agg cs1.toArray, .agg cs2.toArray] w (fun en w' => ∃ v, en = .returned v ∧ ∃ (a0 : Option Addr), ∃ (n0 : Nat), ∃ (c0 : Nat), ∃ (F0 : List Nat), v = .slice a0 n0 c0 ∧ St w M0 [Res.own (eList eI 3) F0 r [.slice a0 n0 c0]] w') := by
 obtain ⟨c10, c11, rfl, g12, g13⟩ := rdo_Timpl_Schema g0
 obtain ⟨a14, c15, rfl⟩ := rd_sl1 g12
 obtain ⟨a16, c17, rfl⟩ := rd_sl1 g13
 obtain ⟨c18, c19, rfl, g20, g21⟩ := rdo_Timpl_Tree g1
 obtain ⟨a22, c23, rfl⟩ := rd_sl1 g20
 obtain rfl := g21
 obtain ⟨c24, c25, rfl, g26, g27⟩ := rdo_Timpl_Ex g2
 obtain ⟨a28, c29, rfl⟩ := rd_sl1 g26
 obtain rfl := g27
 unfold spec_LeafVote at H
 refine f_enter Tryz.func71 rfl Tryz.ntmps71 rfl (HS) <| sR <| ob _ rfl fun b30 => ob _ rfl fun b31 => ob _ rfl fun b32 => oP rfl <| nR <| o1 rfl (rx 0 0 _ rfl ty48 rfl) <| o1 rfl (rx 0 1 _ rfl ty93 rfl) <| o1 rfl (rx 0 2 _ rfl ty61 rfl) <| bE H fun y33 h34 H => ow_callS rfl fn109 rfl rfl rfl rfl (fun w1 hw1 => spec_PathTo_ok w1 h34 (hw1.carve [] rfl rfl) (rdm_Timpl_Schema (rds_bor g12 w1 hw1) (rds_bor g13 w1 hw1)) (rdm_Timpl_Tree (rds_bor g20 w1 hw1) rfl) (rdm_Timpl_Ex (rds_bor g26 w1 hw1) rfl)) fun v35 w1 w2 hw1 hR37 => ?_
 obtain ⟨a38, n39, c40, F41, rfl, hS36⟩ := hR37
 obtain rfl := own_nS (i := 0) hS36 rfl
 refine ⟨St w M0 [_, _, _, _], hw1.comp [] rfl rfl hS36, fun _ _ => trivial, ?_⟩
 refine oP rfl <| nQ <| c_seq <| sR <| ow_batch [.p, .lenS 39 3 sl39, .p] rfl <| nQ <| cI H rfl (fun H => ?_) (fun H => ?_)
 ·exact sR <| ow_blit0 (e := eI) rfl rfl rfl rfl sl39 ty3 (fun _ => kp) fun b42 => oP rfl <| nT <| x_qs_ret <| x_retR (rs := [.tmp 6]) (vs := [.slice (some ⟨b42, 0, none⟩) 0 0]) rfl ⟨rfl, trivial⟩ (fun w' hw' => by
   obtain rfl := of_some H
   exact ⟨_, rfl, (some ⟨b42, 0, none⟩), 0, 0, [b42], rfl, hw'.sel [4] rfl rfl⟩)
 ·refine c_skip <| x_qs <| c_seq <| sR <| ow_batch [.p, .lenS 39 3 sl39, .p, .p] rfl <| nQ <| c_block <| CW.at (loopI1 (fun (i134 : Int) => St w M0 [Res.box b30 48 [.slice a14 p0.Attrs_.length c15, .slice a16 p0.Classes_.length c17], Res.box b31 93 [.slice a22 p1.Nodes_.length c23, .int .i64 p1.Seen_], Res.own (eList eI 3) F41 y33 [.slice a38 y33.length c40]]) (fun i134 => [(3, .pointer (some ⟨b30, 0, none⟩)), (4, .pointer (some ⟨b31, 0, none⟩)), (7, .slice a38 y33.length c40), (8, .int .i64 i134)]) (fun kk => fun i134 => spec_LeafVote_L1 y33 p1 p0 kk i134 = some r) (fun _ H => ?_) (fun k1 ihk1 i134 H => ?_) Fuel (IntKind.i64.wrap ((y33.length : Int) - 1)) (H)) (fun _ h => St.sel [0, 1, 3] rfl rfl h) ⟨rfl, rfl, rfl, rfl,  trivial⟩
  ·unfold spec_LeafVote_L1 at H
   exact absurd H (by simp)
  ·unfold spec_LeafVote_L1 at H
   refine c_seq <| sR <| oPP rfl <| nQ <| cI H rfl (fun H => ?_) (fun H => ?_)
   ·refine c_skip <| x_qs <| c_seq <| c_block <| c_seq <| c_regHT 10 [(0, true), (1, true), (2, true), (3, true), (4, true), (5, true), (6, true), (7, true), (8, true), (9, false)] (St w M0 [Res.box b30 48 [.slice a14 p0.Attrs_.length c15, .slice a16 p0.Classes_.length c17], Res.box b31 93 [.slice a22 p1.Nodes_.length c23, .int .i64 p1.Seen_], Res.own (eList eI 3) F41 y33 [.slice a38 y33.length c40]]) mixed (by kernel_rfl) (panicOk_qs (panicOk_qb (panicOk_qs (panicOk_ql (panicOk_qb (panicOk_qs panicOk_body)))))) (fun _ h => St.mask [true, true, true] rfl h) <| ow_batch [.fa 93 0 0 fa93_0] rfl <| ow_rH rfl (dstOk_lt rfl) (r1 0 1 rfl ty91 rfl) <| oPP rfl <| bE H fun e267 h268 H => ow_ixE (e := eI) (xs := y33) (j := i134) rfl rfl rfl rfl rfl sl39 ty3 rfl (fun w1 hw1 => rds_own (e := eList eI 3) (r := 2) rfl w1 hw1) h268 (by rw [Nat.mul_one]) <| ow_rH rfl (dstOk_lt rfl) (ry_load1 rfl rfl ty3 (at_elV (fun w1 hw1 => rds_own (e := eList eI 3) (r := 2) rfl w1 hw1) h268)) <| bE H fun e269 h270 H => ow_ixB rfl rfl rfl rfl rfl sl91 ty169 rfl g20 h270 fun q273 c274 hd271 hA272 => ?_
    obtain ⟨c275, c276, c277, c278, c279, c280, c281, c282, c283, c284, rfl, g285, g286, g287, g288, g289, g290, g291, g292, g293, g294⟩ := rdo_Timpl_Node hd271
    obtain rfl := g285
    obtain rfl := g286
    obtain ⟨a295, c296, rfl⟩ := rd_sl1 g287
    obtain rfl := g288
    obtain ⟨c297, c298, rfl, g299, g300⟩ := rdo_Timpl_Stats g289
    obtain ⟨a301, c302, rfl⟩ := rd_sl1 g299
    obtain ⟨a303, c304, rfl⟩ := rd_sl1 g300
    obtain rfl := g290
    obtain ⟨a305, c306, rfl⟩ := rd_sl1 g291
    obtain rfl := g292
    obtain rfl := g293
    obtain rfl := g294
    refine ow_batch [.fa 169 4 5 fa169_4] rfl <| ow_rH rfl (dstOk_lt rfl) (ry_load (cs := [.slice a301 e269.Stats_.Totals_.length c302, .slice a303 e269.Stats_.Cells_.length c304]) rfl rfl ty167 (at_bor (fun _ h => h.ext) (at_K hA272 5 2)) rfl) <| ow_alloc rfl rfl rfl rfl ty167 (fun _ => (fun _ h => St.mask [true, true, true] rfl h)) fun b307 => ow_nilH <| x_qt <| sC 0 [.slice a301 e269.Stats_.Totals_.length c302, .slice a303 e269.Stats_.Cells_.length c304] [_, _] 3 rfl ty167 rfl <| nR <| o1 rfl (rx 0 0 _ rfl ty48 rfl) <| o1 rfl (rx 0 3 _ rfl ty167 rfl) <| bE H fun y308 h309 H => oq rfl (qc rfl fn110 (fun w1 hw1 => spec_StatsTotal_ok w1 h309 (rdm_Timpl_Schema (rds_bor g12 w1 hw1) (rds_bor g13 w1 hw1)) (rdm_Timpl_Stats (rds_bor g299 w1 hw1) (rds_bor g300 w1 hw1)))) tt2 <| oP rfl <| nQ <| cI H rfl (fun H => ?_) (fun H => ?_)
    ·exact sR <| ow_blit0 (e := eI) rfl rfl rfl rfl sl39 ty3 (fun _ => kp) fun b310 => ow_batch [.fa 167 0 0 fa167_0] rfl <| o1 rfl (r1 0 3 rfl ty39 rfl) <| bE H fun l311 h312 H => ow_appR (r := 4) (ys := e269.Stats_.Totals_) rfl rfl rfl rfl rfl rfl sl39 ty3 rfl rfl rfl (fun w1 hw1 => rds_bor g299 w1 hw1) h312 (fun _ _ _ => kp) fun a313 c314 F315 => oP rfl <| nT <| x_qb_ret <| x_qs_ret <| x_ql_ret <| x_qb_ret <| x_qs_ret <| x_retR (rs := [.tmp 6]) (vs := [.slice a313 l311.length c314]) rfl ⟨rfl, trivial⟩ (fun w' hw' => by
      obtain rfl := of_some H
      exact ⟨_, rfl, a313, l311.length, c314, F315, rfl, hw'.sel [4] rfl rfl⟩)
    ·exact c_skip <| x_qb <| x_qs <| c_reg <| ow_batch [.p, .p, .p] rfl <| ow_nil <| x_ql (RW.at (ihk1 (IntKind.i64.wrap (i134 - 1)) (H)) (fun _ h => St.sel [0, 1, 2] rfl rfl h) ⟨rfl, rfl, rfl, rfl, trivial⟩)
   ·exact c_exit <| x_qs_exit <| x_ql_exit <| x_qb_here <| x_qs <| sR <| ow_batch [.fa 48 1 1 fa48_1] rfl <| o1 rfl (r1 1 0 rfl ty23 rfl) <| ow_batch [.lenS 23 9 sl23] rfl <| bE H fun l316 h317 H => ow_make (e := eI) (zero := (0 : Int)) rfl rfl rfl rfl rfl rfl sl39 ty3 rfl rfl rfl rfl (fun _ => ⟨rfl, rfl⟩) h317 (fun _ => kp) fun b318 => oP rfl <| nT <| x_retR (rs := [.tmp 6]) (vs := [.slice (some ⟨b318, 0, none⟩) l316.length l316.length]) rfl ⟨rfl, trivial⟩ (fun w' hw' => by
     obtain rfl := of_some H
     exact ⟨_, rfl, (some ⟨b318, 0, none⟩), l316.length, l316.length, [b318], rfl, hw'.sel [3] rfl rfl⟩)
theorem spec_TopOf_ok (w : World) {p0 : List Int} {a_0 : Option Addr} {n_0 c_0 : Nat} {r : Int} (H : spec_TopOf p0 = some r)  (g0 : (eList eI 3).rd w [] p0 [.slice a_0 n_0 c_0]) :
    Calls Tryz.prog 42 #[.slice a_0 n_0 c_0] w (fun en w' => en = .returned (.int .i64 r) ∧ Ext [] w w') := by
 obtain rfl := rd_n g0
 unfold spec_TopOf at H
 refine f_enter Tryz.func42 rfl Tryz.ntmps42 rfl (St.init w []) <| sR <| oP rfl <| nR <| oP rfl <| nQ <| c_seq <| sR <| oP rfl <| nQ <| c_block <| CW.at (loopI2 (fun (i19 : Int) (i20 : Int) => St w [] []) (fun i19 i20 => [(0, .slice a_0 p0.length c_0), (3, .int .i64 i19), (4, .int .i64 i20)]) (fun kk => fun i19 i20 => spec_TopOf_L1 p0 kk i19 i20 = some r) (fun _ _ H => ?_) (fun k1 ihk1 i19 i20 H => ?_) Fuel ((-1)) (0) (H)) (fun _ h => St.sel [] rfl rfl h) ⟨rfl, rfl, rfl,  trivial⟩
 ·unfold spec_TopOf_L1 at H
  exact absurd H (by simp)
 ·unfold spec_TopOf_L1 at H
  refine c_seq <| sR <| ow_batch [.p, .p, .lenS 39 3 sl39, .p] rfl <| nQ <| cI H rfl (fun H => ?_) (fun H => ?_)
  ·refine c_skip <| x_qs <| c_seq <| c_block <| c_seq <| c_regQ mixed (by kernel_rfl) <| ow_batch [.p, .p, .p] rfl <| bE H fun u30 hu36 H => ow_cut [(23, .bool u30), (0, .slice a_0 p0.length c_0), (3, .int .i64 i19), (4, .int .i64 i20)] 10 ?_ (fun key => OW.sub (R := [(0, .slice a_0 p0.length c_0), (3, .int .i64 i19), (4, .int .i64 i20), (13, .bool (decide (i19 < 0)))]) ?_ (sb rfl))
   ·refine ow_nilQ <| x_qs <| cI H rfl (fun H => ?_) (fun H => ?_)
    ·exact c_reg <| oPP rfl <| ow_nil <| x_qb <| x_qs <| c_reg <| ow_batch [.p, .p, .p] rfl <| ow_nil <| x_ql (RW.at (ihk1 (i20) (IntKind.i64.wrap (i20 + 1)) (H)) (fun _ h => St.sel [] rfl rfl h) ⟨rfl, rfl, rfl, trivial⟩)
    ·exact c_skip <| x_qb <| x_qs <| c_reg <| ow_batch [.p, .p, .p] rfl <| ow_nil <| x_ql (RW.at (ihk1 (i19) (IntKind.i64.wrap (i20 + 1)) (H)) (fun _ h => St.sel [] rfl rfl h) ⟨rfl, rfl, rfl, trivial⟩)
   ·clear H
    have H := hu36
    clear hu36
    generalize (decide (i19 < 0)) = t35 at H key ⊢
    cases t35
    ·have H := of_if_f rfl H
     refine oPP rfl <| bE H fun e31 h32 H => ow_ixE (e := eI) (xs := p0) (j := i20) rfl rfl rfl rfl rfl sl39 ty3 rfl (fun w1 hw1 => rds_bor g0 w1 hw1) h32 (by rw [Nat.mul_one]) <| o1 rfl (ry_load1 rfl rfl ty3 (at_elV (fun w1 hw1 => rds_bor g0 w1 hw1) h32)) <| oPP rfl <| bE H fun e33 h34 H => ow_ixE (e := eI) (xs := p0) (j := i19) rfl rfl rfl rfl rfl sl39 ty3 rfl (fun w1 hw1 => rds_bor g0 w1 hw1) h34 (by rw [Nat.mul_one]) <| o1 rfl (ry_load1 rfl rfl ty3 (at_elV (fun w1 hw1 => rds_bor g0 w1 hw1) h34)) <| oP rfl <| oP rfl <| ?_
     obtain rfl := of_some H
     exact OW.sub key (sb rfl)
    ·have H := of_if_t rfl H
     refine ow_batch [.p, .p, .p, .p, .p, .p, .p, .p, .p, .p] rfl ?_
     obtain rfl := of_some H
     exact OW.sub key (sb rfl)
  ·exact c_exit <| x_qs_exit <| x_ql_exit <| x_qb_here <| x_qs <| sR <| oPP rfl <| nT <| xr 2 rfl (by cases H; exact q1)
theorem spec_TreeSays_ok (w : World) {p0 : Timpl_Schema} {p1 : Timpl_Tree} {p2 : Timpl_Ex} {cs0 : List Value} {cs1 : List Value} {cs2 : List Value} {r : Int} (H : spec_TreeSays p0 p1 p2 = some r)  (g0 : (eTimpl_Schema).rd w [] p0 cs0) (g1 : (eTimpl_Tree).rd w [] p1 cs1) (g2 : (eTimpl_Ex).rd w [] p2 cs2) :
    Calls Tryz.prog 39 #[.agg cs0.toArray, .agg cs1.toArray, .agg cs2.toArray] w (fun en w' => en = .returned (.int .i64 r) ∧ Ext [] w w') := by
 obtain ⟨c10, c11, rfl, g12, g13⟩ := rdo_Timpl_Schema g0
 obtain ⟨a14, c15, rfl⟩ := rd_sl1 g12
 obtain ⟨a16, c17, rfl⟩ := rd_sl1 g13
 obtain ⟨c18, c19, rfl, g20, g21⟩ := rdo_Timpl_Tree g1
 obtain ⟨a22, c23, rfl⟩ := rd_sl1 g20
 obtain rfl := g21
 obtain ⟨c24, c25, rfl, g26, g27⟩ := rdo_Timpl_Ex g2
 obtain ⟨a28, c29, rfl⟩ := rd_sl1 g26
 obtain rfl := g27
 unfold spec_TreeSays at H
 refine f_enter Tryz.func39 rfl Tryz.ntmps39 rfl (St.init w []) <| sR <| ob _ rfl fun b30 => ob _ rfl fun b31 => ob _ rfl fun b32 => oP rfl <| nR <| o1 rfl (rx 0 0 _ rfl ty48 rfl) <| o1 rfl (rx 0 1 _ rfl ty93 rfl) <| o1 rfl (rx 0 2 _ rfl ty61 rfl) <| bE H fun y33 h34 H => ow_callS rfl fn71 rfl rfl rfl rfl (fun w1 hw1 => spec_LeafVote_ok w1 h34 (hw1.carve [] rfl rfl) (rdm_Timpl_Schema (rds_bor g12 w1 hw1) (rds_bor g13 w1 hw1)) (rdm_Timpl_Tree (rds_bor g20 w1 hw1) rfl) (rdm_Timpl_Ex (rds_bor g26 w1 hw1) rfl)) fun v35 w1 w2 hw1 hR37 => ?_
 obtain ⟨a38, n39, c40, F41, rfl, hS36⟩ := hR37
 obtain rfl := own_nS (i := 0) hS36 rfl
 refine ⟨St w [] [_, _, _, _], hw1.comp [] rfl rfl hS36, fun _ _ => trivial, ?_⟩
 exact bE H fun y42 h43 H => oq rfl (qc rfl fn42 (fun w1 hw1 => spec_TopOf_ok w1  h43 (rds_own (e := eList eI 3) (r := 3) rfl w1 hw1))) tt2 <| oP rfl <| nT <| xr 6 rfl (by cases H; exact q1)
theorem spec_Buckets_ok (w : World) {M0 : List Nat} {p0 : Timpl_Window} {cs0 : List Value} {r : List Timpl_Bucket} (H : spec_Buckets p0 = some r) (HS : St w M0 [] w) (g0 : (eTimpl_Window).rd w M0 p0 cs0) :
    Calls Tryz.prog 112 #[.agg cs0.toArray] w (fun en w' => ∃ v, en = .returned v ∧ ∃ (a0 : Option Addr), ∃ (n0 : Nat), ∃ (c0 : Nat), ∃ (F0 : List Nat), v = .slice a0 n0 c0 ∧ St w M0 [Res.own (eList (eTimpl_Bucket) 175) F0 r [.slice a0 n0 c0]] w') := by
 obtain ⟨c10, rfl, g11⟩ := rdo_Timpl_Window g0
 obtain ⟨a12, c13, rfl⟩ := rd_sl1 g11
 unfold spec_Buckets at H
 refine f_enter Tryz.func112 rfl Tryz.ntmps112 rfl (HS) <| sR <| ob _ rfl fun b14 => oP rfl <| nR <| ow_blit0 (e := eTimpl_Bucket) rfl rfl rfl rfl sl172 ty175 (fun _ => kp) fun b15 => oP rfl <| nQ <| c_seq <| sR <| o1 rfl (rx 0 0 _ rfl ty95 rfl) <| bE H fun y16 h17 H => oq rfl (qc rfl fn138 (fun w1 hw1 => spec_WindowOk_ok w1 h17 (rdm_Timpl_Window (rds_bor g11 w1 hw1)))) tt2 <| oP rfl <| nQ <| cI H rfl (fun H => ?_) (fun H => ?_)
 ·exact sR <| oPP rfl <| nT <| x_qs_ret <| x_retR (rs := [.tmp 2]) (vs := [.slice (some ⟨b15, 0, none⟩) 0 0]) rfl ⟨rfl, trivial⟩ (fun w' hw' => by
   obtain rfl := of_some H
   exact ⟨_, rfl, (some ⟨b15, 0, none⟩), 0, 0, [b15], rfl, hw'.sel [1] rfl rfl⟩)
 ·refine c_skip <| x_qs <| c_seq <| sR <| ow_batch [.fa 95 0 0 fa95_0] rfl <| o1 rfl (r1 0 0 rfl ty33 rfl) <| ow_batch [.lenS 33 39 sl33, .p, .p] rfl <| nQ <| c_block <| CW.at (loopI5 (fun (l162 : List Timpl_Bucket) (a163 : Option Addr) (c164 : Nat) (F165 : List Nat) (i167 : Int) => St w M0 [Res.box b14 95 [.slice a12 p0.Rows_.length c13], Res.own (eList (eTimpl_Bucket) 175) F165 l162 [.slice a163 l162.length c164]]) (fun l162 a163 c164 F165 i167 => [(1, .pointer (some ⟨b14, 0, none⟩)), (3, .slice a163 l162.length c164), (4, .int .i64 i167)]) (fun kk => fun l162 a163 c164 F165 i167 => a163.isNone = false ∧ spec_Buckets_L1 p0 kk l162 i167 = some r) (fun _ _ _ _ _ H => ?_) (fun k1 ihk1 l162 a163 c164 F165 i167 ⟨hz166, H⟩ => ?_) Fuel (([] : List Timpl_Bucket)) ((some ⟨b15, 0, none⟩)) (0) ([b15]) (IntKind.i64.wrap ((p0.Rows_.length : Int) - 1)) (⟨rfl, H⟩)) (fun _ h => St.sel [0, 1] rfl rfl h) ⟨rfl, rfl, rfl,  trivial⟩
  ·unfold spec_Buckets_L1 at H
   exact absurd H (by simp)
  ·unfold spec_Buckets_L1 at H
   refine c_seq <| sR <| oPP rfl <| nQ <| cI H rfl (fun H => ?_) (fun H => ?_)
   ·refine c_skip <| x_qs <| c_seq <| c_block <| sR <| oP rfl <| nQ <| c_block <| CW.at (loopI5 (fun (l358 : List Timpl_Bucket) (a359 : Option Addr) (c360 : Nat) (F361 : List Nat) (i363 : Int) => St w M0 [Res.box b14 95 [.slice a12 p0.Rows_.length c13], Res.own (eList (eTimpl_Bucket) 175) F361 l358 [.slice a359 l358.length c360]]) (fun l358 a359 c360 F361 i363 => [(1, .pointer (some ⟨b14, 0, none⟩)), (3, .slice a359 l358.length c360), (4, .int .i64 i167), (5, .int .i64 i363)]) (fun kk => fun l358 a359 c360 F361 i363 => a359.isNone = false ∧ spec_Buckets_L2 p0 i167 (spec_Buckets_L1 p0 k1) kk l358 i363 = some r) (fun _ _ _ _ _ H => ?_) (fun k2 ihk2 l358 a359 c360 F361 i363 ⟨hz362, H⟩ => ?_) Fuel (l162) (a163) (c164) (F165) (0) (⟨hz166, H⟩)) (fun _ h => St.sel [0, 1] rfl rfl h) ⟨rfl, rfl, rfl, rfl,  trivial⟩
    ·unfold spec_Buckets_L2 at H
     exact absurd H (by simp)
    ·unfold spec_Buckets_L2 at H
     refine c_seq <| sR <| ow_batch [.p, .fa 95 0 0 fa95_0] rfl <| o1 rfl (r1 0 0 rfl ty33 rfl) <| oP rfl <| bE H fun e410 h411 H => ow_ixB rfl rfl rfl rfl rfl sl33 ty39 rfl g11 h411 fun q414 c415 hd412 hA413 => ?_
     obtain ⟨a416, c417, rfl⟩ := rd_sl1 hd412
     refine o1 rfl (ry_load1 rfl rfl ty39 (at_bor bor hA413)) <| ow_batch [.lenS 39 3 sl39, .p] rfl <| nQ <| cI H rfl (fun H => ?_) (fun H => ?_)
     ·refine c_skip <| x_qs <| c_seq <| c_block <| c_regHT 13 [(0, true), (1, true), (3, true), (4, true), (5, true), (6, true), (7, true), (8, true), (9, true), (10, true), (2, false), (11, true), (12, false)] (St w M0 [Res.box b14 95 [.slice a12 p0.Rows_.length c13], Res.own (eList (eTimpl_Bucket) 175) F361 l358 [.slice a359 l358.length c360]]) mixed (by kernel_rfl) (panicOk_qb (panicOk_qs (panicOk_ql (panicOk_qb (panicOk_qb (panicOk_qs (panicOk_ql (panicOk_qb (panicOk_qs panicOk_body))))))))) (fun _ h => St.mask [true, true] rfl h) <| ow_batch [.p, .p, .fa 95 0 0 fa95_0] rfl <| ow_rH rfl (dstOk_lt rfl) (r1 0 0 rfl ty33 rfl) <| oP rfl <| bE H fun e431 h432 H => ow_ixB rfl rfl rfl rfl rfl sl33 ty39 rfl g11 h432 fun q435 c436 hd433 hA434 => ?_
      obtain ⟨a437, c438, rfl⟩ := rd_sl1 hd433
      refine ow_rH rfl (dstOk_lt rfl) (ry_load1 rfl rfl ty39 (at_bor (fun _ h => h.ext) hA434)) <| oP rfl <| bE H fun e439 h440 H => ow_ixE (e := eI) (xs := e431) (j := i363) rfl rfl rfl rfl rfl sl39 ty3 rfl (fun w1 hw1 => rds_bor hd433 w1 hw1) h440 (by rw [Nat.mul_one]) <| ow_rH rfl (dstOk_lt rfl) (ry_load1 rfl rfl ty3 (at_elV (fun w1 hw1 => rds_bor hd433 w1 hw1) h440)) <| bE H fun y441 h442 H => oq rfl (qc rfl fn142 (fun w1 hw1 => spec_l16Power_ok w1  h442)) (fun _ h => St.mask [true, true] rfl h) <| ow_rH rfl (dstOk_lt rfl) (ry_build2 [(0, [.int .i64 y441]), (1, [.int .i64 e439])] [.int .i64 y441, .int .i64 e439] rfl rfl ty175 fs175 rfl ⟨rfl, rfl, Nat.le_of_ble_eq_true rfl, rfl, rfl, Nat.le_of_ble_eq_true rfl,  trivial⟩ rfl) <| ow_blitF ([(Timpl_Bucket.mk y441 e439)] : List Timpl_Bucket) [(0, [.int .i64 y441, .int .i64 e439])] rfl rfl rfl rfl rfl sl172 ty175 rfl rfl rfl rfl ⟨rfl, rfl, Nat.le_of_ble_eq_true rfl,  trivial⟩ rfl (fun _ => (fun _ h => St.mask [true, true] rfl h)) (fun b443 => (?_ : OW _ _ _ (St w M0 [Res.box b14 95 [.slice a12 p0.Rows_.length c13], Res.own (eList (eTimpl_Bucket) 175) F361 l358 [.slice a359 l358.length c360], Res.own (eList (eTimpl_Bucket) 175) [b443] [(Timpl_Bucket.mk y441 e439)] [.slice (some ⟨b443, 0, none⟩) ([(Timpl_Bucket.mk y441 e439)] : List Timpl_Bucket).length 1]]) _ _ _))
      exact ow_nilH <| x_qt <| bE H fun l444 h445 H => ow_appF (r := 1) (ys := ([(Timpl_Bucket.mk y441 e439)] : List Timpl_Bucket)) rfl rfl rfl rfl rfl rfl sl172 ty175 rfl rfl rfl rfl rfl (fun w1 hw1 => rds_own (e := eList (eTimpl_Bucket) 175) (r := 2) rfl w1 hw1) h445 (fun _ _ _ => kp) fun a446 c447 F448 => ow_fact rfl (fun w1 hw1 => own_nn (i := 1) hw1 rfl (app_ne h445)) fun hz449 => oP rfl <| ow_nil <| x_qb <| x_qs <| c_reg <| ow_batch [.p, .p, .p] rfl <| ow_nil <| x_ql (RW.at (ihk2 (l444) (a446) (c447) (F448) (IntKind.i64.wrap (i363 + 1)) (⟨hz449, H⟩)) (fun _ h => St.sel [0, 1] rfl rfl h) ⟨rfl, rfl, rfl, rfl, trivial⟩)
     ·exact c_exit <| x_qs_exit <| x_ql_exit <| x_qb_here <| x_qb <| x_qs <| c_reg <| ow_batch [.p, .p, .p] rfl <| ow_nil <| x_ql (RW.at (ihk1 (l358) (a359) (c360) (F361) (IntKind.i64.wrap (i167 - 1)) (⟨hz362, H⟩)) (fun _ h => St.sel [0, 1] rfl rfl h) ⟨rfl, rfl, rfl, trivial⟩)
   ·exact c_exit <| x_qs_exit <| x_ql_exit <| x_qb_here <| x_qs <| sR <| oPP rfl <| nT <| x_retR (rs := [.tmp 2]) (vs := [.slice a163 l162.length c164]) rfl ⟨rfl, trivial⟩ (fun w' hw' => by
     obtain rfl := of_some H
     exact ⟨_, rfl, a163, l162.length, c164, F165, rfl, hw'.sel [1] rfl rfl⟩)
theorem spec_WindowTotal_ok (w : World) {p0 : Timpl_Window} {cs0 : List Value} {r : Int} (H : spec_WindowTotal p0 = some r)  (g0 : (eTimpl_Window).rd w [] p0 cs0) :
    Calls Tryz.prog 73 #[.agg cs0.toArray] w (fun en w' => en = .returned (.int .i64 r) ∧ Ext [] w w') := by
 obtain ⟨c10, rfl, g11⟩ := rdo_Timpl_Window g0
 obtain ⟨a12, c13, rfl⟩ := rd_sl1 g11
 unfold spec_WindowTotal at H
 refine f_enter Tryz.func73 rfl Tryz.ntmps73 rfl (St.init w []) <| sR <| ob _ rfl fun b14 => oP rfl <| nR <| oP rfl <| nR <| o1 rfl (rx 0 0 _ rfl ty95 rfl) <| bE H fun y15 h16 H => ow_callS rfl fn112 rfl rfl rfl rfl (fun w1 hw1 => spec_Buckets_ok w1 h16 (hw1.carve [] rfl rfl) (rdm_Timpl_Window (rds_bor g11 w1 hw1))) fun v17 w1 w2 hw1 hR19 => ?_
 obtain ⟨a20, n21, c22, F23, rfl, hS18⟩ := hR19
 obtain rfl := own_nS (i := 0) hS18 rfl
 refine ⟨St w [] [_, _], hw1.comp [] rfl rfl hS18, fun _ _ => trivial, ?_⟩
 refine oP rfl <| nQ <| c_seq <| sR <| oP rfl <| nQ <| c_block <| CW.at (loopI2 (fun (i28 : Int) (i29 : Int) => St w [] [Res.own (eList (eTimpl_Bucket) 175) F23 y15 [.slice a20 y15.length c22]]) (fun i28 i29 => [(3, .int .i64 i28), (4, .slice a20 y15.length c22), (5, .int .i64 i29)]) (fun kk => fun i28 i29 => spec_WindowTotal_L1 y15 kk i28 i29 = some r) (fun _ _ H => ?_) (fun k1 ihk1 i28 i29 H => ?_) Fuel (0) (0) (H)) (fun _ h => St.sel [1] rfl rfl h) ⟨rfl, rfl, rfl,  trivial⟩
 ·unfold spec_WindowTotal_L1 at H
  exact absurd H (by simp)
 ·unfold spec_WindowTotal_L1 at H
  refine c_seq <| sR <| ow_batch [.p, .p, .lenS 172 175 sl172, .p] rfl <| nQ <| cI H rfl (fun H => ?_) (fun H => ?_)
  ·exact c_skip <| x_qs <| c_seq <| c_block <| c_reg <| ow_batch [.p, .p, .p] rfl <| bE H fun e35 h36 H => ow_ixE (e := eTimpl_Bucket) (xs := y15) (j := i29) rfl rfl rfl rfl rfl sl172 ty175 rfl (fun w1 hw1 => rds_own (e := eList (eTimpl_Bucket) 175) (r := 0) rfl w1 hw1) h36 rfl <| ow_batch [.fa 175 0 0 fa175_0] rfl <| o1 rfl (ry_load1 rfl rfl ty3 (at_KA (at_castA (at_eltE (fun w1 hw1 => rds_own (e := eList (eTimpl_Bucket) 175) (r := 0) rfl w1 hw1) h36 (fun _ _ h => h)) rfl) 0 1)) <| oPP rfl <| ow_nil <| x_qb <| x_qs <| c_reg <| ow_batch [.p, .p, .p] rfl <| ow_nil <| x_ql (RW.at (ihk1 (IntKind.i64.wrap (i28 + e35.Size_)) (IntKind.i64.wrap (i29 + 1)) (H)) (fun _ h => St.sel [0] rfl rfl h) ⟨rfl, rfl, rfl, trivial⟩)
  ·exact c_exit <| x_qs_exit <| x_ql_exit <| x_qb_here <| x_qs <| sR <| oPP rfl <| nT <| xr 2 rfl (by cases H; exact q1)
theorem spec_WindowOnes_ok (w : World) {p0 : Timpl_Window} {cs0 : List Value} {r : Int} (H : spec_WindowOnes p0 = some r)  (g0 : (eTimpl_Window).rd w [] p0 cs0) :
    Calls Tryz.prog 74 #[.agg cs0.toArray] w (fun en w' => en = .returned (.int .i64 r) ∧ Ext [] w w') := by
 obtain ⟨c10, rfl, g11⟩ := rdo_Timpl_Window g0
 obtain ⟨a12, c13, rfl⟩ := rd_sl1 g11
 unfold spec_WindowOnes at H
 refine f_enter Tryz.func74 rfl Tryz.ntmps74 rfl (St.init w []) <| sR <| ob _ rfl fun b14 => oP rfl <| nR <| oP rfl <| nR <| o1 rfl (rx 0 0 _ rfl ty95 rfl) <| bE H fun y15 h16 H => ow_callS rfl fn112 rfl rfl rfl rfl (fun w1 hw1 => spec_Buckets_ok w1 h16 (hw1.carve [] rfl rfl) (rdm_Timpl_Window (rds_bor g11 w1 hw1))) fun v17 w1 w2 hw1 hR19 => ?_
 obtain ⟨a20, n21, c22, F23, rfl, hS18⟩ := hR19
 obtain rfl := own_nS (i := 0) hS18 rfl
 refine ⟨St w [] [_, _], hw1.comp [] rfl rfl hS18, fun _ _ => trivial, ?_⟩
 refine oP rfl <| nQ <| c_seq <| sR <| oP rfl <| nQ <| c_block <| CW.at (loopI2 (fun (i28 : Int) (i29 : Int) => St w [] [Res.own (eList (eTimpl_Bucket) 175) F23 y15 [.slice a20 y15.length c22]]) (fun i28 i29 => [(3, .int .i64 i28), (4, .slice a20 y15.length c22), (5, .int .i64 i29)]) (fun kk => fun i28 i29 => spec_WindowOnes_L1 y15 kk i28 i29 = some r) (fun _ _ H => ?_) (fun k1 ihk1 i28 i29 H => ?_) Fuel (0) (0) (H)) (fun _ h => St.sel [1] rfl rfl h) ⟨rfl, rfl, rfl,  trivial⟩
 ·unfold spec_WindowOnes_L1 at H
  exact absurd H (by simp)
 ·unfold spec_WindowOnes_L1 at H
  refine c_seq <| sR <| ow_batch [.p, .p, .lenS 172 175 sl172, .p] rfl <| nQ <| cI H rfl (fun H => ?_) (fun H => ?_)
  ·exact c_skip <| x_qs <| c_seq <| c_block <| c_reg <| ow_batch [.p, .p, .p] rfl <| bE H fun e35 h36 H => ow_ixE (e := eTimpl_Bucket) (xs := y15) (j := i29) rfl rfl rfl rfl rfl sl172 ty175 rfl (fun w1 hw1 => rds_own (e := eList (eTimpl_Bucket) 175) (r := 0) rfl w1 hw1) h36 rfl <| ow_batch [.fa 175 1 1 fa175_1] rfl <| o1 rfl (ry_load1 rfl rfl ty3 (at_KA (at_castA (at_eltE (fun w1 hw1 => rds_own (e := eList (eTimpl_Bucket) 175) (r := 0) rfl w1 hw1) h36 (fun _ _ h => h)) rfl) 1 1)) <| oPP rfl <| ow_nil <| x_qb <| x_qs <| c_reg <| ow_batch [.p, .p, .p] rfl <| ow_nil <| x_ql (RW.at (ihk1 (IntKind.i64.wrap (i28 + e35.Ones_)) (IntKind.i64.wrap (i29 + 1)) (H)) (fun _ h => St.sel [0] rfl rfl h) ⟨rfl, rfl, rfl, trivial⟩)
  ·exact c_exit <| x_qs_exit <| x_ql_exit <| x_qb_here <| x_qs <| sR <| oPP rfl <| nT <| xr 2 rfl (by cases H; exact q1)
theorem spec_FracOk_ok (w : World) {p0 : Timpl_Frac}  {r : Bool} (H : spec_FracOk p0 = some r)   :
    Calls Tryz.prog 111 #[.agg #[.int .i64 p0.Num_, .int .i64 p0.Den_]] w (fun en w' => en = .returned (.bool r) ∧ Ext [] w w') := by
 unfold spec_FracOk at H
 refine f_enter Tryz.func111 rfl Tryz.ntmps111 rfl (St.init w []) <| sR <| ob _ rfl fun b10 => oP rfl <| nR <| ow_batch [.fa 138 0 0 fa138_0] rfl <| o1 rfl (r1 0 0 rfl ty3 rfl) <| bE H fun y11 h12 H => oq rfl (qc rfl fn69 (fun w1 hw1 => spec_l1In_ok w1  h12)) tt2 <| oP rfl <| bE H fun u13 hu17 H => ow_cut [(10, .bool u13), (2, .bool false)] 4 ?_ (fun key => OW.sub (R := [(1, .pointer (some ⟨b10, 0, none⟩)), (2, .bool false), (6, .bool y11)]) ?_ (sb rfl))
 ·exact oP rfl <| nT <| xr 2 rfl (by cases H; exact q1)
 ·clear H
  have H := hu17
  clear hu17
  generalize y11 = t16 at H key ⊢
  cases t16
  ·have H := of_if_f rfl H
   refine ow_batch [.p, .p, .p, .p] rfl ?_
   obtain rfl := of_some H
   exact OW.sub key (sb rfl)
  ·have H := of_if_t rfl H
   refine ow_batch [.fa 138 1 1 fa138_1] rfl <| o1 rfl (r1 1 0 rfl ty3 rfl) <| bE H fun y14 h15 H => oq rfl (qc rfl fn69 (fun w1 hw1 => spec_l1In_ok w1  h15)) tt2 <| oP rfl <| ?_
   obtain rfl := of_some H
   exact OW.sub key (sb rfl)
theorem spec_Thousandths_ok (w : World) {p0 : Timpl_Frac}  {r : Int} (H : spec_Thousandths p0 = some r)   :
    Calls Tryz.prog 72 #[.agg #[.int .i64 p0.Num_, .int .i64 p0.Den_]] w (fun en w' => en = .returned (.int .i64 r) ∧ Ext [] w w') := by
 unfold spec_Thousandths at H
 refine f_enter Tryz.func72 rfl Tryz.ntmps72 rfl (St.init w []) <| sR <| ob _ rfl fun b10 => oP rfl <| nQ <| c_seq <| sR <| o1 rfl (rx 0 0 _ rfl ty138 rfl) <| bE H fun y11 h12 H => oq rfl (qc rfl fn111 (fun w1 hw1 => spec_FracOk_ok w1 (p0 := p0) h12)) tt2 <| oPP rfl <| ow_cut [(12, .bool ((!y11) || (decide (p0.Num_ > p0.Den_)))), (1, .pointer (some ⟨b10, 0, none⟩))] 6 ?_ (fun key => OW.sub (R := [(1, .pointer (some ⟨b10, 0, none⟩)), (6, .bool (!y11))]) ?_ (sb rfl))
 ·refine nQ <| cI H rfl (fun H => ?_) (fun H => ?_)
  ·exact sR <| oP rfl <| nT <| x_qs_ret <| xr 2 rfl (by cases H; exact q1)
  ·exact c_skip <| x_qs <| sR <| ow_batch [.fa 138 0 0 fa138_0] rfl <| o1 rfl (r1 0 0 rfl ty3 rfl) <| ow_batch [.p, .fa 138 1 1 fa138_1] rfl <| o1 rfl (r1 1 0 rfl ty3 rfl) <| bE H fun x15 h16 H => o1 rfl (ry_quo rfl rfl rfl h16) <| oP rfl <| nT <| xr 2 rfl (by cases H; exact q1)
 ·generalize (!y11) = t14 at key ⊢
  cases t14
  ·exact ow_batch [.fa 138 0 0 fa138_0] rfl <| o1 rfl (r1 0 0 rfl ty3 rfl) <| ow_batch [.fa 138 1 1 fa138_1] rfl <| o1 rfl (r1 1 0 rfl ty3 rfl) <| oP rfl <| oP rfl <| OW.sub key (sb rfl)
  ·exact ow_batch [.p, .p, .p, .p, .p, .p] rfl <| OW.sub key (sb rfl)
theorem spec_Voices_ok (w : World) {M0 : List Nat} {p0 : Timpl_Conf} {p1 : Timpl_Forest} {cs0 : List Value} {cs1 : List Value} {r : List Int} (H : spec_Voices p0 p1 = some r) (HS : St w M0 [] w) (g0 : (eTimpl_Conf).rd w M0 p0 cs0) (g1 : (eTimpl_Forest).rd w M0 p1 cs1) :
    Calls Tryz.prog 41 #[.agg cs0.toArray, .agg cs1.toArray] w (fun en w' => ∃ v, en = .returned v ∧ ∃ (a0 : Option Addr), ∃ (n0 : Nat), ∃ (c0 : Nat), ∃ (F0 : List Nat), v = .slice a0 n0 c0 ∧ St w M0 [Res.own (eList eI 3) F0 r [.slice a0 n0 c0]] w') := by
 obtain ⟨c10, c11, c12, c13, c14, c15, c16, rfl, g17, g18, g19, g20, g21, g22, g23⟩ := rdo_Timpl_Conf g0
 obtain ⟨c24, c25, rfl, g26, g27⟩ := rdo_Timpl_Schema g17
 obtain ⟨a28, c29, rfl⟩ := rd_sl1 g26
 obtain ⟨a30, c31, rfl⟩ := rd_sl1 g27
 obtain rfl := g18
 obtain rfl := g19
 obtain rfl := g20
 obtain rfl := g21
 obtain rfl := g22
 obtain rfl := g23
 obtain ⟨c32, rfl, g33⟩ := rdo_Timpl_Forest g1
 obtain ⟨a34, c35, rfl⟩ := rd_sl1 g33
 unfold spec_Voices at H
 refine f_enter Tryz.func41 rfl Tryz.ntmps41 rfl (HS) <| sR <| ob _ rfl fun b36 => ob _ rfl fun b37 => oP rfl <| nR <| ow_blit0 (e := eI) rfl rfl rfl rfl sl39 ty3 (fun _ => kp) fun b38 => oP rfl <| nQ <| c_seq <| sR <| o1 rfl (rx 0 0 _ rfl ty51 rfl) <| o1 rfl (rx 0 1 _ rfl ty54 rfl) <| bE H fun y39 h40 H => oq rfl (qc rfl fn37 (fun w1 hw1 => spec_ForestOk_ok w1 h40 (rdm_Timpl_Conf (rdm_Timpl_Schema (rds_bor g26 w1 hw1) (rds_bor g27 w1 hw1)) rfl rfl rfl rfl rfl rfl) (rdm_Timpl_Forest (rds_bor g33 w1 hw1)))) tt2 <| oP rfl <| nQ <| cI H rfl (fun H => ?_) (fun H => ?_)
 ·exact sR <| oPP rfl <| nT <| x_qs_ret <| x_retR (rs := [.tmp 4]) (vs := [.slice (some ⟨b38, 0, none⟩) 0 0]) rfl ⟨rfl, trivial⟩ (fun w' hw' => by
   obtain rfl := of_some H
   exact ⟨_, rfl, (some ⟨b38, 0, none⟩), 0, 0, [b38], rfl, hw'.sel [2] rfl rfl⟩)
 ·refine c_skip <| x_qs <| c_seq <| sR <| oP rfl <| nQ <| c_block <| CW.at (loopI5 (fun (l110 : List Int) (a111 : Option Addr) (c112 : Nat) (F113 : List Nat) (i115 : Int) => St w M0 [Res.box b37 54 [.slice a34 p1.Members_.length c35], Res.own (eList eI 3) F113 l110 [.slice a111 l110.length c112]]) (fun l110 a111 c112 F113 i115 => [(3, .pointer (some ⟨b37, 0, none⟩)), (5, .slice a111 l110.length c112), (6, .int .i64 i115)]) (fun kk => fun l110 a111 c112 F113 i115 => a111.isNone = false ∧ spec_Voices_L1 p1 kk l110 i115 = some r) (fun _ _ _ _ _ H => ?_) (fun k1 ihk1 l110 a111 c112 F113 i115 ⟨hz114, H⟩ => ?_) Fuel (([] : List Int)) ((some ⟨b38, 0, none⟩)) (0) ([b38]) (0) (⟨rfl, H⟩)) (fun _ h => St.sel [1, 2] rfl rfl h) ⟨rfl, rfl, rfl,  trivial⟩
  ·unfold spec_Voices_L1 at H
   exact absurd H (by simp)
  ·unfold spec_Voices_L1 at H
   refine c_seq <| sR <| ow_batch [.p, .fa 54 0 0 fa54_0] rfl <| o1 rfl (r1 0 0 rfl ty52 rfl) <| ow_batch [.lenS 52 99 sl52, .p] rfl <| nQ <| cI H rfl (fun H => ?_) (fun H => ?_)
   ·refine c_skip <| x_qs <| c_seq <| c_block <| sR <| ow_batch [.fa 54 0 0 fa54_0] rfl <| o1 rfl (r1 0 0 rfl ty52 rfl) <| oP rfl <| bE H fun e185 h186 H => ow_ixB rfl rfl rfl rfl rfl sl52 ty99 rfl g33 h186 fun q189 c190 hd187 hA188 => ?_
    obtain ⟨c191, c192, c193, c194, rfl, g195, g196, g197, g198⟩ := rdo_Timpl_Member hd187
    obtain ⟨c199, c200, rfl, g201, g202⟩ := rdo_Timpl_Tree g195
    obtain ⟨a203, c204, rfl⟩ := rd_sl1 g201
    obtain rfl := g202
    obtain rfl := g196
    obtain ⟨c205, c206, rfl, g207, g208⟩ := rdo_Timpl_Tree g197
    obtain ⟨a209, c210, rfl⟩ := rd_sl1 g207
    obtain rfl := g208
    obtain ⟨c211, c212, rfl, g213, g214⟩ := rdo_Timpl_Det g198
    obtain ⟨c215, rfl, g216⟩ := rdo_Timpl_Window g213
    obtain ⟨a217, c218, rfl⟩ := rd_sl1 g216
    obtain ⟨c219, rfl, g220⟩ := rdo_Timpl_Window g214
    obtain ⟨a221, c222, rfl⟩ := rd_sl1 g220
    exact ow_batch [.fa 99 3 5 fa99_3, .fa 97 1 1 fa97_1] rfl <| o1 rfl (ry_load (cs := [.slice a221 e185.Det_.Drift_.Rows_.length c222]) rfl rfl ty95 (at_bor bor (at_K (at_K hA188 5 2) 1 1)) rfl) <| ow_alloc rfl rfl rfl rfl ty95 (fun _ => kp) fun b223 => sC 0 [.slice a221 e185.Det_.Drift_.Rows_.length c222] [_] 2 rfl ty95 rfl <| nQ <| c_regHT 13 [(0, true), (1, true), (3, true), (7, true), (2, false), (4, false), (5, true), (6, true), (8, false), (9, true), (10, true), (11, false), (12, false)] (St w M0 [Res.box b37 54 [.slice a34 p1.Members_.length c35], Res.own (eList eI 3) F113 l110 [.slice a111 l110.length c112], Res.box b223 95 [.slice a221 e185.Det_.Drift_.Rows_.length c222]]) mixed (by kernel_rfl) (panicOk_qb (panicOk_qs (panicOk_ql (panicOk_qb (panicOk_qs panicOk_body))))) (fun _ h => St.mask [true, true, true] rfl h) <| oP rfl <| ow_rH rfl (dstOk_lt rfl) (rx 0 2 _ rfl ty95 rfl) <| ow_rH rfl (dstOk_lt rfl) (rx 0 2 _ rfl ty95 rfl) <| ow_rH rfl (dstOk_lt rfl) (rx 0 2 _ rfl ty95 rfl) <| bE H fun y233 h234 H => oq rfl (qc rfl fn73 (fun w1 hw1 => spec_WindowTotal_ok w1 h234 (rdm_Timpl_Window (x := e185.Det_.Drift_) (c0 := [.slice a221 e185.Det_.Drift_.Rows_.length c222]) (rds_bor g220 w1 hw1)))) (fun _ h => St.mask [true, true, true] rfl h) <| bE H fun y235 h236 H => oq rfl (qc rfl fn74 (fun w1 hw1 => spec_WindowOnes_ok w1 h236 (rdm_Timpl_Window (x := e185.Det_.Drift_) (c0 := [.slice a221 e185.Det_.Drift_.Rows_.length c222]) (rds_bor g220 w1 hw1)))) (fun _ h => St.mask [true, true, true] rfl h) <| oPP rfl <| bE H fun y237 h238 H => oq rfl (qc rfl fn73 (fun w1 hw1 => spec_WindowTotal_ok w1 h238 (rdm_Timpl_Window (x := e185.Det_.Drift_) (c0 := [.slice a221 e185.Det_.Drift_.Rows_.length c222]) (rds_bor g220 w1 hw1)))) (fun _ h => St.mask [true, true, true] rfl h) <| oP rfl <| ow_rH rfl (dstOk_lt rfl) (ry_build2 [(0, [.int .i64 (IntKind.i64.wrap ((IntKind.i64.wrap (y233 - y235)) + 1))]), (1, [.int .i64 (IntKind.i64.wrap (y237 + 2))])] [.int .i64 (IntKind.i64.wrap ((IntKind.i64.wrap (y233 - y235)) + 1)), .int .i64 (IntKind.i64.wrap (y237 + 2))] rfl rfl ty138 fs138 rfl ⟨rfl, rfl, Nat.le_of_ble_eq_true rfl, rfl, rfl, Nat.le_of_ble_eq_true rfl,  trivial⟩ rfl) <| bE H fun y239 h240 H => oq rfl (qc rfl fn72 (fun w1 hw1 => spec_Thousandths_ok w1 (p0 := (Timpl_Frac.mk (IntKind.i64.wrap ((IntKind.i64.wrap (y233 - y235)) + 1)) (IntKind.i64.wrap (y237 + 2)))) h240)) (fun _ h => St.mask [true, true, true] rfl h) <| ow_blit (val := Value.int .i64) (h1 := fun _ => rfl) [y239] [(0, [.int .i64 y239])] rfl rfl rfl rfl rfl sl39 ty3 rfl rfl rfl ⟨rfl, rfl, Nat.le_of_ble_eq_true rfl,  trivial⟩ rfl rfl (fun _ => (fun _ h => St.mask [true, true, true] rfl h)) fun b241 => ow_nilH <| x_qt <| bE H fun l242 h243 H => ow_appR (r := 1) (ys := ([y239] : List Int)) rfl rfl rfl rfl rfl rfl sl39 ty3 rfl rfl rfl (fun w1 hw1 => rds_own (e := eList eI 3) (r := 3) rfl w1 hw1) h243 (fun _ _ _ => kp) fun a244 c245 F246 => ow_fact rfl (fun w1 hw1 => own_nn (i := 1) hw1 rfl (app_ne h243)) fun hz247 => oP rfl <| ow_nil <| x_qb <| x_qs <| c_reg <| ow_batch [.p, .p, .p] rfl <| ow_nil <| x_ql (RW.at (ihk1 (l242) (a244) (c245) (F246) (IntKind.i64.wrap (i115 + 1)) (⟨hz247, H⟩)) (fun _ h => St.sel [0, 1] rfl rfl h) ⟨rfl, rfl, rfl, trivial⟩)
   ·exact c_exit <| x_qs_exit <| x_ql_exit <| x_qb_here <| x_qs <| sR <| oPP rfl <| nT <| x_retR (rs := [.tmp 4]) (vs := [.slice a111 l110.length c112]) rfl ⟨rfl, trivial⟩ (fun w' hw' => by
     obtain rfl := of_some H
     exact ⟨_, rfl, a111, l110.length, c112, F113, rfl, hw'.sel [1] rfl rfl⟩)
theorem spec_Tally_ok (w : World) {M0 : List Nat} {p0 : Int} {p1 : List Int} {p2 : List Int} {a_1 : Option Addr} {n_1 c_1 : Nat} {a_2 : Option Addr} {n_2 c_2 : Nat} {r : List Int} (H : spec_Tally p0 p1 p2 = some r) (HS : St w M0 [] w) (g1 : (eList eI 3).rd w M0 p1 [.slice a_1 n_1 c_1]) (g2 : (eList eI 3).rd w M0 p2 [.slice a_2 n_2 c_2]) :
    Calls Tryz.prog 40 #[.int .i64 p0, .slice a_1 n_1 c_1, .slice a_2 n_2 c_2] w (fun en w' => ∃ v, en = .returned v ∧ ∃ (a0 : Option Addr), ∃ (n0 : Nat), ∃ (c0 : Nat), ∃ (F0 : List Nat), v = .slice a0 n0 c0 ∧ St w M0 [Res.own (eList eI 3) F0 r [.slice a0 n0 c0]] w') := by
 obtain rfl := rd_n g1
 obtain rfl := rd_n g2
 unfold spec_Tally at H
 refine f_enter Tryz.func40 rfl Tryz.ntmps40 rfl (HS) <| sR <| oP rfl <| nQ <| c_seq <| sR <| oP rfl <| bE H fun y10 h11 H => oq rfl (qc rfl fn69 (fun w1 hw1 => spec_l1In_ok w1  h11)) tt2 <| oPP rfl <| ow_cut [(18, .bool ((!y10) || ((p1.length : Int) != (p2.length : Int)))), (0, .int .i64 p0), (1, .slice a_1 p1.length c_1), (2, .slice a_2 p2.length c_2)] 6 ?_ (fun key => OW.sub (R := [(0, .int .i64 p0), (1, .slice a_1 p1.length c_1), (2, .slice a_2 p2.length c_2), (12, .bool (!y10))]) ?_ (sb rfl))
 ·refine oP rfl <| ow_cut [(23, .bool (((!y10) || ((p1.length : Int) != (p2.length : Int))) || (decide ((p1.length : Int) > 64)))), (0, .int .i64 p0), (1, .slice a_1 p1.length c_1), (2, .slice a_2 p2.length c_2)] 4 ?_ (fun key => OW.sub (R := [(0, .int .i64 p0), (1, .slice a_1 p1.length c_1), (2, .slice a_2 p2.length c_2), (19, .bool ((!y10) || ((p1.length : Int) != (p2.length : Int))))]) ?_ (sb rfl))
  ·refine nQ <| cI H rfl (fun H => ?_) (fun H => ?_)
   ·exact sR <| ow_blit0 (e := eI) rfl rfl rfl rfl sl39 ty3 (fun _ => kp) fun b16 => oP rfl <| nT <| x_qs_ret <| x_retR (rs := [.tmp 6]) (vs := [.slice (some ⟨b16, 0, none⟩) 0 0]) rfl ⟨rfl, trivial⟩ (fun w' hw' => by
     obtain rfl := of_some H
     exact ⟨_, rfl, (some ⟨b16, 0, none⟩), 0, 0, [b16], rfl, hw'.sel [0] rfl rfl⟩)
   ·refine c_skip <| x_qs <| sR <| oP rfl <| bE H fun l17 h18 H => ow_make (e := eI) (zero := (0 : Int)) rfl rfl rfl rfl rfl rfl sl39 ty3 rfl rfl rfl rfl (fun _ => ⟨rfl, rfl⟩) h18 (fun _ => kp) fun b19 => oP rfl <| nQ <| c_seq <| sR <| oP rfl <| nQ <| c_block <| CW.at (loopI2 (fun (l46 : List Int) (i47 : Int) => St w M0 [Res.own (eList eI 3) [b19] l46 [.slice (some ⟨b19, 0, none⟩) l17.length l17.length]]) (fun l46 i47 => [(0, .int .i64 p0), (1, .slice a_1 p1.length c_1), (2, .slice a_2 p2.length c_2), (7, .slice (some ⟨b19, 0, none⟩) l17.length l17.length), (8, .int .i64 i47)]) (fun kk => fun l46 i47 => spec_Tally_L1 p1 p0 p2 kk l46 i47 = some r) (fun _ _ H => ?_) (fun k1 ihk1 l46 i47 H => ?_) Fuel (l17) (0) (H)) (fun _ h => St.sel [0] rfl rfl h) ⟨rfl, rfl, rfl, rfl, rfl,  trivial⟩
    ·unfold spec_Tally_L1 at H
     exact absurd H (by simp)
    ·unfold spec_Tally_L1 at H
     refine c_seq <| sR <| ow_batch [.p, .p, .lenS 39 3 sl39, .p] rfl <| nQ <| cI H rfl (fun H => ?_) (fun H => ?_)
     ·refine c_skip <| x_qs <| c_seq <| c_block <| c_seq <| sR <| oPP rfl <| bE H fun e74 h75 H => ow_ixE (e := eI) (xs := p1) (j := i47) rfl rfl rfl rfl rfl sl39 ty3 rfl (fun w1 hw1 => rds_bor g1 w1 hw1) h75 (by rw [Nat.mul_one]) <| o1 rfl (ry_load1 rfl rfl ty3 (at_elV (fun w1 hw1 => rds_bor g1 w1 hw1) h75)) <| oPP rfl <| bE H fun y76 h77 H => oq rfl (qc rfl fn69 (fun w1 hw1 => spec_l1In_ok w1  h77)) tt2 <| oPP rfl <| bE H fun u78 hu84 H => ow_cut [(48, .bool u78), (0, .int .i64 p0), (1, .slice a_1 p1.length c_1), (2, .slice a_2 p2.length c_2), (7, .slice (some ⟨b19, 0, none⟩) l17.length l17.length), (8, .int .i64 i47)] 7 ?_ (fun key => OW.sub (R := [(0, .int .i64 p0), (1, .slice a_1 p1.length c_1), (2, .slice a_2 p2.length c_2), (7, .slice (some ⟨b19, 0, none⟩) l17.length l17.length), (8, .int .i64 i47), (41, .bool (!y76))]) ?_ (sb rfl))
      ·refine nQ <| cI H rfl (fun H => ?_) (fun H => ?_)
       ·exact sR <| ow_blit0 (e := eI) rfl rfl rfl rfl sl39 ty3 (fun _ => kp) fun b85 => oP rfl <| nT <| x_qs_ret <| x_qb_ret <| x_qs_ret <| x_ql_ret <| x_qb_ret <| x_qs_ret <| x_retR (rs := [.tmp 6]) (vs := [.slice (some ⟨b85, 0, none⟩) 0 0]) rfl ⟨rfl, trivial⟩ (fun w' hw' => by
         obtain rfl := of_some H
         exact ⟨_, rfl, (some ⟨b85, 0, none⟩), 0, 0, [b85], rfl, hw'.sel [1] rfl rfl⟩)
       ·refine c_skip <| x_qs <| sR <| oPP rfl <| bE H fun e86 h87 H => ow_ixE (e := eI) (xs := p1) (j := i47) rfl rfl rfl rfl rfl sl39 ty3 rfl (fun w1 hw1 => rds_bor g1 w1 hw1) h87 (by rw [Nat.mul_one]) <| o1 rfl (ry_load1 rfl rfl ty3 (at_elV (fun w1 hw1 => rds_bor g1 w1 hw1) h87)) <| oP rfl <| nQ <| cI H rfl (fun H => ?_) (fun H => ?_)
        ·exact c_regT 18 mixed (by kernel_rfl) <| ow_batch [.p, .p, .p] rfl <| bE H fun e88 h89 H => ow_ixE (e := eI) (xs := p1) (j := i47) rfl rfl rfl rfl rfl sl39 ty3 rfl (fun w1 hw1 => rds_bor g1 w1 hw1) h89 (by rw [Nat.mul_one]) <| o1 rfl (ry_load1 rfl rfl ty3 (at_elV (fun w1 hw1 => rds_bor g1 w1 hw1) h89)) <| ow_batch [.p, .p, .p] rfl <| bE H fun e90 h91 H => ow_ixE (e := eI) (xs := p1) (j := i47) rfl rfl rfl rfl rfl sl39 ty3 rfl (fun w1 hw1 => rds_bor g1 w1 hw1) h91 (by rw [Nat.mul_one]) <| o1 rfl (ry_load1 rfl rfl ty3 (at_elV (fun w1 hw1 => rds_bor g1 w1 hw1) h91)) <| bE H fun e92 h93 H => ow_ixE (e := eI) (xs := l46) (j := e90) rfl rfl rfl rfl rfl sl39 ty3 rfl (fun w1 hw1 => rds_own (e := eList eI 3) (r := 0) rfl w1 hw1) h93 (by rw [Nat.mul_one]) <| o1 rfl (ry_load1 rfl rfl ty3 (at_elV (fun w1 hw1 => rds_own (e := eList eI 3) (r := 0) rfl w1 hw1) h93)) <| oPP rfl <| bE H fun e94 h95 H => ow_ixE (e := eI) (xs := p2) (j := i47) rfl rfl rfl rfl rfl sl39 ty3 rfl (fun w1 hw1 => rds_bor g2 w1 hw1) h95 (by rw [Nat.mul_one]) <| o1 rfl (ry_load1 rfl rfl ty3 (at_elV (fun w1 hw1 => rds_bor g2 w1 hw1) h95)) <| oP rfl <| bE H fun e96 h97 H => ow_ixE (e := eI) (xs := l46) (j := e88) rfl rfl rfl rfl rfl sl39 ty3 rfl (fun w1 hw1 => rds_own (e := eList eI 3) (r := 0) rfl w1 hw1) h97 (by rw [Nat.mul_one]) <| ow_nilQ <| ow_storeV (i := 0) (j := e88) rfl rfl rfl rfl rfl rfl ty3 rfl h97 (fun _ => rfl) kp <| ow_nil <| x_qb <| x_qs <| c_reg <| ow_batch [.p, .p, .p] rfl <| ow_nil <| x_ql (RW.at (ihk1 ((l46.set e88.toNat (IntKind.i64.wrap (e92 + e94)))) (IntKind.i64.wrap (i47 + 1)) (H)) (fun _ h => St.sel [0] rfl rfl h) ⟨rfl, rfl, rfl, rfl, rfl, trivial⟩)
        ·exact c_skip <| x_qb <| x_qs <| c_reg <| ow_batch [.p, .p, .p] rfl <| ow_nil <| x_ql (RW.at (ihk1 (l46) (IntKind.i64.wrap (i47 + 1)) (H)) (fun _ h => St.sel [0] rfl rfl h) ⟨rfl, rfl, rfl, rfl, rfl, trivial⟩)
      ·clear H
       have H := hu84
       clear hu84
       generalize (!y76) = t83 at H key ⊢
       cases t83
       ·have H := of_if_f rfl H
        refine oPP rfl <| bE H fun e79 h80 H => ow_ixE (e := eI) (xs := p2) (j := i47) rfl rfl rfl rfl rfl sl39 ty3 rfl (fun w1 hw1 => rds_bor g2 w1 hw1) h80 (by rw [Nat.mul_one]) <| o1 rfl (ry_load1 rfl rfl ty3 (at_elV (fun w1 hw1 => rds_bor g2 w1 hw1) h80)) <| bE H fun y81 h82 H => oq rfl (qc rfl fn69 (fun w1 hw1 => spec_l1In_ok w1  h82)) tt2 <| oP rfl <| oP rfl <| ?_
        obtain rfl := of_some H
        exact OW.sub key (sb rfl)
       ·have H := of_if_t rfl H
        refine ow_batch [.p, .p, .p, .p, .p, .p, .p] rfl ?_
        obtain rfl := of_some H
        exact OW.sub key (sb rfl)
     ·exact c_exit <| x_qs_exit <| x_ql_exit <| x_qb_here <| x_qs <| sR <| oPP rfl <| nT <| x_retR (rs := [.tmp 6]) (vs := [.slice (some ⟨b19, 0, none⟩) l17.length l17.length]) rfl ⟨rfl, trivial⟩ (fun w' hw' => by
       obtain rfl := of_some H
       exact ⟨_, rfl, (some ⟨b19, 0, none⟩), l17.length, l17.length, [b19], rfl, hw'.sel [0] rfl rfl⟩)
  ·generalize ((!y10) || ((p1.length : Int) != (p2.length : Int))) = t15 at key ⊢
   cases t15
   ·exact ow_batch [.p, .lenS 39 3 sl39, .p] rfl <| oP rfl <| OW.sub key (sb rfl)
   ·exact ow_batch [.p, .p, .p, .p] rfl <| OW.sub key (sb rfl)
 ·generalize (!y10) = t13 at key ⊢
  cases t13
  ·exact ow_batch [.p, .lenS 39 3 sl39, .p, .lenS 39 3 sl39, .p] rfl <| oP rfl <| OW.sub key (sb rfl)
  ·exact ow_batch [.p, .p, .p, .p, .p, .p] rfl <| OW.sub key (sb rfl)
theorem spec_ForestSays_ok (w : World) {M0 : List Nat} {p0 : Timpl_Conf} {p1 : Timpl_Forest} {p2 : Timpl_Ex} {cs0 : List Value} {cs1 : List Value} {cs2 : List Value} {r : Int × (List Int)} (H : spec_ForestSays p0 p1 p2 = some r) (HS : St w M0 [] w) (g0 : (eTimpl_Conf).rd w M0 p0 cs0) (g1 : (eTimpl_Forest).rd w M0 p1 cs1) (g2 : (eTimpl_Ex).rd w M0 p2 cs2) :
    Calls Tryz.prog 21 #[.agg cs0.toArray, .agg cs1.toArray, .agg cs2.toArray] w (fun en w' => ∃ v, en = .returned v ∧ ∃ (a0 : Option Addr), ∃ (n0 : Nat), ∃ (c0 : Nat), ∃ (F0 : List Nat), v = .tuple #[.int .i64 r.1, .slice a0 n0 c0] ∧ St w M0 [Res.own (eList eI 3) F0 r.2 [.slice a0 n0 c0]] w') := by
 obtain ⟨c10, c11, c12, c13, c14, c15, c16, rfl, g17, g18, g19, g20, g21, g22, g23⟩ := rdo_Timpl_Conf g0
 obtain ⟨c24, c25, rfl, g26, g27⟩ := rdo_Timpl_Schema g17
 obtain ⟨a28, c29, rfl⟩ := rd_sl1 g26
 obtain ⟨a30, c31, rfl⟩ := rd_sl1 g27
 obtain rfl := g18
 obtain rfl := g19
 obtain rfl := g20
 obtain rfl := g21
 obtain rfl := g22
 obtain rfl := g23
 obtain ⟨c32, rfl, g33⟩ := rdo_Timpl_Forest g1
 obtain ⟨a34, c35, rfl⟩ := rd_sl1 g33
 obtain ⟨c36, c37, rfl, g38, g39⟩ := rdo_Timpl_Ex g2
 obtain ⟨a40, c41, rfl⟩ := rd_sl1 g38
 obtain rfl := g39
 unfold spec_ForestSays at H
 refine f_enter Tryz.func21 rfl Tryz.ntmps21 rfl (HS) <| sR <| ob _ rfl fun b42 => ob _ rfl fun b43 => ob _ rfl fun b44 => oPP rfl <| nQ <| c_seq <| sR <| o1 rfl (rx 0 0 _ rfl ty51 rfl) <| o1 rfl (rx 0 1 _ rfl ty54 rfl) <| bE H fun y45 h46 H => oq rfl (qc rfl fn37 (fun w1 hw1 => spec_ForestOk_ok w1 h46 (rdm_Timpl_Conf (rdm_Timpl_Schema (rds_bor g26 w1 hw1) (rds_bor g27 w1 hw1)) rfl rfl rfl rfl rfl rfl) (rdm_Timpl_Forest (rds_bor g33 w1 hw1)))) tt2 <| oPP rfl <| bE H fun u47 hu51 H => ow_cut [(21, .bool u47), (3, .pointer (some ⟨b42, 0, none⟩)), (4, .pointer (some ⟨b43, 0, none⟩)), (5, .pointer (some ⟨b44, 0, none⟩))] 6 ?_ (fun key => OW.sub (R := [(3, .pointer (some ⟨b42, 0, none⟩)), (4, .pointer (some ⟨b43, 0, none⟩)), (5, .pointer (some ⟨b44, 0, none⟩)), (15, .bool (!y45))]) ?_ (sb rfl))
 ·refine nQ <| cI H rfl (fun H => ?_) (fun H => ?_)
  ·exact sR <| ow_blit0 (e := eI) rfl rfl rfl rfl sl39 ty3 (fun _ => kp) fun b52 => oPP rfl <| nT <| x_qs_ret <| x_retR (rs := [.tmp 6, .tmp 7]) (vs := [.int .i64 (-1), .slice (some ⟨b52, 0, none⟩) 0 0]) rfl ⟨rfl, rfl, trivial⟩ (fun w' hw' => by
    obtain rfl := of_some H
    exact ⟨_, rfl, (some ⟨b52, 0, none⟩), 0, 0, [b52], rfl, hw'.sel [3] rfl rfl⟩)
  ·refine c_skip <| x_qs <| sR <| ow_blit0 (e := eI) rfl rfl rfl rfl sl39 ty3 (fun _ => kp) fun b53 => oP rfl <| nQ <| c_seq <| sR <| oP rfl <| nQ <| c_block <| CW.at (loopI5 (fun (l148 : List Int) (a149 : Option Addr) (c150 : Nat) (F151 : List Nat) (i153 : Int) => St w M0 [Res.box b42 51 [.slice a28 p0.Schema_.Attrs_.length c29, .slice a30 p0.Schema_.Classes_.length c31, .int .i64 p0.Rule_.Sure_, .int .i64 p0.Rule_.Tie_, .int .i64 p0.Rule_.Grace_, .int .i64 p0.Rule_.Depth_, .int .i64 p0.Rule_.Nodes_, .int .i64 p0.Rule_.Units_, .bool p0.Rule_.Two_, .int .i64 p0.Members_, .int .i64 p0.Pick_, .int .i64 p0.Lambda_, .int .i64 p0.Warn_, .int .i64 p0.Drift_], Res.box b43 54 [.slice a34 p1.Members_.length c35], Res.box b44 61 [.slice a40 p2.Bins_.length c41, .int .i64 p2.Class_], Res.own (eList eI 3) F151 l148 [.slice a149 l148.length c150]]) (fun l148 a149 c150 F151 i153 => [(3, .pointer (some ⟨b42, 0, none⟩)), (4, .pointer (some ⟨b43, 0, none⟩)), (5, .pointer (some ⟨b44, 0, none⟩)), (8, .slice a149 l148.length c150), (9, .int .i64 i153)]) (fun kk => fun l148 a149 c150 F151 i153 => a149.isNone = false ∧ spec_ForestSays_L1 p1 p0 p2 kk l148 i153 = some r) (fun _ _ _ _ _ H => ?_) (fun k1 ihk1 l148 a149 c150 F151 i153 ⟨hz152, H⟩ => ?_) Fuel (([] : List Int)) ((some ⟨b53, 0, none⟩)) (0) ([b53]) (0) (⟨rfl, H⟩)) (fun _ h => St.sel [0, 1, 2, 3] rfl rfl h) ⟨rfl, rfl, rfl, rfl, rfl,  trivial⟩
   ·unfold spec_ForestSays_L1 at H
    exact absurd H (by simp)
   ·unfold spec_ForestSays_L1 at H
    refine c_seq <| sR <| ow_batch [.p, .fa 54 0 0 fa54_0] rfl <| o1 rfl (r1 0 1 rfl ty52 rfl) <| ow_batch [.lenS 52 99 sl52, .p] rfl <| nQ <| cI H rfl (fun H => ?_) (fun H => ?_)
    ·refine c_skip <| x_qs <| c_seq <| c_block <| c_regHT 12 [(0, true), (1, true), (2, true), (3, true), (4, true), (5, true), (6, true), (7, true), (8, true), (9, true), (10, false), (11, false)] (St w M0 [Res.box b42 51 [.slice a28 p0.Schema_.Attrs_.length c29, .slice a30 p0.Schema_.Classes_.length c31, .int .i64 p0.Rule_.Sure_, .int .i64 p0.Rule_.Tie_, .int .i64 p0.Rule_.Grace_, .int .i64 p0.Rule_.Depth_, .int .i64 p0.Rule_.Nodes_, .int .i64 p0.Rule_.Units_, .bool p0.Rule_.Two_, .int .i64 p0.Members_, .int .i64 p0.Pick_, .int .i64 p0.Lambda_, .int .i64 p0.Warn_, .int .i64 p0.Drift_], Res.box b43 54 [.slice a34 p1.Members_.length c35], Res.box b44 61 [.slice a40 p2.Bins_.length c41, .int .i64 p2.Class_], Res.own (eList eI 3) F151 l148 [.slice a149 l148.length c150]]) mixed (by kernel_rfl) (panicOk_qb (panicOk_qs (panicOk_ql (panicOk_qb (panicOk_qs panicOk_body))))) (fun _ h => St.mask [true, true, true, true] rfl h) <| ow_batch [.p, .fa 51 0 0 fa51_0] rfl <| ow_rH rfl (dstOk_lt rfl) (rx 0 0 _ rfl ty48 rfl) <| ow_batch [.fa 54 0 0 fa54_0] rfl <| ow_rH rfl (dstOk_lt rfl) (r1 0 1 rfl ty52 rfl) <| oP rfl <| bE H fun e289 h290 H => ow_ixB rfl rfl rfl rfl rfl sl52 ty99 rfl g33 h290 fun q293 c294 hd291 hA292 => ?_
     obtain ⟨c295, c296, c297, c298, rfl, g299, g300, g301, g302⟩ := rdo_Timpl_Member hd291
     obtain ⟨c303, c304, rfl, g305, g306⟩ := rdo_Timpl_Tree g299
     obtain ⟨a307, c308, rfl⟩ := rd_sl1 g305
     obtain rfl := g306
     obtain rfl := g300
     obtain ⟨c309, c310, rfl, g311, g312⟩ := rdo_Timpl_Tree g301
     obtain ⟨a313, c314, rfl⟩ := rd_sl1 g311
     obtain rfl := g312
     obtain ⟨c315, c316, rfl, g317, g318⟩ := rdo_Timpl_Det g302
     obtain ⟨c319, rfl, g320⟩ := rdo_Timpl_Window g317
     obtain ⟨a321, c322, rfl⟩ := rd_sl1 g320
     obtain ⟨c323, rfl, g324⟩ := rdo_Timpl_Window g318
     obtain ⟨a325, c326, rfl⟩ := rd_sl1 g324
     exact ow_batch [.fa 99 0 0 fa99_0] rfl <| ow_rH rfl (dstOk_lt rfl) (ry_load (cs := [.slice a307 e289.Tree_.Nodes_.length c308, .int .i64 e289.Tree_.Seen_]) rfl rfl ty93 (at_bor (fun _ h => h.ext) (at_K hA292 0 2)) rfl) <| ow_rH rfl (dstOk_lt rfl) (rx 0 2 _ rfl ty61 rfl) <| bE H fun y327 h328 H => oq rfl (qc rfl fn39 (fun w1 hw1 => spec_TreeSays_ok w1 h328 (rdm_Timpl_Schema (x := p0.Schema_) (c0 := [.slice a28 p0.Schema_.Attrs_.length c29]) (c1 := [.slice a30 p0.Schema_.Classes_.length c31]) (rds_bor g26 w1 hw1) (rds_bor g27 w1 hw1)) (rdm_Timpl_Tree (x := e289.Tree_) (c0 := [.slice a307 e289.Tree_.Nodes_.length c308]) (c1 := [.int .i64 e289.Tree_.Seen_]) (rds_bor g305 w1 hw1) rfl) (rdm_Timpl_Ex (x := p2) (c0 := [.slice a40 p2.Bins_.length c41]) (c1 := [.int .i64 p2.Class_]) (rds_bor g38 w1 hw1) rfl))) (fun _ h => St.mask [true, true, true, true] rfl h) <| ow_blit (val := Value.int .i64) (h1 := fun _ => rfl) [y327] [(0, [.int .i64 y327])] rfl rfl rfl rfl rfl sl39 ty3 rfl rfl rfl ⟨rfl, rfl, Nat.le_of_ble_eq_true rfl,  trivial⟩ rfl rfl (fun _ => (fun _ h => St.mask [true, true, true, true] rfl h)) fun b329 => ow_nilH <| x_qt <| bE H fun l330 h331 H => ow_appR (r := 3) (ys := ([y327] : List Int)) rfl rfl rfl rfl rfl rfl sl39 ty3 rfl rfl rfl (fun w1 hw1 => rds_own (e := eList eI 3) (r := 4) rfl w1 hw1) h331 (fun _ _ _ => kp) fun a332 c333 F334 => ow_fact rfl (fun w1 hw1 => own_nn (i := 3) hw1 rfl (app_ne h331)) fun hz335 => oP rfl <| ow_nil <| x_qb <| x_qs <| c_reg <| ow_batch [.p, .p, .p] rfl <| ow_nil <| x_ql (RW.at (ihk1 (l330) (a332) (c333) (F334) (IntKind.i64.wrap (i153 + 1)) (⟨hz335, H⟩)) (fun _ h => St.sel [0, 1, 2, 3] rfl rfl h) ⟨rfl, rfl, rfl, rfl, rfl, trivial⟩)
    ·refine c_exit <| x_qs_exit <| x_ql_exit <| x_qb_here <| x_qs <| c_seq <| c_regHT 8 [(0, true), (1, true), (2, true), (3, true), (4, true), (5, true), (6, true), (7, false)] (St w M0 [Res.box b42 51 [.slice a28 p0.Schema_.Attrs_.length c29, .slice a30 p0.Schema_.Classes_.length c31, .int .i64 p0.Rule_.Sure_, .int .i64 p0.Rule_.Tie_, .int .i64 p0.Rule_.Grace_, .int .i64 p0.Rule_.Depth_, .int .i64 p0.Rule_.Nodes_, .int .i64 p0.Rule_.Units_, .bool p0.Rule_.Two_, .int .i64 p0.Members_, .int .i64 p0.Pick_, .int .i64 p0.Lambda_, .int .i64 p0.Warn_, .int .i64 p0.Drift_], Res.box b43 54 [.slice a34 p1.Members_.length c35], Res.box b44 61 [.slice a40 p2.Bins_.length c41, .int .i64 p2.Class_], Res.own (eList eI 3) F151 l148 [.slice a149 l148.length c150]]) mixed (by kernel_rfl) (panicOk_qs panicOk_body) (fun _ h => St.mask [true, true, true, true] rfl h) <| ow_batch [.fa 51 0 0 fa51_0, .fa 48 1 1 fa48_1] rfl <| ow_rH rfl (dstOk_lt rfl) (r1 1 0 rfl ty23 rfl) <| ow_batch [.lenS 23 9 sl23, .p] rfl <| ow_rH rfl (dstOk_lt rfl) (rx 0 0 _ rfl ty51 rfl) <| ow_rH rfl (dstOk_lt rfl) (rx 0 1 _ rfl ty54 rfl) <| bE H fun y345 h346 H => ow_callS rfl fn41 rfl rfl rfl rfl (fun w1 hw1 => spec_Voices_ok w1 h346 (hw1.carve [] rfl rfl) (rdm_Timpl_Conf (rdm_Timpl_Schema (rds_bor g26 w1 hw1) (rds_bor g27 w1 hw1)) rfl rfl rfl rfl rfl rfl) (rdm_Timpl_Forest (rds_bor g33 w1 hw1))) fun v347 w1 w2 hw1 hR349 => ?_
     obtain ⟨a350, n351, c352, F353, rfl, hS348⟩ := hR349
     obtain rfl := own_nS (i := 0) hS348 rfl
     refine ⟨St w M0 [_, _, _, _, _], hw1.comp [] rfl rfl hS348, (fun _ h => St.mask [true, true, true, true] rfl h), ?_⟩
     refine ow_nilH <| x_qt <| bE H fun y354 h355 H => ow_callS rfl fn40 rfl rfl rfl rfl (fun w1 hw1 => spec_Tally_ok w1  h355 (hw1.carve [] rfl rfl) (rds_own (e := eList eI 3) (r := 3) rfl w1 hw1) (rds_own (e := eList eI 3) (r := 4) rfl w1 hw1)) fun v356 w1 w2 hw1 hR358 => ?_
     obtain ⟨a359, n360, c361, F362, rfl, hS357⟩ := hR358
     obtain rfl := own_nS (i := 0) hS357 rfl
     refine ⟨St w M0 [_, _, _, _, _, _], hw1.comp [] rfl rfl hS357, fun _ _ => trivial, ?_⟩
     exact oP rfl <| nR <| oP rfl <| bE H fun y363 h364 H => oq rfl (qc rfl fn42 (fun w1 hw1 => spec_TopOf_ok w1  h364 (rds_own (e := eList eI 3) (r := 5) rfl w1 hw1))) tt2 <| ow_batch [.p, .p, .p] rfl <| nT <| x_retR (rs := [.tmp 6, .tmp 7]) (vs := [.int .i64 y363, .slice a359 y354.length c361]) rfl ⟨rfl, rfl, trivial⟩ (fun w' hw' => by
      obtain rfl := of_some H
      exact ⟨_, rfl, a359, y354.length, c361, F362, rfl, hw'.sel [5] rfl rfl⟩)
 ·clear H
  have H := hu51
  clear hu51
  generalize (!y45) = t50 at H key ⊢
  cases t50
  ·have H := of_if_f rfl H
   refine ow_batch [.fa 51 0 0 fa51_0] rfl <| o1 rfl (rx 0 0 _ rfl ty48 rfl) <| o1 rfl (rx 0 2 _ rfl ty61 rfl) <| bE H fun y48 h49 H => oq rfl (qc rfl fn38 (fun w1 hw1 => spec_ExOk_ok w1 h49 (rdm_Timpl_Schema (rds_bor g26 w1 hw1) (rds_bor g27 w1 hw1)) (rdm_Timpl_Ex (rds_bor g38 w1 hw1) rfl))) tt2 <| oP rfl <| oP rfl <| ?_
   obtain rfl := of_some H
   exact OW.sub key (sb rfl)
  ·have H := of_if_t rfl H
   refine ow_batch [.p, .p, .p, .p, .p, .p] rfl ?_
   obtain rfl := of_some H
   exact OW.sub key (sb rfl)
theorem spec_StateSays_ok (w : World) {M0 : List Nat} {p0 : Timpl_State} {p1 : Timpl_Ex} {cs0 : List Value} {cs1 : List Value} {r : Int × (List Int)} (H : spec_StateSays p0 p1 = some r) (HS : St w M0 [] w) (g0 : (eTimpl_State).rd w M0 p0 cs0) (g1 : (eTimpl_Ex).rd w M0 p1 cs1) :
    Calls Tryz.prog 6 #[.agg cs0.toArray, .agg cs1.toArray] w (fun en w' => ∃ v, en = .returned v ∧ ∃ (a0 : Option Addr), ∃ (n0 : Nat), ∃ (c0 : Nat), ∃ (F0 : List Nat), v = .tuple #[.int .i64 r.1, .slice a0 n0 c0] ∧ St w M0 [Res.own (eList eI 3) F0 r.2 [.slice a0 n0 c0]] w') := by
 obtain ⟨c10, c11, c12, rfl, g13, g14, g15⟩ := rdo_Timpl_State g0
 obtain ⟨c16, c17, c18, c19, c20, c21, c22, rfl, g23, g24, g25, g26, g27, g28, g29⟩ := rdo_Timpl_Conf g13
 obtain ⟨c30, c31, rfl, g32, g33⟩ := rdo_Timpl_Schema g23
 obtain ⟨a34, c35, rfl⟩ := rd_sl1 g32
 obtain ⟨a36, c37, rfl⟩ := rd_sl1 g33
 obtain rfl := g24
 obtain rfl := g25
 obtain rfl := g26
 obtain rfl := g27
 obtain rfl := g28
 obtain rfl := g29
 obtain ⟨c38, rfl, g39⟩ := rdo_Timpl_Forest g14
 obtain ⟨a40, c41, rfl⟩ := rd_sl1 g39
 obtain ⟨c42, c43, rfl, g44, g45⟩ := rdo_Timpl_Score g15
 obtain ⟨a46, c47, rfl⟩ := rd_sl1 g44
 obtain ⟨a48, c49, rfl⟩ := rd_sl1 g45
 obtain ⟨c50, c51, rfl, g52, g53⟩ := rdo_Timpl_Ex g1
 obtain ⟨a54, c55, rfl⟩ := rd_sl1 g52
 obtain rfl := g53
 unfold spec_StateSays at H
 refine f_enter Tryz.func6 rfl Tryz.ntmps6 rfl (HS) <| sR <| ob _ rfl fun b56 => ob _ rfl fun b57 => oPP rfl <| nR <| ow_batch [.fa 59 0 0 fa59_0] rfl <| o1 rfl (rx 0 0 _ rfl ty51 rfl) <| ow_batch [.fa 59 1 14 fa59_1] rfl <| o1 rfl (rx 14 0 _ rfl ty54 rfl) <| o1 rfl (rx 0 1 _ rfl ty61 rfl) <| bE H fun y58 h59 H => ow_callS rfl fn21 rfl rfl rfl rfl (fun w1 hw1 => spec_ForestSays_ok w1 h59 (hw1.carve [] rfl rfl) (rdm_Timpl_Conf (rdm_Timpl_Schema (rds_bor g32 w1 hw1) (rds_bor g33 w1 hw1)) rfl rfl rfl rfl rfl rfl) (rdm_Timpl_Forest (rds_bor g39 w1 hw1)) (rdm_Timpl_Ex (rds_bor g52 w1 hw1) rfl)) fun v60 w1 w2 hw1 hR62 => ?_
 obtain ⟨a63, n64, c65, F66, rfl, hS61⟩ := hR62
 obtain rfl := own_nS (i := 0) hS61 rfl
 refine ⟨St w M0 [_, _, _], hw1.comp [] rfl rfl hS61, fun _ _ => trivial, ?_⟩
 exact ow_batch [.p, .p, .p, .p] rfl <| nT <| x_retR (rs := [.tmp 4, .tmp 5]) (vs := [.int .i64 y58.1, .slice a63 y58.2.length c65]) rfl ⟨rfl, rfl, trivial⟩ (fun w' hw' => by
  obtain rfl := of_some H
  exact ⟨_, rfl, a63, y58.2.length, c65, F66, rfl, hw'.sel [2] rfl rfl⟩)
theorem impl_within_ok (w : World) {p0 : Int} {p1 : Int} {p2 : Int}  {r : Bool} (H : impl_within p0 p1 p2 = some r)   :
    Calls Tryz.prog 84 #[.int .i64 p0, .int .i64 p1, .int .i64 p2] w (fun en w' => en = .returned (.bool r) ∧ Ext [] w w') := by
 unfold impl_within at H
 refine f_enter Tryz.func84 rfl Tryz.ntmps84 rfl (St.init w []) <| sR <| oP rfl <| nR <| ow_batch [.p, .p, .p, .p] rfl <| ow_cut [(14, .bool ((decide (p0 ≥ p1)) && (decide (p0 ≤ p2)))), (6, .bool false)] 4 ?_ (fun key => OW.sub (R := [(0, .int .i64 p0), (2, .int .i64 p2), (6, .bool false), (10, .bool (decide (p0 ≥ p1)))]) ?_ (sb rfl))
 ·exact oP rfl <| nT <| xr 6 rfl (by cases H; exact q1)
 ·generalize (decide (p0 ≥ p1)) = t11 at key ⊢
  cases t11
  ·exact ow_batch [.p, .p, .p, .p] rfl <| OW.sub key (sb rfl)
  ·exact ow_batch [.p, .p, .p] rfl <| oP rfl <| OW.sub key (sb rfl)
theorem impl_WordOk_ok (w : World) {p0 : List UInt8}  {r : Bool} (H : impl_WordOk p0 = some r)   :
    Calls Tryz.prog 151 #[vS p0] w (fun en w' => en = .returned (.bool r) ∧ Ext [] w w') := by
 unfold impl_WordOk at H
 refine f_enter Tryz.func151 rfl Tryz.ntmps151 rfl (St.init w []) <| sR <| oP rfl <| nQ <| c_seq <| sR <| ow_batch [.p, .lenT 9 st9] rfl <| bE H fun y10 h11 H => oq rfl (qc rfl fn84 (fun w1 hw1 => impl_within_ok w1  h11)) tt2 <| oP rfl <| nQ <| cI H rfl (fun H => ?_) (fun H => ?_)
 ·exact sR <| oP rfl <| nT <| x_qs_ret <| xr 2 rfl (by cases H; exact q1)
 ·refine c_skip <| x_qs <| c_seq <| sR <| ow_batch [.p, .lenT 9 st9, .p] rfl <| nQ <| c_block <| CW.at (loopI1 (fun (i20 : Int) => St w [] []) (fun i20 => [(0, vS p0), (9, .int .i64 (p0.length : Int)), (10, .int .i64 i20)]) (fun kk => fun i20 => impl_WordOk_L1 p0 kk i20 = some r) (fun _ H => ?_) (fun k1 ihk1 i20 H => ?_) Fuel (0) (H)) (fun _ h => St.sel [] rfl rfl h) ⟨rfl, rfl, rfl,  trivial⟩
  ·unfold impl_WordOk_L1 at H
   exact absurd H (by simp)
  ·unfold impl_WordOk_L1 at H
   refine sR <| oP rfl <| nQ <| c_seq <| cI H rfl (fun H => ?_) (fun H => ?_)
   ·refine c_skip <| x_qs <| c_seq <| c_block <| sR <| oPP rfl <| nR <| oPP rfl <| bE H fun b29 h30 H => o1 rfl (ry_sidx (s := p0) rfl rfl rfl st9 h30) <| oPP rfl <| bE H fun u31 hu35 H => ow_cut [(22, .bool u31), (0, vS p0), (9, .int .i64 (p0.length : Int)), (10, .int .i64 i20)] 5 ?_ (fun key => OW.sub (R := [(0, vS p0), (3, .int .i64 i20), (9, .int .i64 (p0.length : Int)), (10, .int .i64 i20), (17, .bool (decide ((b29.toNat : Int) < 97)))]) ?_ (sb rfl))
    ·refine nQ <| cI H rfl (fun H => ?_) (fun H => ?_)
     ·exact sR <| oP rfl <| nT <| x_qb_ret <| x_qs_ret <| x_ql_ret <| x_qb_ret <| x_qs_ret <| xr 2 rfl (by cases H; exact q1)
     ·exact c_skip <| x_qb <| x_qs <| c_reg <| oPP rfl <| ow_nil <| x_ql (RW.at (ihk1 (IntKind.i64.wrap (i20 + 1)) (H)) (fun _ h => St.sel [] rfl rfl h) ⟨rfl, rfl, rfl, trivial⟩)
    ·clear H
     have H := hu35
     clear hu35
     generalize (decide ((b29.toNat : Int) < 97)) = t34 at H key ⊢
     cases t34
     ·have H := of_if_f rfl H
      refine oPP rfl <| bE H fun b32 h33 H => o1 rfl (ry_sidx (s := p0) rfl rfl rfl st9 h33) <| oP rfl <| oP rfl <| ?_
      obtain rfl := of_some H
      exact OW.sub key (sb rfl)
     ·have H := of_if_t rfl H
      refine ow_batch [.p, .p, .p, .p, .p] rfl ?_
      obtain rfl := of_some H
      exact OW.sub key (sb rfl)
   ·exact c_exit <| x_qs_exit <| x_ql_exit <| x_qb_here <| x_qs <| sR <| oP rfl <| nT <| xr 2 rfl (by cases H; exact q1)
theorem lib_slices_Index___string_string__ok (w : World) {p0 : List (List UInt8)} {p1 : List UInt8} {a_0 : Option Addr} {n_0 c_0 : Nat} {r : Int} (H : lib_slices_Index___string_string_ p0 p1 = some r)  (g0 : (eList (eStr) 9).rd w [] p0 [.slice a_0 n_0 c_0]) :
    Calls Tryz.prog 171 #[.slice a_0 n_0 c_0, vS p1] w (fun en w' => en = .returned (.int .i64 r) ∧ Ext [] w w') := by
 obtain rfl := rd_n g0
 unfold lib_slices_Index___string_string_ at H
 refine f_enter Tryz.func171 rfl Tryz.ntmps171 rfl (St.init w []) <| sR <| oP rfl <| nQ <| c_seq <| sR <| ow_batch [.p, .lenS 23 9 sl23, .p] rfl <| nQ <| c_block <| CW.at (loopI1 (fun (i13 : Int) => St w [] []) (fun i13 => [(0, .slice a_0 p0.length c_0), (1, vS p1), (7, .int .i64 (p0.length : Int)), (8, .int .i64 i13)]) (fun kk => fun i13 => lib_slices_Index___string_string__L1 p0 p1 kk i13 = some r) (fun _ H => ?_) (fun k1 ihk1 i13 H => ?_) Fuel (0) (H)) (fun _ h => St.sel [] rfl rfl h) ⟨rfl, rfl, rfl, rfl,  trivial⟩
 ·unfold lib_slices_Index___string_string__L1 at H
  exact absurd H (by simp)
 ·unfold lib_slices_Index___string_string__L1 at H
  refine sR <| oP rfl <| nQ <| c_seq <| cI H rfl (fun H => ?_) (fun H => ?_)
  ·refine c_skip <| x_qs <| c_seq <| c_block <| sR <| oPP rfl <| nR <| ow_batch [.p, .p, .p] rfl <| bE H fun e18 h19 H => ow_ixE (e := eStr) (xs := p0) (j := i13) rfl rfl rfl rfl rfl sl23 ty9 rfl (fun w1 hw1 => rds_bor g0 w1 hw1) h19 (by rw [Nat.mul_one]) <| o1 rfl (ry_load1 rfl rfl ty9 (at_elV (fun w1 hw1 => rds_bor g0 w1 hw1) h19)) <| oP rfl <| nQ <| cI H rfl (fun H => ?_) (fun H => ?_)
   ·exact sR <| oPP rfl <| nT <| x_qb_ret <| x_qs_ret <| x_ql_ret <| x_qb_ret <| x_qs_ret <| xr 4 rfl (by cases H; exact q1)
   ·exact c_skip <| x_qb <| x_qs <| c_reg <| oPP rfl <| ow_nil <| x_ql (RW.at (ihk1 (IntKind.i64.wrap (i13 + 1)) (H)) (fun _ h => St.sel [] rfl rfl h) ⟨rfl, rfl, rfl, rfl, trivial⟩)
  ·exact c_exit <| x_qs_exit <| x_ql_exit <| x_qb_here <| x_qs <| sR <| oP rfl <| nT <| xr 4 rfl (by cases H; exact q1)
theorem lib_slices_Contains___string_string__ok (w : World) {p0 : List (List UInt8)} {p1 : List UInt8} {a_0 : Option Addr} {n_0 c_0 : Nat} {r : Bool} (H : lib_slices_Contains___string_string_ p0 p1 = some r)  (g0 : (eList (eStr) 9).rd w [] p0 [.slice a_0 n_0 c_0]) :
    Calls Tryz.prog 152 #[.slice a_0 n_0 c_0, vS p1] w (fun en w' => en = .returned (.bool r) ∧ Ext [] w w') := by
 obtain rfl := rd_n g0
 unfold lib_slices_Contains___string_string_ at H
 exact f_enter Tryz.func152 rfl Tryz.ntmps152 rfl (St.init w []) <| sR <| oP rfl <| nR <| oPP rfl <| bE H fun y10 h11 H => oq rfl (qc rfl fn171 (fun w1 hw1 => lib_slices_Index___string_string__ok w1  h11 (rds_bor g0 w1 hw1))) tt2 <| oPP rfl <| nT <| xr 4 rfl (by cases H; exact q1)
theorem impl_distinctWords_ok (w : World) {p0 : List (List UInt8)} {a_0 : Option Addr} {n_0 c_0 : Nat} {r : Bool} (H : impl_distinctWords p0 = some r)  (g0 : (eList (eStr) 9).rd w [] p0 [.slice a_0 n_0 c_0]) :
    Calls Tryz.prog 122 #[.slice a_0 n_0 c_0] w (fun en w' => en = .returned (.bool r) ∧ Ext [] w w') := by
 obtain rfl := rd_n g0
 unfold impl_distinctWords at H
 refine f_enter Tryz.func122 rfl Tryz.ntmps122 rfl (St.init w []) <| sR <| oP rfl <| nQ <| c_seq <| sR <| ow_batch [.p, .lenS 23 9 sl23, .p] rfl <| nQ <| c_block <| CW.at (loopI1 (fun (i26 : Int) => St w [] []) (fun i26 => [(0, .slice a_0 p0.length c_0), (5, .slice a_0 p0.length c_0), (6, .int .i64 (p0.length : Int)), (7, .int .i64 i26)]) (fun kk => fun i26 => impl_distinctWords_L1 p0 kk i26 = some r) (fun _ H => ?_) (fun k1 ihk1 i26 H => ?_) Fuel (0) (H)) (fun _ h => St.sel [] rfl rfl h) ⟨rfl, rfl, rfl, rfl,  trivial⟩
 ·unfold impl_distinctWords_L1 at H
  exact absurd H (by simp)
 ·unfold impl_distinctWords_L1 at H
  refine sR <| oP rfl <| nQ <| c_seq <| cI H rfl (fun H => ?_) (fun H => ?_)
  ·refine c_skip <| x_qs <| c_seq <| c_block <| sR <| oP rfl <| bE H fun e43 h44 H => ow_ixE (e := eStr) (xs := p0) (j := i26) rfl rfl rfl rfl rfl sl23 ty9 rfl (fun w1 hw1 => rds_bor g0 w1 hw1) h44 (by rw [Nat.mul_one]) <| o1 rfl (ry_load1 rfl rfl ty9 (at_elV (fun w1 hw1 => rds_bor g0 w1 hw1) h44)) <| oPP rfl <| nR <| oP rfl <| bE H fun y45 h46 H => oq rfl (qc rfl fn151 (fun w1 hw1 => impl_WordOk_ok w1  h46)) tt2 <| oPP rfl <| bE H fun u47 hu57 H => ow_cut [(21, .bool u47), (0, .slice a_0 p0.length c_0), (5, .slice a_0 p0.length c_0), (6, .int .i64 (p0.length : Int)), (7, .int .i64 i26)] 6 ?_ (fun key => OW.sub (R := [(0, .slice a_0 p0.length c_0), (3, .int .i64 i26), (4, vS e43), (5, .slice a_0 p0.length c_0), (6, .int .i64 (p0.length : Int)), (7, .int .i64 i26), (15, .bool (!y45))]) ?_ (sb rfl))
   ·refine nQ <| cI H rfl (fun H => ?_) (fun H => ?_)
    ·exact sR <| oP rfl <| nT <| x_qb_ret <| x_qs_ret <| x_ql_ret <| x_qb_ret <| x_qs_ret <| xr 2 rfl (by cases H; exact q1)
    ·exact c_skip <| x_qb <| x_qs <| c_reg <| oPP rfl <| ow_nil <| x_ql (RW.at (ihk1 (IntKind.i64.wrap (i26 + 1)) (H)) (fun _ h => St.sel [] rfl rfl h) ⟨rfl, rfl, rfl, rfl, trivial⟩)
   ·clear H
    have H := hu57
    clear hu57
    generalize (!y45) = t56 at H key ⊢
    cases t56
    ·have H := of_if_f rfl H
     refine oPP rfl <| bE H fun l48 h49 H => ow_lsub rfl rfl rfl rfl sl23 ty9 rfl rfl rfl h49 g0 fun v51 h50 => ?_
     obtain ⟨a52, c53, rfl⟩ := rd_sl h50
     refine oP rfl <| bE H fun y54 h55 H => oq rfl (qc rfl fn152 (fun w1 hw1 => lib_slices_Contains___string_string__ok w1  h55 (rds_bor h50 w1 hw1))) tt2 <| oP rfl <| ?_
     obtain rfl := of_some H
     exact OW.sub key (sb rfl)
    ·have H := of_if_t rfl H
     refine ow_batch [.p, .p, .p, .p, .p, .p] rfl ?_
     obtain rfl := of_some H
     exact OW.sub key (sb rfl)
  ·exact c_exit <| x_qs_exit <| x_ql_exit <| x_qb_here <| x_qs <| sR <| oP rfl <| nT <| xr 2 rfl (by cases H; exact q1)
theorem impl_ascending_ok (w : World) {p0 : List Int} {a_0 : Option Addr} {n_0 c_0 : Nat} {r : Bool} (H : impl_ascending p0 = some r)  (g0 : (eList eI 3).rd w [] p0 [.slice a_0 n_0 c_0]) :
    Calls Tryz.prog 172 #[.slice a_0 n_0 c_0] w (fun en w' => en = .returned (.bool r) ∧ Ext [] w w') := by
 obtain rfl := rd_n g0
 unfold impl_ascending at H
 refine f_enter Tryz.func172 rfl Tryz.ntmps172 rfl (St.init w []) <| sR <| oP rfl <| nQ <| c_seq <| sR <| oP rfl <| nQ <| c_block <| CW.at (loopI1 (fun (i15 : Int) => St w [] []) (fun i15 => [(0, .slice a_0 p0.length c_0), (3, .int .i64 i15)]) (fun kk => fun i15 => impl_ascending_L1 p0 kk i15 = some r) (fun _ H => ?_) (fun k1 ihk1 i15 H => ?_) Fuel (1) (H)) (fun _ h => St.sel [] rfl rfl h) ⟨rfl, rfl,  trivial⟩
 ·unfold impl_ascending_L1 at H
  exact absurd H (by simp)
 ·unfold impl_ascending_L1 at H
  refine c_seq <| sR <| ow_batch [.p, .p, .lenS 39 3 sl39, .p] rfl <| nQ <| cI H rfl (fun H => ?_) (fun H => ?_)
  ·refine c_skip <| x_qs <| c_seq <| c_block <| c_seq <| c_regQ mixed (by kernel_rfl) <| oPP rfl <| bE H fun e21 h22 H => ow_ixE (e := eI) (xs := p0) (j := i15) rfl rfl rfl rfl rfl sl39 ty3 rfl (fun w1 hw1 => rds_bor g0 w1 hw1) h22 (by rw [Nat.mul_one]) <| o1 rfl (ry_load1 rfl rfl ty3 (at_elV (fun w1 hw1 => rds_bor g0 w1 hw1) h22)) <| ow_batch [.p, .p, .p] rfl <| bE H fun e23 h24 H => ow_ixE (e := eI) (xs := p0) (j := IntKind.i64.wrap (i15 - 1)) rfl rfl rfl rfl rfl sl39 ty3 rfl (fun w1 hw1 => rds_bor g0 w1 hw1) h24 (by rw [Nat.mul_one]) <| o1 rfl (ry_load1 rfl rfl ty3 (at_elV (fun w1 hw1 => rds_bor g0 w1 hw1) h24)) <| oP rfl <| ow_nilQ <| x_qs <| cI H rfl (fun H => ?_) (fun H => ?_)
   ·exact sR <| oP rfl <| nT <| x_qb_ret <| x_qs_ret <| x_ql_ret <| x_qb_ret <| x_qs_ret <| xr 2 rfl (by cases H; exact q1)
   ·exact c_skip <| x_qb <| x_qs <| c_reg <| ow_batch [.p, .p, .p] rfl <| ow_nil <| x_ql (RW.at (ihk1 (IntKind.i64.wrap (i15 + 1)) (H)) (fun _ h => St.sel [] rfl rfl h) ⟨rfl, rfl, trivial⟩)
  ·exact c_exit <| x_qs_exit <| x_ql_exit <| x_qb_here <| x_qs <| sR <| oP rfl <| nT <| xr 2 rfl (by cases H; exact q1)
theorem impl_isCut_ok (w : World) {p0 : Int}  {r : Bool} (H : impl_isCut p0 = some r)   :
    Calls Tryz.prog 174 #[.int .i64 p0] w (fun en w' => en = .returned (.bool r) ∧ Ext [] w w') := by
 unfold impl_isCut at H
 exact f_enter Tryz.func174 rfl Tryz.ntmps174 rfl (St.init w []) <| sR <| oP rfl <| nR <| oP rfl <| bE H fun y10 h11 H => oq rfl (qc rfl fn84 (fun w1 hw1 => impl_within_ok w1  h11)) tt2 <| oP rfl <| nT <| xr 2 rfl (by cases H; exact q1)
theorem impl_CutsOk_1_ok (w : World) {p0 : Int}  {r : Bool} (H : impl_CutsOk_1 p0 = some r)   :
    Calls Tryz.prog 173 #[.int .i64 p0] w (fun en w' => en = .returned (.bool r) ∧ Ext [] w w') := by
 unfold impl_CutsOk_1 at H
 exact f_enter Tryz.func173 rfl Tryz.ntmps173 rfl (St.init w []) <| sR <| oP rfl <| nR <| oP rfl <| bE H fun y10 h11 H => oq rfl (qc rfl fn174 (fun w1 hw1 => impl_isCut_ok w1  h11)) tt2 <| oPP rfl <| nT <| xr 2 rfl (by cases H; exact q1)
theorem lib_slices_IndexFunc___int_int___impl_CutsOk_1_ok (w : World) {p0 : List Int} {a_0 : Option Addr} {n_0 c_0 : Nat} {r : Int} (H : lib_slices_IndexFunc___int_int___impl_CutsOk_1 p0 = some r)  (g0 : (eList eI 3).rd w [] p0 [.slice a_0 n_0 c_0]) :
    Calls Tryz.prog 188 #[.slice a_0 n_0 c_0, .func (.func 173) #[] #[]] w (fun en w' => en = .returned (.int .i64 r) ∧ Ext [] w w') := by
 obtain rfl := rd_n g0
 unfold lib_slices_IndexFunc___int_int___impl_CutsOk_1 at H
 refine f_enter Tryz.func188 rfl Tryz.ntmps188 rfl (St.init w []) <| sR <| oP rfl <| nQ <| c_seq <| sR <| ow_batch [.p, .lenS 39 3 sl39, .p] rfl <| nQ <| c_block <| CW.at (loopI1 (fun (i15 : Int) => St w [] []) (fun i15 => [(0, .slice a_0 p0.length c_0), (1, .func (.func 173) #[] #[]), (7, .int .i64 (p0.length : Int)), (8, .int .i64 i15)]) (fun kk => fun i15 => lib_slices_IndexFunc___int_int___impl_CutsOk_1_L1 p0 kk i15 = some r) (fun _ H => ?_) (fun k1 ihk1 i15 H => ?_) Fuel (0) (H)) (fun _ h => St.sel [] rfl rfl h) ⟨rfl, rfl, rfl, rfl,  trivial⟩
 ·unfold lib_slices_IndexFunc___int_int___impl_CutsOk_1_L1 at H
  exact absurd H (by simp)
 ·unfold lib_slices_IndexFunc___int_int___impl_CutsOk_1_L1 at H
  refine sR <| oP rfl <| nQ <| c_seq <| cI H rfl (fun H => ?_) (fun H => ?_)
  ·refine c_skip <| x_qs <| c_seq <| c_block <| sR <| oPP rfl <| nR <| ow_batch [.p, .p, .p] rfl <| bE H fun e21 h22 H => ow_ixE (e := eI) (xs := p0) (j := i15) rfl rfl rfl rfl rfl sl39 ty3 rfl (fun w1 hw1 => rds_bor g0 w1 hw1) h22 (by rw [Nat.mul_one]) <| o1 rfl (ry_load1 rfl rfl ty3 (at_elV (fun w1 hw1 => rds_bor g0 w1 hw1) h22)) <| bE H fun y23 h24 H => ow_q rfl rfl (dstOk_lt rfl) (qy_callV (cap := []) rfl fn173 rfl rfl (fun w1 hw1 => impl_CutsOk_1_ok w1  h24)) (fun _ _ => trivial) <| nQ <| cI H rfl (fun H => ?_) (fun H => ?_)
   ·exact sR <| oPP rfl <| nT <| x_qb_ret <| x_qs_ret <| x_ql_ret <| x_qb_ret <| x_qs_ret <| xr 4 rfl (by cases H; exact q1)
   ·exact c_skip <| x_qb <| x_qs <| c_reg <| oPP rfl <| ow_nil <| x_ql (RW.at (ihk1 (IntKind.i64.wrap (i15 + 1)) (H)) (fun _ h => St.sel [] rfl rfl h) ⟨rfl, rfl, rfl, rfl, trivial⟩)
  ·exact c_exit <| x_qs_exit <| x_ql_exit <| x_qb_here <| x_qs <| sR <| oP rfl <| nT <| xr 4 rfl (by cases H; exact q1)
theorem lib_slices_ContainsFunc___int_int___impl_CutsOk_1_ok (w : World) {p0 : List Int} {a_0 : Option Addr} {n_0 c_0 : Nat} {r : Bool} (H : lib_slices_ContainsFunc___int_int___impl_CutsOk_1 p0 = some r)  (g0 : (eList eI 3).rd w [] p0 [.slice a_0 n_0 c_0]) :
    Calls Tryz.prog 167 #[.slice a_0 n_0 c_0, .func (.func 173) #[] #[]] w (fun en w' => en = .returned (.bool r) ∧ Ext [] w w') := by
 obtain rfl := rd_n g0
 unfold lib_slices_ContainsFunc___int_int___impl_CutsOk_1 at H
 exact f_enter Tryz.func167 rfl Tryz.ntmps167 rfl (St.init w []) <| sR <| oP rfl <| nR <| oPP rfl <| bE H fun y10 h11 H => oq rfl (qc rfl fn188 (fun w1 hw1 => lib_slices_IndexFunc___int_int___impl_CutsOk_1_ok w1  h11 (rds_bor g0 w1 hw1))) tt2 <| oPP rfl <| nT <| xr 4 rfl (by cases H; exact q1)
theorem impl_CutsOk_ok (w : World) {p0 : List Int} {a_0 : Option Addr} {n_0 c_0 : Nat} {r : Bool} (H : impl_CutsOk p0 = some r)  (g0 : (eList eI 3).rd w [] p0 [.slice a_0 n_0 c_0]) :
    Calls Tryz.prog 153 #[.slice a_0 n_0 c_0] w (fun en w' => en = .returned (.bool r) ∧ Ext [] w w') := by
 obtain rfl := rd_n g0
 unfold impl_CutsOk at H
 refine f_enter Tryz.func153 rfl Tryz.ntmps153 rfl (St.init w []) <| sR <| oP rfl <| nR <| ow_batch [.p, .lenS 39 3 sl39] rfl <| bE H fun y10 h11 H => oq rfl (qc rfl fn84 (fun w1 hw1 => impl_within_ok w1  h11)) tt2 <| oP rfl <| bE H fun u12 hu16 H => ow_cut [(9, .bool u12), (0, .slice a_0 p0.length c_0), (2, .bool false)] 3 ?_ (fun key => OW.sub (R := [(0, .slice a_0 p0.length c_0), (2, .bool false), (6, .bool y10)]) ?_ (sb rfl))
 ·refine oP rfl <| bE H fun u17 hu21 H => ow_cut [(14, .bool u17), (2, .bool false)] 4 ?_ (fun key => OW.sub (R := [(0, .slice a_0 p0.length c_0), (2, .bool false), (10, .bool u12)]) ?_ (sb rfl))
  ·exact oP rfl <| nT <| xr 2 rfl (by cases H; exact q1)
  ·clear H
   have H := hu21
   clear hu21
   generalize u12 = t20 at H key ⊢
   cases t20
   ·have H := of_if_f rfl H
    refine ow_batch [.p, .p, .p, .p] rfl ?_
    obtain rfl := of_some H
    exact OW.sub key (sb rfl)
   ·have H := of_if_t rfl H
    refine oP rfl <| bE H fun y18 h19 H => oq rfl (qc rfl fn167 (fun w1 hw1 => lib_slices_ContainsFunc___int_int___impl_CutsOk_1_ok w1  h19 (rds_bor g0 w1 hw1))) tt2 <| oP rfl <| oP rfl <| ?_
    obtain rfl := of_some H
    exact OW.sub key (sb rfl)
 ·clear H
  have H := hu16
  clear hu16
  generalize y10 = t15 at H key ⊢
  cases t15
  ·have H := of_if_f rfl H
   refine ow_batch [.p, .p, .p] rfl ?_
   obtain rfl := of_some H
   exact OW.sub key (sb rfl)
  ·have H := of_if_t rfl H
   refine oP rfl <| bE H fun y13 h14 H => oq rfl (qc rfl fn172 (fun w1 hw1 => impl_ascending_ok w1  h14 (rds_bor g0 w1 hw1))) tt2 <| oP rfl <| ?_
   obtain rfl := of_some H
   exact OW.sub key (sb rfl)
theorem impl_AttrOk_ok (w : World) {p0 : Timpl_Attr} {cs0 : List Value} {r : Bool} (H : impl_AttrOk p0 = some r)  (g0 : (eTimpl_Attr).rd w [] p0 cs0) :
    Calls Tryz.prog 123 #[.agg cs0.toArray] w (fun en w' => en = .returned (.bool r) ∧ Ext [] w w') := by
 obtain ⟨c10, c11, c12, rfl, g13, g14, g15⟩ := rdo_Timpl_Attr g0
 obtain rfl := g13
 obtain ⟨a16, c17, rfl⟩ := rd_sl1 g14
 obtain ⟨a18, c19, rfl⟩ := rd_sl1 g15
 unfold impl_AttrOk at H
 refine f_enter Tryz.func123 rfl Tryz.ntmps123 rfl (St.init w []) <| sR <| ob _ rfl fun b20 => oP rfl <| nQ <| c_seq <| sR <| ow_batch [.fa 133 0 0 fa133_0] rfl <| o1 rfl (r1 0 0 rfl ty9 rfl) <| bE H fun y21 h22 H => oq rfl (qc rfl fn151 (fun w1 hw1 => impl_WordOk_ok w1  h22)) tt2 <| oP rfl <| nQ <| cI H rfl (fun H => ?_) (fun H => ?_)
 ·exact sR <| oP rfl <| nT <| x_qs_ret <| xr 2 rfl (by cases H; exact q1)
 ·refine c_skip <| x_qs <| c_seq <| sR <| ow_batch [.fa 133 1 1 fa133_1] rfl <| o1 rfl (r1 1 0 rfl ty39 rfl) <| ow_batch [.lenS 39 3 sl39, .p] rfl <| nQ <| cI H rfl (fun H => ?_) (fun H => ?_)
  ·refine sR <| ow_batch [.fa 133 2 2 fa133_2] rfl <| o1 rfl (r1 2 0 rfl ty23 rfl) <| ow_batch [.lenS 23 9 sl23] rfl <| bE H fun y23 h24 H => oq rfl (qc rfl fn84 (fun w1 hw1 => impl_within_ok w1  h24)) tt2 <| oP rfl <| bE H fun u25 hu29 H => ow_cut [(19, .bool u25), (2, .bool false)] 4 ?_ (fun key => OW.sub (R := [(1, .pointer (some ⟨b20, 0, none⟩)), (2, .bool false), (15, .bool y23)]) ?_ (sb rfl))
   ·exact oP rfl <| nT <| x_qs_ret <| xr 2 rfl (by cases H; exact q1)
   ·clear H
    have H := hu29
    clear hu29
    generalize y23 = t28 at H key ⊢
    cases t28
    ·have H := of_if_f rfl H
     refine ow_batch [.p, .p, .p, .p] rfl ?_
     obtain rfl := of_some H
     exact OW.sub key (sb rfl)
    ·have H := of_if_t rfl H
     refine ow_batch [.fa 133 2 2 fa133_2] rfl <| o1 rfl (r1 2 0 rfl ty23 rfl) <| bE H fun y26 h27 H => oq rfl (qc rfl fn122 (fun w1 hw1 => impl_distinctWords_ok w1  h27 (rds_bor g15 w1 hw1))) tt2 <| oP rfl <| ?_
     obtain rfl := of_some H
     exact OW.sub key (sb rfl)
  ·refine c_skip <| x_qs <| sR <| ow_batch [.fa 133 2 2 fa133_2] rfl <| o1 rfl (r1 2 0 rfl ty23 rfl) <| ow_batch [.lenS 23 9 sl23, .p, .p] rfl <| bE H fun u30 hu34 H => ow_cut [(28, .bool u30), (2, .bool false)] 4 ?_ (fun key => OW.sub (R := [(1, .pointer (some ⟨b20, 0, none⟩)), (2, .bool false), (24, .bool ((p0.Values_.length : Int) == 0))]) ?_ (sb rfl))
   ·exact oP rfl <| nT <| xr 2 rfl (by cases H; exact q1)
   ·clear H
    have H := hu34
    clear hu34
    generalize ((p0.Values_.length : Int) == 0) = t33 at H key ⊢
    cases t33
    ·have H := of_if_f rfl H
     refine ow_batch [.p, .p, .p, .p] rfl ?_
     obtain rfl := of_some H
     exact OW.sub key (sb rfl)
    ·have H := of_if_t rfl H
     refine ow_batch [.fa 133 1 1 fa133_1] rfl <| o1 rfl (r1 1 0 rfl ty39 rfl) <| bE H fun y31 h32 H => oq rfl (qc rfl fn153 (fun w1 hw1 => impl_CutsOk_ok w1  h32 (rds_bor g14 w1 hw1))) tt2 <| oP rfl <| ?_
     obtain rfl := of_some H
     exact OW.sub key (sb rfl)
theorem impl_SchemaOk_ok (w : World) {p0 : Timpl_Schema} {cs0 : List Value} {r : Bool} (H : impl_SchemaOk p0 = some r)  (g0 : (eTimpl_Schema).rd w [] p0 cs0) :
    Calls Tryz.prog 83 #[.agg cs0.toArray] w (fun en w' => en = .returned (.bool r) ∧ Ext [] w w') := by
 obtain ⟨c10, c11, rfl, g12, g13⟩ := rdo_Timpl_Schema g0
 obtain ⟨a14, c15, rfl⟩ := rd_sl1 g12
 obtain ⟨a16, c17, rfl⟩ := rd_sl1 g13
 unfold impl_SchemaOk at H
 refine f_enter Tryz.func83 rfl Tryz.ntmps83 rfl (St.init w []) <| sR <| ob _ rfl fun b18 => oP rfl <| nQ <| c_seq <| sR <| ow_batch [.fa 48 0 0 fa48_0] rfl <| o1 rfl (r1 0 0 rfl ty46 rfl) <| ow_batch [.lenS 46 133 sl46] rfl <| bE H fun y19 h20 H => oq rfl (qc rfl fn84 (fun w1 hw1 => impl_within_ok w1  h20)) tt2 <| oPP rfl <| bE H fun u21 hu25 H => ow_cut [(17, .bool u21), (1, .pointer (some ⟨b18, 0, none⟩))] 6 ?_ (fun key => OW.sub (R := [(1, .pointer (some ⟨b18, 0, none⟩)), (11, .bool (!y19))]) ?_ (sb rfl))
 ·refine oP rfl <| bE H fun u26 hu30 H => ow_cut [(23, .bool u26), (1, .pointer (some ⟨b18, 0, none⟩))] 5 ?_ (fun key => OW.sub (R := [(1, .pointer (some ⟨b18, 0, none⟩)), (18, .bool u21)]) ?_ (sb rfl))
  ·refine nQ <| cI H rfl (fun H => ?_) (fun H => ?_)
   ·exact sR <| oP rfl <| nT <| x_qs_ret <| xr 2 rfl (by cases H; exact q1)
   ·refine c_skip <| x_qs <| sR <| ow_blit0 (e := eStr) rfl rfl rfl rfl sl23 ty9 (fun _ => kp) fun b31 => oP rfl <| nQ <| c_seq <| sR <| ow_batch [.fa 48 0 0 fa48_0] rfl <| o1 rfl (r1 0 0 rfl ty46 rfl) <| ow_batch [.lenS 46 133 sl46, .p] rfl <| nQ <| c_block <| CW.at (loopI5 (fun (i65 : Int) (l66 : List (List UInt8)) (a67 : Option Addr) (c68 : Nat) (F69 : List Nat) => St w [] [Res.own (eList (eStr) 9) F69 l66 [.slice a67 l66.length c68]]) (fun i65 l66 a67 c68 F69 => [(3, .slice a67 l66.length c68), (26, .slice a14 p0.Attrs_.length c15), (27, .int .i64 (p0.Attrs_.length : Int)), (28, .int .i64 i65)]) (fun kk => fun i65 l66 a67 c68 F69 => a67.isNone = false ∧ impl_SchemaOk_L1 p0 kk i65 l66 = some r) (fun _ _ _ _ _ H => ?_) (fun k1 ihk1 i65 l66 a67 c68 F69 ⟨hz70, H⟩ => ?_) Fuel (0) (([] : List (List UInt8))) ((some ⟨b31, 0, none⟩)) (0) ([b31]) (⟨rfl, H⟩)) (fun _ h => St.sel [1] rfl rfl h) ⟨rfl, rfl, rfl, rfl,  trivial⟩
    ·unfold impl_SchemaOk_L1 at H
     exact absurd H (by simp)
    ·unfold impl_SchemaOk_L1 at H
     refine sR <| oP rfl <| nQ <| c_seq <| cI H rfl (fun H => ?_) (fun H => ?_)
     ·refine c_skip <| x_qs <| c_seq <| c_block <| sR <| bE H fun e103 h104 H => ow_ixB rfl rfl rfl rfl rfl sl46 ty133 rfl g12 h104 fun q107 c108 hd105 hA106 => ?_
      obtain ⟨c109, c110, c111, rfl, g112, g113, g114⟩ := rdo_Timpl_Attr hd105
      obtain rfl := g112
      obtain ⟨a115, c116, rfl⟩ := rd_sl1 g113
      obtain ⟨a117, c118, rfl⟩ := rd_sl1 g114
      refine o1 rfl (ry_load (cs := [vS e103.Name_, .slice a115 e103.Cuts_.length c116, .slice a117 e103.Values_.length c118]) rfl rfl ty133 (at_bor bor hA106) rfl) <| ow_alloc rfl rfl rfl rfl ty133 (fun _ => kp) fun b119 => sC 0 [vS e103.Name_, .slice a115 e103.Cuts_.length c116, .slice a117 e103.Values_.length c118] [_, _, _] 1 rfl ty133 rfl <| nQ <| c_seq <| sR <| o1 rfl (rx 0 1 _ rfl ty133 rfl) <| bE H fun y120 h121 H => oq rfl (qc rfl fn123 (fun w1 hw1 => impl_AttrOk_ok w1 h121 (rdm_Timpl_Attr rfl (rds_bor g113 w1 hw1) (rds_bor g114 w1 hw1)))) tt2 <| oP rfl <| nQ <| cI H rfl (fun H => ?_) (fun H => ?_)
      ·exact sR <| oP rfl <| nT <| x_qs_ret <| x_qb_ret <| x_qs_ret <| x_ql_ret <| x_qb_ret <| x_qs_ret <| xr 2 rfl (by cases H; exact q1)
      ·exact c_skip <| x_qs <| c_reg <| ow_batch [.p, .fa 133 0 0 fa133_0] rfl <| o1 rfl (r1 0 1 rfl ty9 rfl) <| ow_blit (val := vS) (h1 := fun _ => rfl) [e103.Name_] [(0, [vS e103.Name_])] rfl rfl rfl rfl rfl sl23 ty9 rfl rfl rfl ⟨rfl, rfl, Nat.le_of_ble_eq_true rfl,  trivial⟩ rfl rfl (fun _ => kp) fun b122 => bE H fun l123 h124 H => ow_appR (r := 0) (ys := ([e103.Name_] : List (List UInt8))) rfl rfl rfl rfl rfl rfl sl23 ty9 rfl rfl rfl (fun w1 hw1 => rds_own (e := eList (eStr) 9) (r := 2) rfl w1 hw1) h124 (fun _ _ _ => kp) fun a125 c126 F127 => ow_fact rfl (fun w1 hw1 => own_nn (i := 0) hw1 rfl (app_ne h124)) fun hz128 => oP rfl <| ow_nil <| x_qb <| x_qs <| c_reg <| oPP rfl <| ow_nil <| x_ql (RW.at (ihk1 (IntKind.i64.wrap (i65 + 1)) (l123) (a125) (c126) (F127) (⟨hz128, H⟩)) (fun _ h => St.sel [0] rfl rfl h) ⟨rfl, rfl, rfl, rfl, trivial⟩)
     ·exact c_exit <| x_qs_exit <| x_ql_exit <| x_qb_here <| x_qs <| sR <| oP rfl <| bE H fun y129 h130 H => oq rfl (qc rfl fn122 (fun w1 hw1 => impl_distinctWords_ok w1  h130 (rds_own (e := eList (eStr) 9) (r := 0) rfl w1 hw1))) tt2 <| oP rfl <| nT <| xr 2 rfl (by cases H; exact q1)
  ·clear H
   have H := hu30
   clear hu30
   generalize u21 = t29 at H key ⊢
   cases t29
   ·have H := of_if_f rfl H
    refine ow_batch [.fa 48 1 1 fa48_1] rfl <| o1 rfl (r1 1 0 rfl ty23 rfl) <| bE H fun y27 h28 H => oq rfl (qc rfl fn122 (fun w1 hw1 => impl_distinctWords_ok w1  h28 (rds_bor g13 w1 hw1))) tt2 <| oP rfl <| oP rfl <| ?_
    obtain rfl := of_some H
    exact OW.sub key (sb rfl)
   ·have H := of_if_t rfl H
    refine ow_batch [.p, .p, .p, .p, .p] rfl ?_
    obtain rfl := of_some H
    exact OW.sub key (sb rfl)
 ·clear H
  have H := hu25
  clear hu25
  generalize (!y19) = t24 at H key ⊢
  cases t24
  ·have H := of_if_f rfl H
   refine ow_batch [.fa 48 1 1 fa48_1] rfl <| o1 rfl (r1 1 0 rfl ty23 rfl) <| ow_batch [.lenS 23 9 sl23] rfl <| bE H fun y22 h23 H => oq rfl (qc rfl fn84 (fun w1 hw1 => impl_within_ok w1  h23)) tt2 <| oP rfl <| oP rfl <| ?_
   obtain rfl := of_some H
   exact OW.sub key (sb rfl)
  ·have H := of_if_t rfl H
   refine ow_batch [.p, .p, .p, .p, .p, .p] rfl ?_
   obtain rfl := of_some H
   exact OW.sub key (sb rfl)
theorem impl_RuleOk_ok (w : World) {p0 : Timpl_Rule}  {r : Bool} (H : impl_RuleOk p0 = some r)   :
    Calls Tryz.prog 116 #[.agg #[.int .i64 p0.Sure_, .int .i64 p0.Tie_, .int .i64 p0.Grace_, .int .i64 p0.Depth_, .int .i64 p0.Nodes_, .int .i64 p0.Units_, .bool p0.Two_]] w (fun en w' => en = .returned (.bool r) ∧ Ext [] w w') := by
 unfold impl_RuleOk at H
 refine f_enter Tryz.func116 rfl Tryz.ntmps116 rfl (St.init w []) <| sR <| ob _ rfl fun b10 => oP rfl <| nR <| ow_batch [.fa 49 0 0 fa49_0] rfl <| o1 rfl (r1 0 0 rfl ty3 rfl) <| bE H fun y11 h12 H => oq rfl (qc rfl fn84 (fun w1 hw1 => impl_within_ok w1  h12)) tt2 <| oP rfl <| bE H fun u13 hu17 H => ow_cut [(10, .bool u13), (1, .pointer (some ⟨b10, 0, none⟩)), (2, .bool false)] 4 ?_ (fun key => OW.sub (R := [(1, .pointer (some ⟨b10, 0, none⟩)), (2, .bool false), (6, .bool y11)]) ?_ (sb rfl))
 ·refine oP rfl <| bE H fun u18 hu22 H => ow_cut [(15, .bool u18), (1, .pointer (some ⟨b10, 0, none⟩)), (2, .bool false)] 4 ?_ (fun key => OW.sub (R := [(1, .pointer (some ⟨b10, 0, none⟩)), (2, .bool false), (11, .bool u13)]) ?_ (sb rfl))
  ·refine oP rfl <| bE H fun u23 hu27 H => ow_cut [(20, .bool u23), (1, .pointer (some ⟨b10, 0, none⟩)), (2, .bool false)] 4 ?_ (fun key => OW.sub (R := [(1, .pointer (some ⟨b10, 0, none⟩)), (2, .bool false), (16, .bool u18)]) ?_ (sb rfl))
   ·refine oP rfl <| bE H fun u28 hu32 H => ow_cut [(25, .bool u28), (1, .pointer (some ⟨b10, 0, none⟩)), (2, .bool false)] 4 ?_ (fun key => OW.sub (R := [(1, .pointer (some ⟨b10, 0, none⟩)), (2, .bool false), (21, .bool u23)]) ?_ (sb rfl))
    ·refine oP rfl <| bE H fun u33 hu37 H => ow_cut [(30, .bool u33), (2, .bool false)] 4 ?_ (fun key => OW.sub (R := [(1, .pointer (some ⟨b10, 0, none⟩)), (2, .bool false), (26, .bool u28)]) ?_ (sb rfl))
     ·exact oP rfl <| nT <| xr 2 rfl (by cases H; exact q1)
     ·clear H
      have H := hu37
      clear hu37
      generalize u28 = t36 at H key ⊢
      cases t36
      ·have H := of_if_f rfl H
       refine ow_batch [.p, .p, .p, .p] rfl ?_
       obtain rfl := of_some H
       exact OW.sub key (sb rfl)
      ·have H := of_if_t rfl H
       refine ow_batch [.fa 49 5 5 fa49_5] rfl <| o1 rfl (r1 5 0 rfl ty3 rfl) <| bE H fun y34 h35 H => oq rfl (qc rfl fn84 (fun w1 hw1 => impl_within_ok w1  h35)) tt2 <| oP rfl <| ?_
       obtain rfl := of_some H
       exact OW.sub key (sb rfl)
    ·clear H
     have H := hu32
     clear hu32
     generalize u23 = t31 at H key ⊢
     cases t31
     ·have H := of_if_f rfl H
      refine ow_batch [.p, .p, .p, .p] rfl ?_
      obtain rfl := of_some H
      exact OW.sub key (sb rfl)
     ·have H := of_if_t rfl H
      refine ow_batch [.fa 49 4 4 fa49_4] rfl <| o1 rfl (r1 4 0 rfl ty3 rfl) <| bE H fun y29 h30 H => oq rfl (qc rfl fn84 (fun w1 hw1 => impl_within_ok w1  h30)) tt2 <| oP rfl <| ?_
      obtain rfl := of_some H
      exact OW.sub key (sb rfl)
   ·clear H
    have H := hu27
    clear hu27
    generalize u18 = t26 at H key ⊢
    cases t26
    ·have H := of_if_f rfl H
     refine ow_batch [.p, .p, .p, .p] rfl ?_
     obtain rfl := of_some H
     exact OW.sub key (sb rfl)
    ·have H := of_if_t rfl H
     refine ow_batch [.fa 49 3 3 fa49_3] rfl <| o1 rfl (r1 3 0 rfl ty3 rfl) <| bE H fun y24 h25 H => oq rfl (qc rfl fn84 (fun w1 hw1 => impl_within_ok w1  h25)) tt2 <| oP rfl <| ?_
     obtain rfl := of_some H
     exact OW.sub key (sb rfl)
  ·clear H
   have H := hu22
   clear hu22
   generalize u13 = t21 at H key ⊢
   cases t21
   ·have H := of_if_f rfl H
    refine ow_batch [.p, .p, .p, .p] rfl ?_
    obtain rfl := of_some H
    exact OW.sub key (sb rfl)
   ·have H := of_if_t rfl H
    refine ow_batch [.fa 49 2 2 fa49_2] rfl <| o1 rfl (r1 2 0 rfl ty3 rfl) <| bE H fun y19 h20 H => oq rfl (qc rfl fn84 (fun w1 hw1 => impl_within_ok w1  h20)) tt2 <| oP rfl <| ?_
    obtain rfl := of_some H
    exact OW.sub key (sb rfl)
 ·clear H
  have H := hu17
  clear hu17
  generalize y11 = t16 at H key ⊢
  cases t16
  ·have H := of_if_f rfl H
   refine ow_batch [.p, .p, .p, .p] rfl ?_
   obtain rfl := of_some H
   exact OW.sub key (sb rfl)
  ·have H := of_if_t rfl H
   refine ow_batch [.fa 49 1 1 fa49_1] rfl <| o1 rfl (r1 1 0 rfl ty3 rfl) <| bE H fun y14 h15 H => oq rfl (qc rfl fn84 (fun w1 hw1 => impl_within_ok w1  h15)) tt2 <| oP rfl <| ?_
   obtain rfl := of_some H
   exact OW.sub key (sb rfl)
theorem impl_Thresholds_ok (w : World) {M0 : List Nat} {p0 : Int}  {r : (List Int) × Bool} (H : impl_Thresholds p0 = some r) (HS : St w M0 [] w)  :
    Calls Tryz.prog 117 #[.int .i64 p0] w (fun en w' => ∃ v, en = .returned v ∧ ∃ (a0 : Option Addr), ∃ (n0 : Nat), ∃ (c0 : Nat), ∃ (F0 : List Nat), v = .slice a0 n0 c0 ∧ a0.isNone = r.2 ∧ St w M0 [Res.own (eList eI 3) F0 r.1 [.slice a0 n0 c0]] w') := by
 unfold impl_Thresholds at H
 refine f_enter Tryz.func117 rfl Tryz.ntmps117 rfl (HS) <| sR <| oP rfl <| nQ <| c_seq <| sR <| oP rfl <| nQ <| c_block <| sR <| oPP rfl <| nQ <| cI H rfl (fun H => ?_) (fun H => ?_)
 ·exact sR <| ow_blit (val := Value.int .i64) (h1 := fun _ => rfl) [24109, 48218, 60273, 64291, 65296, 65497, 65530] [(0, [.int .i64 24109]), (1, [.int .i64 48218]), (2, [.int .i64 60273]), (3, [.int .i64 64291]), (4, [.int .i64 65296]), (5, [.int .i64 65497]), (6, [.int .i64 65530])] rfl rfl rfl rfl rfl sl39 ty3 rfl rfl rfl ⟨rfl, rfl, Nat.le_of_ble_eq_true rfl, rfl, rfl, Nat.le_of_ble_eq_true rfl, rfl, rfl, Nat.le_of_ble_eq_true rfl, rfl, rfl, Nat.le_of_ble_eq_true rfl, rfl, rfl, Nat.le_of_ble_eq_true rfl, rfl, rfl, Nat.le_of_ble_eq_true rfl, rfl, rfl, Nat.le_of_ble_eq_true rfl,  trivial⟩ rfl rfl (fun _ => kp) fun b10 => oP rfl <| nT <| x_qb_ret <| x_qs_ret <| x_retR (rs := [.tmp 2]) (vs := [.slice (some ⟨b10, 0, none⟩) (([24109, 48218, 60273, 64291, 65296, 65497, 65530] : List Int).length) 7]) rfl ⟨rfl, trivial⟩ (fun w' hw' => by
   obtain rfl := of_some H
   exact ⟨_, rfl, (some ⟨b10, 0, none⟩), (([24109, 48218, 60273, 64291, 65296, 65497, 65530] : List Int).length), 7, [b10], rfl, rfl, hw'.sel [0] rfl rfl⟩)
 ·refine sR <| oPP rfl <| nQ <| cI H rfl (fun H => ?_) (fun H => ?_)
  ·exact sR <| ow_blit (val := Value.int .i64) (h1 := fun _ => rfl) [162, 1137, 4061, 9909, 18681, 29208, 39734] [(0, [.int .i64 162]), (1, [.int .i64 1137]), (2, [.int .i64 4061]), (3, [.int .i64 9909]), (4, [.int .i64 18681]), (5, [.int .i64 29208]), (6, [.int .i64 39734])] rfl rfl rfl rfl rfl sl39 ty3 rfl rfl rfl ⟨rfl, rfl, Nat.le_of_ble_eq_true rfl, rfl, rfl, Nat.le_of_ble_eq_true rfl, rfl, rfl, Nat.le_of_ble_eq_true rfl, rfl, rfl, Nat.le_of_ble_eq_true rfl, rfl, rfl, Nat.le_of_ble_eq_true rfl, rfl, rfl, Nat.le_of_ble_eq_true rfl, rfl, rfl, Nat.le_of_ble_eq_true rfl,  trivial⟩ rfl rfl (fun _ => kp) fun b11 => oP rfl <| nT <| x_qb_ret <| x_qs_ret <| x_retR (rs := [.tmp 2]) (vs := [.slice (some ⟨b11, 0, none⟩) (([162, 1137, 4061, 9909, 18681, 29208, 39734] : List Int).length) 7]) rfl ⟨rfl, trivial⟩ (fun w' hw' => by
    obtain rfl := of_some H
    exact ⟨_, rfl, (some ⟨b11, 0, none⟩), (([162, 1137, 4061, 9909, 18681, 29208, 39734] : List Int).length), 7, [b11], rfl, rfl, hw'.sel [0] rfl rfl⟩)
  ·exact c_skip <| x_qb <| x_qs <| sR <| oP rfl <| nT <| xw_st (fun _ h => St.pushNil (e := eI) (T := 3) h) <| x_retR (rs := [.tmp 2]) (vs := [.slice none 0 0]) rfl ⟨rfl, trivial⟩ (fun w' hw' => by
    obtain rfl := of_some H
    exact ⟨_, rfl, none, 0, 0, [], rfl, rfl, hw'.sel [0] rfl rfl⟩)
theorem impl_ConfOk_ok (w : World) {p0 : Timpl_Conf} {cs0 : List Value} {r : Bool} (H : impl_ConfOk p0 = some r)  (g0 : (eTimpl_Conf).rd w [] p0 cs0) :
    Calls Tryz.prog 79 #[.agg cs0.toArray] w (fun en w' => en = .returned (.bool r) ∧ Ext [] w w') := by
 obtain ⟨c10, c11, c12, c13, c14, c15, c16, rfl, g17, g18, g19, g20, g21, g22, g23⟩ := rdo_Timpl_Conf g0
 obtain ⟨c24, c25, rfl, g26, g27⟩ := rdo_Timpl_Schema g17
 obtain ⟨a28, c29, rfl⟩ := rd_sl1 g26
 obtain ⟨a30, c31, rfl⟩ := rd_sl1 g27
 obtain rfl := g18
 obtain rfl := g19
 obtain rfl := g20
 obtain rfl := g21
 obtain rfl := g22
 obtain rfl := g23
 unfold impl_ConfOk at H
 refine f_enter Tryz.func79 rfl Tryz.ntmps79 rfl (St.init w []) <| sR <| ob _ rfl fun b32 => oP rfl <| nR <| ow_batch [.fa 51 0 0 fa51_0] rfl <| o1 rfl (rx 0 0 _ rfl ty48 rfl) <| bE H fun y33 h34 H => oq rfl (qc rfl fn83 (fun w1 hw1 => impl_SchemaOk_ok w1 h34 (rdm_Timpl_Schema (rds_bor g26 w1 hw1) (rds_bor g27 w1 hw1)))) tt2 <| oP rfl <| bE H fun u35 hu39 H => ow_cut [(10, .bool u35), (1, .pointer (some ⟨b32, 0, none⟩)), (2, .bool false)] 4 ?_ (fun key => OW.sub (R := [(1, .pointer (some ⟨b32, 0, none⟩)), (2, .bool false), (6, .bool y33)]) ?_ (sb rfl))
 ·refine oP rfl <| bE H fun u40 hu44 H => ow_cut [(15, .bool u40), (1, .pointer (some ⟨b32, 0, none⟩)), (2, .bool false)] 4 ?_ (fun key => OW.sub (R := [(1, .pointer (some ⟨b32, 0, none⟩)), (2, .bool false), (11, .bool u35)]) ?_ (sb rfl))
  ·refine oP rfl <| bE H fun u45 hu49 H => ow_cut [(24, .bool u45), (1, .pointer (some ⟨b32, 0, none⟩)), (2, .bool false)] 8 ?_ (fun key => OW.sub (R := [(1, .pointer (some ⟨b32, 0, none⟩)), (2, .bool false), (16, .bool u40)]) ?_ (sb rfl))
   ·refine oP rfl <| bE H fun u50 hu62 H => ow_cut [(30, .bool u50), (1, .pointer (some ⟨b32, 0, none⟩)), (2, .bool false)] 5 ?_ (fun key => OW.sub (R := [(1, .pointer (some ⟨b32, 0, none⟩)), (2, .bool false), (25, .bool u45)]) ?_ (sb rfl))
    ·refine oP rfl <| bE H fun u63 hu67 H => ow_cut [(35, .bool u63), (1, .pointer (some ⟨b32, 0, none⟩)), (2, .bool false)] 4 ?_ (fun key => OW.sub (R := [(1, .pointer (some ⟨b32, 0, none⟩)), (2, .bool false), (31, .bool u50)]) ?_ (sb rfl))
     ·refine oP rfl <| bE H fun u68 hu72 H => ow_cut [(40, .bool u68), (1, .pointer (some ⟨b32, 0, none⟩)), (2, .bool false)] 4 ?_ (fun key => OW.sub (R := [(1, .pointer (some ⟨b32, 0, none⟩)), (2, .bool false), (36, .bool u63)]) ?_ (sb rfl))
      ·refine oP rfl <| ow_cut [(47, .bool (u68 && (decide (p0.Warn_ ≤ p0.Drift_)))), (2, .bool false)] 6 ?_ (fun key => OW.sub (R := [(1, .pointer (some ⟨b32, 0, none⟩)), (2, .bool false), (41, .bool u68)]) ?_ (sb rfl))
       ·exact oP rfl <| nT <| xr 2 rfl (by cases H; exact q1)
       ·generalize u68 = t74 at key ⊢
        cases t74
        ·exact ow_batch [.p, .p, .p, .p, .p, .p] rfl <| OW.sub key (sb rfl)
        ·exact ow_batch [.fa 51 5 12 fa51_5] rfl <| o1 rfl (r1 12 0 rfl ty3 rfl) <| ow_batch [.fa 51 6 13 fa51_6] rfl <| o1 rfl (r1 13 0 rfl ty3 rfl) <| oP rfl <| oP rfl <| OW.sub key (sb rfl)
      ·clear H
       have H := hu72
       clear hu72
       generalize u63 = t71 at H key ⊢
       cases t71
       ·have H := of_if_f rfl H
        refine ow_batch [.p, .p, .p, .p] rfl ?_
        obtain rfl := of_some H
        exact OW.sub key (sb rfl)
       ·have H := of_if_t rfl H
        refine ow_batch [.fa 51 6 13 fa51_6] rfl <| o1 rfl (r1 13 0 rfl ty3 rfl) <| bE H fun y69 h70 H => oq rfl (qc rfl fn84 (fun w1 hw1 => impl_within_ok w1  h70)) tt2 <| oP rfl <| ?_
        obtain rfl := of_some H
        exact OW.sub key (sb rfl)
     ·clear H
      have H := hu67
      clear hu67
      generalize u50 = t66 at H key ⊢
      cases t66
      ·have H := of_if_f rfl H
       refine ow_batch [.p, .p, .p, .p] rfl ?_
       obtain rfl := of_some H
       exact OW.sub key (sb rfl)
      ·have H := of_if_t rfl H
       refine ow_batch [.fa 51 5 12 fa51_5] rfl <| o1 rfl (r1 12 0 rfl ty3 rfl) <| bE H fun y64 h65 H => oq rfl (qc rfl fn84 (fun w1 hw1 => impl_within_ok w1  h65)) tt2 <| oP rfl <| ?_
       obtain rfl := of_some H
       exact OW.sub key (sb rfl)
    ·clear H
     have H := hu62
     clear hu62
     generalize u45 = t61 at H key ⊢
     cases t61
     ·have H := of_if_f rfl H
      refine ow_batch [.p, .p, .p, .p, .p] rfl ?_
      obtain rfl := of_some H
      exact OW.sub key (sb rfl)
     ·have H := of_if_t rfl H
      refine ow_batch [.fa 51 4 11 fa51_4] rfl <| o1 rfl (r1 11 0 rfl ty3 rfl) <| bE H fun y51 h52 H => ow_callS rfl fn117 rfl rfl rfl rfl (fun w1 hw1 => impl_Thresholds_ok w1  h52 (hw1.carve [] rfl rfl)) fun v53 w1 w2 hw1 hR55 => ?_
      obtain ⟨a56, n57, c58, F59, rfl, hz60, hS54⟩ := hR55
      obtain rfl := own_nS (i := 0) hS54 rfl
      refine ⟨St w [] [_, _], hw1.comp [] rfl rfl hS54, fun _ _ => trivial, ?_⟩
      refine o1 rfl (ry_nnilB rfl rfl sl39 hz60) <| ow_st rfl (C' := St w [] [_]) (fun _ h => St.sel [0] rfl rfl h) <| oP rfl <| ?_
      obtain rfl := of_some H
      exact OW.sub key (sb rfl)
   ·clear H
    have H := hu49
    clear hu49
    generalize u40 = t48 at H key ⊢
    cases t48
    ·have H := of_if_f rfl H
     refine ow_batch [.p, .p, .p, .p, .p, .p, .p, .p] rfl ?_
     obtain rfl := of_some H
     exact OW.sub key (sb rfl)
    ·have H := of_if_t rfl H
     refine ow_batch [.fa 51 3 10 fa51_3] rfl <| o1 rfl (r1 10 0 rfl ty3 rfl) <| ow_batch [.fa 51 0 0 fa51_0, .fa 48 0 0 fa48_0] rfl <| o1 rfl (r1 0 0 rfl ty46 rfl) <| ow_batch [.lenS 46 133 sl46] rfl <| bE H fun y46 h47 H => oq rfl (qc rfl fn84 (fun w1 hw1 => impl_within_ok w1  h47)) tt2 <| oP rfl <| ?_
     obtain rfl := of_some H
     exact OW.sub key (sb rfl)
  ·clear H
   have H := hu44
   clear hu44
   generalize u35 = t43 at H key ⊢
   cases t43
   ·have H := of_if_f rfl H
    refine ow_batch [.p, .p, .p, .p] rfl ?_
    obtain rfl := of_some H
    exact OW.sub key (sb rfl)
   ·have H := of_if_t rfl H
    refine ow_batch [.fa 51 2 9 fa51_2] rfl <| o1 rfl (r1 9 0 rfl ty3 rfl) <| bE H fun y41 h42 H => oq rfl (qc rfl fn84 (fun w1 hw1 => impl_within_ok w1  h42)) tt2 <| oP rfl <| ?_
    obtain rfl := of_some H
    exact OW.sub key (sb rfl)
 ·clear H
  have H := hu39
  clear hu39
  generalize y33 = t38 at H key ⊢
  cases t38
  ·have H := of_if_f rfl H
   refine ow_batch [.p, .p, .p, .p] rfl ?_
   obtain rfl := of_some H
   exact OW.sub key (sb rfl)
  ·have H := of_if_t rfl H
   refine ow_batch [.fa 51 1 2 fa51_1] rfl <| o1 rfl (rx 2 0 _ rfl ty49 rfl) <| bE H fun y36 h37 H => oq rfl (qc rfl fn116 (fun w1 hw1 => impl_RuleOk_ok w1 (p0 := p0.Rule_) h37)) tt2 <| oP rfl <| ?_
   obtain rfl := of_some H
   exact OW.sub key (sb rfl)
theorem impl_weights_1_ok (w : World) {p0 : Int}  {r : Bool} (H : impl_weights_1 p0 = some r)   :
    Calls Tryz.prog 196 #[.int .i64 p0] w (fun en w' => en = .returned (.bool r) ∧ Ext [] w w') := by
 unfold impl_weights_1 at H
 exact f_enter Tryz.func196 rfl Tryz.ntmps196 rfl (St.init w []) <| sR <| oP rfl <| nR <| oP rfl <| bE H fun y10 h11 H => oq rfl (qc rfl fn84 (fun w1 hw1 => impl_within_ok w1  h11)) tt2 <| oPP rfl <| nT <| xr 2 rfl (by cases H; exact q1)
theorem lib_slices_IndexFunc___int_int___impl_weights_1_ok (w : World) {p0 : List Int} {a_0 : Option Addr} {n_0 c_0 : Nat} {r : Int} (H : lib_slices_IndexFunc___int_int___impl_weights_1 p0 = some r)  (g0 : (eList eI 3).rd w [] p0 [.slice a_0 n_0 c_0]) :
    Calls Tryz.prog 188 #[.slice a_0 n_0 c_0, .func (.func 196) #[] #[]] w (fun en w' => en = .returned (.int .i64 r) ∧ Ext [] w w') := by
 obtain rfl := rd_n g0
 unfold lib_slices_IndexFunc___int_int___impl_weights_1 at H
 refine f_enter Tryz.func188 rfl Tryz.ntmps188 rfl (St.init w []) <| sR <| oP rfl <| nQ <| c_seq <| sR <| ow_batch [.p, .lenS 39 3 sl39, .p] rfl <| nQ <| c_block <| CW.at (loopI1 (fun (i15 : Int) => St w [] []) (fun i15 => [(0, .slice a_0 p0.length c_0), (1, .func (.func 196) #[] #[]), (7, .int .i64 (p0.length : Int)), (8, .int .i64 i15)]) (fun kk => fun i15 => lib_slices_IndexFunc___int_int___impl_weights_1_L1 p0 kk i15 = some r) (fun _ H => ?_) (fun k1 ihk1 i15 H => ?_) Fuel (0) (H)) (fun _ h => St.sel [] rfl rfl h) ⟨rfl, rfl, rfl, rfl,  trivial⟩
 ·unfold lib_slices_IndexFunc___int_int___impl_weights_1_L1 at H
  exact absurd H (by simp)
 ·unfold lib_slices_IndexFunc___int_int___impl_weights_1_L1 at H
  refine sR <| oP rfl <| nQ <| c_seq <| cI H rfl (fun H => ?_) (fun H => ?_)
  ·refine c_skip <| x_qs <| c_seq <| c_block <| sR <| oPP rfl <| nR <| ow_batch [.p, .p, .p] rfl <| bE H fun e21 h22 H => ow_ixE (e := eI) (xs := p0) (j := i15) rfl rfl rfl rfl rfl sl39 ty3 rfl (fun w1 hw1 => rds_bor g0 w1 hw1) h22 (by rw [Nat.mul_one]) <| o1 rfl (ry_load1 rfl rfl ty3 (at_elV (fun w1 hw1 => rds_bor g0 w1 hw1) h22)) <| bE H fun y23 h24 H => ow_q rfl rfl (dstOk_lt rfl) (qy_callV (cap := []) rfl fn196 rfl rfl (fun w1 hw1 => impl_weights_1_ok w1  h24)) (fun _ _ => trivial) <| nQ <| cI H rfl (fun H => ?_) (fun H => ?_)
   ·exact sR <| oPP rfl <| nT <| x_qb_ret <| x_qs_ret <| x_ql_ret <| x_qb_ret <| x_qs_ret <| xr 4 rfl (by cases H; exact q1)
   ·exact c_skip <| x_qb <| x_qs <| c_reg <| oPP rfl <| ow_nil <| x_ql (RW.at (ihk1 (IntKind.i64.wrap (i15 + 1)) (H)) (fun _ h => St.sel [] rfl rfl h) ⟨rfl, rfl, rfl, rfl, trivial⟩)
  ·exact c_exit <| x_qs_exit <| x_ql_exit <| x_qb_here <| x_qs <| sR <| oP rfl <| nT <| xr 4 rfl (by cases H; exact q1)
theorem lib_slices_ContainsFunc___int_int___impl_weights_1_ok (w : World) {p0 : List Int} {a_0 : Option Addr} {n_0 c_0 : Nat} {r : Bool} (H : lib_slices_ContainsFunc___int_int___impl_weights_1 p0 = some r)  (g0 : (eList eI 3).rd w [] p0 [.slice a_0 n_0 c_0]) :
    Calls Tryz.prog 167 #[.slice a_0 n_0 c_0, .func (.func 196) #[] #[]] w (fun en w' => en = .returned (.bool r) ∧ Ext [] w w') := by
 obtain rfl := rd_n g0
 unfold lib_slices_ContainsFunc___int_int___impl_weights_1 at H
 exact f_enter Tryz.func167 rfl Tryz.ntmps167 rfl (St.init w []) <| sR <| oP rfl <| nR <| oPP rfl <| bE H fun y10 h11 H => oq rfl (qc rfl fn188 (fun w1 hw1 => lib_slices_IndexFunc___int_int___impl_weights_1_ok w1  h11 (rds_bor g0 w1 hw1))) tt2 <| oPP rfl <| nT <| xr 4 rfl (by cases H; exact q1)
theorem impl_weights_ok (w : World) {p0 : List Int} {p1 : Int} {a_0 : Option Addr} {n_0 c_0 : Nat} {r : Bool} (H : impl_weights p0 p1 = some r)  (g0 : (eList eI 3).rd w [] p0 [.slice a_0 n_0 c_0]) :
    Calls Tryz.prog 193 #[.slice a_0 n_0 c_0, .int .i64 p1] w (fun en w' => en = .returned (.bool r) ∧ Ext [] w w') := by
 obtain rfl := rd_n g0
 unfold impl_weights at H
 refine f_enter Tryz.func193 rfl Tryz.ntmps193 rfl (St.init w []) <| sR <| oP rfl <| nR <| ow_batch [.p, .lenS 39 3 sl39, .p, .p, .p] rfl <| bE H fun u10 hu14 H => ow_cut [(13, .bool u10), (4, .bool false)] 4 ?_ (fun key => OW.sub (R := [(0, .slice a_0 p0.length c_0), (4, .bool false), (9, .bool ((p0.length : Int) == p1))]) ?_ (sb rfl))
 ·exact oP rfl <| nT <| xr 4 rfl (by cases H; exact q1)
 ·clear H
  have H := hu14
  clear hu14
  generalize ((p0.length : Int) == p1) = t13 at H key ⊢
  cases t13
  ·have H := of_if_f rfl H
   refine ow_batch [.p, .p, .p, .p] rfl ?_
   obtain rfl := of_some H
   exact OW.sub key (sb rfl)
  ·have H := of_if_t rfl H
   refine oP rfl <| bE H fun y11 h12 H => oq rfl (qc rfl fn167 (fun w1 hw1 => lib_slices_ContainsFunc___int_int___impl_weights_1_ok w1  h12 (rds_bor g0 w1 hw1))) tt2 <| oP rfl <| oP rfl <| ?_
   obtain rfl := of_some H
   exact OW.sub key (sb rfl)
theorem impl_total_ok (w : World) {p0 : List Int} {a_0 : Option Addr} {n_0 c_0 : Nat} {r : Int} (H : impl_total p0 = some r)  (g0 : (eList eI 3).rd w [] p0 [.slice a_0 n_0 c_0]) :
    Calls Tryz.prog 125 #[.slice a_0 n_0 c_0] w (fun en w' => en = .returned (.int .i64 r) ∧ Ext [] w w') := by
 obtain rfl := rd_n g0
 unfold impl_total at H
 refine f_enter Tryz.func125 rfl Tryz.ntmps125 rfl (St.init w []) <| sR <| oP rfl <| nR <| oP rfl <| nQ <| c_seq <| sR <| ow_batch [.p, .lenS 39 3 sl39, .p] rfl <| nQ <| c_block <| CW.at (loopI2 (fun (i14 : Int) (i15 : Int) => St w [] []) (fun i14 i15 => [(3, .int .i64 i14), (6, .slice a_0 p0.length c_0), (7, .int .i64 (p0.length : Int)), (8, .int .i64 i15)]) (fun kk => fun i14 i15 => impl_total_L1 p0 kk i14 i15 = some r) (fun _ _ H => ?_) (fun k1 ihk1 i14 i15 H => ?_) Fuel (0) (0) (H)) (fun _ h => St.sel [] rfl rfl h) ⟨rfl, rfl, rfl, rfl,  trivial⟩
 ·unfold impl_total_L1 at H
  exact absurd H (by simp)
 ·unfold impl_total_L1 at H
  refine sR <| oP rfl <| nQ <| c_seq <| cI H rfl (fun H => ?_) (fun H => ?_)
  ·exact c_skip <| x_qs <| c_seq <| c_block <| sR <| bE H fun e20 h21 H => ow_ixE (e := eI) (xs := p0) (j := i15) rfl rfl rfl rfl rfl sl39 ty3 rfl (fun w1 hw1 => rds_bor g0 w1 hw1) h21 (by rw [Nat.mul_one]) <| o1 rfl (ry_load1 rfl rfl ty3 (at_elV (fun w1 hw1 => rds_bor g0 w1 hw1) h21)) <| oP rfl <| nQ <| c_reg <| ow_batch [.p, .p, .p, .p] rfl <| ow_nil <| x_qb <| x_qs <| c_reg <| oPP rfl <| ow_nil <| x_ql (RW.at (ihk1 (IntKind.i64.wrap (i14 + e20)) (IntKind.i64.wrap (i15 + 1)) (H)) (fun _ h => St.sel [] rfl rfl h) ⟨rfl, rfl, rfl, rfl, trivial⟩)
  ·exact c_exit <| x_qs_exit <| x_ql_exit <| x_qb_here <| x_qs <| sR <| oPP rfl <| nT <| xr 2 rfl (by cases H; exact q1)
theorem impl_bins_ok (w : World) {p0 : Timpl_Attr} {cs0 : List Value} {r : Int} (H : impl_bins p0 = some r)  (g0 : (eTimpl_Attr).rd w [] p0 cs0) :
    Calls Tryz.prog 85 #[.agg cs0.toArray] w (fun en w' => en = .returned (.int .i64 r) ∧ Ext [] w w') := by
 obtain ⟨c10, c11, c12, rfl, g13, g14, g15⟩ := rdo_Timpl_Attr g0
 obtain rfl := g13
 obtain ⟨a16, c17, rfl⟩ := rd_sl1 g14
 obtain ⟨a18, c19, rfl⟩ := rd_sl1 g15
 unfold impl_bins at H
 refine f_enter Tryz.func85 rfl Tryz.ntmps85 rfl (St.init w []) <| sR <| ob _ rfl fun b20 => oP rfl <| nQ <| c_seq <| sR <| ow_batch [.fa 133 1 1 fa133_1] rfl <| o1 rfl (r1 1 0 rfl ty39 rfl) <| ow_batch [.lenS 39 3 sl39, .p] rfl <| nQ <| cI H rfl (fun H => ?_) (fun H => ?_)
 ·exact sR <| ow_batch [.fa 133 1 1 fa133_1] rfl <| o1 rfl (r1 1 0 rfl ty39 rfl) <| ow_batch [.lenS 39 3 sl39, .p, .p] rfl <| nT <| x_qs_ret <| xr 2 rfl (by cases H; exact q1)
 ·exact c_skip <| x_qs <| sR <| ow_batch [.fa 133 2 2 fa133_2] rfl <| o1 rfl (r1 2 0 rfl ty23 rfl) <| ow_batch [.lenS 23 9 sl23, .p] rfl <| nT <| xr 2 rfl (by cases H; exact q1)
theorem impl_zeros_ok (w : World) {M0 : List Nat} {p0 : Int}  {r : List Int} (H : impl_zeros p0 = some r) (HS : St w M0 [] w)  :
    Calls Tryz.prog 87 #[.int .i64 p0] w (fun en w' => ∃ v, en = .returned v ∧ ∃ (a0 : Option Addr), ∃ (n0 : Nat), ∃ (c0 : Nat), ∃ (F0 : List Nat), v = .slice a0 n0 c0 ∧ St w M0 [Res.own (eList eI 3) F0 r [.slice a0 n0 c0]] w') := by
 unfold impl_zeros at H
 exact f_enter Tryz.func87 rfl Tryz.ntmps87 rfl (HS) <| sR <| oP rfl <| nR <| oP rfl <| bE H fun l10 h11 H => ow_make (e := eI) (zero := (0 : Int)) rfl rfl rfl rfl rfl rfl sl39 ty3 rfl rfl rfl rfl (fun _ => ⟨rfl, rfl⟩) h11 (fun _ => kp) fun b12 => oP rfl <| nT <| x_retR (rs := [.tmp 2]) (vs := [.slice (some ⟨b12, 0, none⟩) l10.length l10.length]) rfl ⟨rfl, trivial⟩ (fun w' hw' => by
  obtain rfl := of_some H
  exact ⟨_, rfl, (some ⟨b12, 0, none⟩), l10.length, l10.length, [b12], rfl, hw'.sel [0] rfl rfl⟩)
theorem impl_StatsOk_ok (w : World) {p0 : Timpl_Schema} {p1 : Timpl_Stats} {cs0 : List Value} {cs1 : List Value} {r : Bool} (H : impl_StatsOk p0 p1 = some r)  (g0 : (eTimpl_Schema).rd w [] p0 cs0) (g1 : (eTimpl_Stats).rd w [] p1 cs1) :
    Calls Tryz.prog 184 #[.agg cs0.toArray, .agg cs1.toArray] w (fun en w' => en = .returned (.bool r) ∧ Ext [] w w') := by
 obtain ⟨c10, c11, rfl, g12, g13⟩ := rdo_Timpl_Schema g0
 obtain ⟨a14, c15, rfl⟩ := rd_sl1 g12
 obtain ⟨a16, c17, rfl⟩ := rd_sl1 g13
 obtain ⟨c18, c19, rfl, g20, g21⟩ := rdo_Timpl_Stats g1
 obtain ⟨a22, c23, rfl⟩ := rd_sl1 g20
 obtain ⟨a24, c25, rfl⟩ := rd_sl1 g21
 unfold impl_StatsOk at H
 refine f_enter Tryz.func184 rfl Tryz.ntmps184 rfl (St.init w []) <| sR <| ob _ rfl fun b26 => ob _ rfl fun b27 => oP rfl <| nR <| ow_batch [.fa 48 1 1 fa48_1] rfl <| o1 rfl (r1 1 0 rfl ty23 rfl) <| ow_batch [.lenS 23 9 sl23, .p] rfl <| nQ <| c_seq <| sR <| o1 rfl (rx 0 0 _ rfl ty48 rfl) <| bE H fun y28 h29 H => oq rfl (qc rfl fn83 (fun w1 hw1 => impl_SchemaOk_ok w1 h29 (rdm_Timpl_Schema (rds_bor g12 w1 hw1) (rds_bor g13 w1 hw1)))) tt2 <| oPP rfl <| bE H fun u30 hu34 H => ow_cut [(23, .bool u30), (2, .pointer (some ⟨b26, 0, none⟩)), (3, .pointer (some ⟨b27, 0, none⟩)), (5, .int .i64 (p0.Classes_.length : Int))] 6 ?_ (fun key => OW.sub (R := [(2, .pointer (some ⟨b26, 0, none⟩)), (3, .pointer (some ⟨b27, 0, none⟩)), (5, .int .i64 (p0.Classes_.length : Int)), (17, .bool (!y28))]) ?_ (sb rfl))
 ·refine oP rfl <| bE H fun u35 hu39 H => ow_cut [(29, .bool u35), (2, .pointer (some ⟨b26, 0, none⟩)), (3, .pointer (some ⟨b27, 0, none⟩)), (5, .int .i64 (p0.Classes_.length : Int))] 5 ?_ (fun key => OW.sub (R := [(2, .pointer (some ⟨b26, 0, none⟩)), (3, .pointer (some ⟨b27, 0, none⟩)), (5, .int .i64 (p0.Classes_.length : Int)), (24, .bool u30)]) ?_ (sb rfl))
  ·refine nQ <| cI H rfl (fun H => ?_) (fun H => ?_)
   ·exact sR <| oP rfl <| nT <| x_qs_ret <| xr 4 rfl (by cases H; exact q1)
   ·refine c_skip <| x_qs <| c_seq <| sR <| ow_batch [.fa 167 1 1 fa167_1] rfl <| o1 rfl (r1 1 1 rfl ty33 rfl) <| ow_batch [.lenS 33 39 sl33, .p] rfl <| nQ <| cI H rfl (fun H => ?_) (fun H => ?_)
    ·exact sR <| oP rfl <| nT <| x_qs_ret <| xr 4 rfl (by cases H; exact q1)
    ·refine c_skip <| x_qs <| c_seq <| sR <| ow_batch [.fa 167 1 1 fa167_1] rfl <| o1 rfl (r1 1 1 rfl ty33 rfl) <| ow_batch [.lenS 33 39 sl33, .fa 48 0 0 fa48_0] rfl <| o1 rfl (r1 0 0 rfl ty46 rfl) <| ow_batch [.lenS 46 133 sl46, .p] rfl <| nQ <| cI H rfl (fun H => ?_) (fun H => ?_)
     ·exact sR <| oP rfl <| nT <| x_qs_ret <| xr 4 rfl (by cases H; exact q1)
     ·refine c_skip <| x_qs <| c_seq <| sR <| ow_batch [.fa 167 1 1 fa167_1] rfl <| o1 rfl (r1 1 1 rfl ty33 rfl) <| ow_batch [.lenS 33 39 sl33, .p] rfl <| nQ <| c_block <| CW.at (loopI1 (fun (i132 : Int) => St w [] [Res.box b26 48 [.slice a14 p0.Attrs_.length c15, .slice a16 p0.Classes_.length c17], Res.box b27 167 [.slice a22 p1.Totals_.length c23, .slice a24 p1.Cells_.length c25]]) (fun i132 => [(2, .pointer (some ⟨b26, 0, none⟩)), (3, .pointer (some ⟨b27, 0, none⟩)), (5, .int .i64 (p0.Classes_.length : Int)), (42, .slice a24 p1.Cells_.length c25), (43, .int .i64 (p1.Cells_.length : Int)), (44, .int .i64 i132)]) (fun kk => fun i132 => impl_StatsOk_L1 p1 p0 kk i132 = some r) (fun _ H => ?_) (fun k1 ihk1 i132 H => ?_) Fuel (0) (H)) (fun _ h => St.sel [0, 1] rfl rfl h) ⟨rfl, rfl, rfl, rfl, rfl, rfl,  trivial⟩
      ·unfold impl_StatsOk_L1 at H
       exact absurd H (by simp)
      ·unfold impl_StatsOk_L1 at H
       refine sR <| oP rfl <| nQ <| c_seq <| cI H rfl (fun H => ?_) (fun H => ?_)
       ·refine c_skip <| x_qs <| c_seq <| c_block <| sR <| oP rfl <| bE H fun e225 h226 H => ow_ixB rfl rfl rfl rfl rfl sl33 ty39 rfl g21 h226 fun q229 c230 hd227 hA228 => ?_
        obtain ⟨a231, c232, rfl⟩ := rd_sl1 hd227
        refine o1 rfl (ry_load1 rfl rfl ty39 (at_bor bor hA228)) <| oPP rfl <| nQ <| c_seq <| sR <| ow_batch [.p, .fa 48 0 0 fa48_0] rfl <| o1 rfl (r1 0 0 rfl ty46 rfl) <| oP rfl <| bE H fun e233 h234 H => ow_ixB rfl rfl rfl rfl rfl sl46 ty133 rfl g12 h234 fun q237 c238 hd235 hA236 => ?_
        obtain ⟨c239, c240, c241, rfl, g242, g243, g244⟩ := rdo_Timpl_Attr hd235
        obtain rfl := g242
        obtain ⟨a245, c246, rfl⟩ := rd_sl1 g243
        obtain ⟨a247, c248, rfl⟩ := rd_sl1 g244
        refine o1 rfl (ry_load (cs := [vS e233.Name_, .slice a245 e233.Cuts_.length c246, .slice a247 e233.Values_.length c248]) rfl rfl ty133 (at_bor bor hA236) rfl) <| bE H fun y249 h250 H => oq rfl (qc rfl fn85 (fun w1 hw1 => impl_bins_ok w1 h250 (rdm_Timpl_Attr rfl (rds_bor g243 w1 hw1) (rds_bor g244 w1 hw1)))) tt2 <| oPP rfl <| bE H fun y251 h252 H => oq rfl (qc rfl fn193 (fun w1 hw1 => impl_weights_ok w1  h252 (rds_bor hd227 w1 hw1))) tt2 <| oP rfl <| nQ <| cI H rfl (fun H => ?_) (fun H => ?_)
        ·exact sR <| oP rfl <| nT <| x_qs_ret <| x_qb_ret <| x_qs_ret <| x_ql_ret <| x_qb_ret <| x_qs_ret <| xr 4 rfl (by cases H; exact q1)
        ·refine c_skip <| x_qs <| sR <| oP rfl <| bE H fun y253 h254 H => ow_callS rfl fn87 rfl rfl rfl rfl (fun w1 hw1 => impl_zeros_ok w1  h254 (hw1.carve [] rfl rfl)) fun v255 w1 w2 hw1 hR257 => ?_
         obtain ⟨a258, n259, c260, F261, rfl, hS256⟩ := hR257
         obtain rfl := own_nS (i := 0) hS256 rfl
         refine ⟨St w [] [_, _, _], hw1.comp [] rfl rfl hS256, fun _ _ => trivial, ?_⟩
         refine oP rfl <| nR <| ow_batch [.p, .lenS 39 3 sl39, .p] rfl <| nQ <| c_block <| CW.at (loopI2 (fun (i280 : Int) (l281 : List Int) => St w [] [Res.box b26 48 [.slice a14 p0.Attrs_.length c15, .slice a16 p0.Classes_.length c17], Res.box b27 167 [.slice a22 p1.Totals_.length c23, .slice a24 p1.Cells_.length c25], Res.own (eList eI 3) F261 l281 [.slice a258 y253.length c260]]) (fun i280 l281 => [(2, .pointer (some ⟨b26, 0, none⟩)), (3, .pointer (some ⟨b27, 0, none⟩)), (5, .int .i64 (p0.Classes_.length : Int)), (8, .slice a258 y253.length c260), (42, .slice a24 p1.Cells_.length c25), (43, .int .i64 (p1.Cells_.length : Int)), (44, .int .i64 i132), (62, .slice a231 e225.length c232), (63, .int .i64 (e225.length : Int)), (64, .int .i64 i280)]) (fun kk => fun i280 l281 => impl_StatsOk_L2 e225 p0 p1 (impl_StatsOk_L1 p1 p0 k1) i132 kk i280 l281 = some r) (fun _ _ H => ?_) (fun k2 ihk2 i280 l281 H => ?_) Fuel (0) (y253) (H)) (fun _ h => St.sel [0, 1, 2] rfl rfl h) ⟨rfl, rfl, rfl, rfl, rfl, rfl, rfl, rfl, rfl, rfl,  trivial⟩
         ·unfold impl_StatsOk_L2 at H
          exact absurd H (by simp)
         ·unfold impl_StatsOk_L2 at H
          refine sR <| oP rfl <| nQ <| c_seq <| cI H rfl (fun H => ?_) (fun H => ?_)
          ·refine c_skip <| x_qs <| c_seq <| c_block <| sR <| oP rfl <| bE H fun e300 h301 H => ow_ixE (e := eI) (xs := e225) (j := i280) rfl rfl rfl rfl rfl sl39 ty3 rfl (fun w1 hw1 => rds_bor hd227 w1 hw1) h301 (by rw [Nat.mul_one]) <| o1 rfl (ry_load1 rfl rfl ty3 (at_elV (fun w1 hw1 => rds_bor hd227 w1 hw1) h301)) <| oPP rfl <| nR <| ow_batch [.p, .p, .p] rfl <| bE H fun x302 h303 H => o1 rfl (ry_rem rfl rfl rfl h303) <| bE H fun e304 h305 H => ow_ixE (e := eI) (xs := l281) (j := x302) rfl rfl rfl rfl rfl sl39 ty3 rfl (fun w1 hw1 => rds_own (e := eList eI 3) (r := 2) rfl w1 hw1) h305 (by rw [Nat.mul_one]) <| o1 rfl (ry_load1 rfl rfl ty3 (at_elV (fun w1 hw1 => rds_own (e := eList eI 3) (r := 2) rfl w1 hw1) h305)) <| oPP rfl <| bE H fun e306 h307 H => ow_ixE (e := eI) (xs := l281) (j := x302) rfl rfl rfl rfl rfl sl39 ty3 rfl (fun w1 hw1 => rds_own (e := eList eI 3) (r := 2) rfl w1 hw1) h307 (by rw [Nat.mul_one]) <| ow_storeV (i := 2) (j := x302) rfl rfl rfl rfl rfl rfl ty3 rfl h307 (fun _ => rfl) kp <| nQ <| c_seq <| c_regQ mixed (by kernel_rfl) <| ow_batch [.p, .p, .p] rfl <| bE H fun x308 h309 H => o1 rfl (ry_rem rfl rfl rfl h309) <| bE H fun e310 h311 H => ow_ixE (e := eI) (xs := (l281.set x302.toNat (IntKind.i64.wrap (e304 + e300)))) (j := x308) rfl rfl rfl rfl rfl sl39 ty3 rfl (fun w1 hw1 => rds_own (e := eList eI 3) (r := 2) rfl w1 hw1) h311 (by rw [Nat.mul_one]) <| o1 rfl (ry_load1 rfl rfl ty3 (at_elV (fun w1 hw1 => rds_own (e := eList eI 3) (r := 2) rfl w1 hw1) h311)) <| ow_batch [.fa 167 0 0 fa167_0] rfl <| o1 rfl (r1 0 1 rfl ty39 rfl) <| oPP rfl <| bE H fun x312 h313 H => o1 rfl (ry_rem rfl rfl rfl h313) <| ?_
           refine bE H fun e314 h315 H => ow_ixE (e := eI) (xs := p1.Totals_) (j := x312) rfl rfl rfl rfl rfl sl39 ty3 rfl (fun w1 hw1 => rds_bor g20 w1 hw1) h315 (by rw [Nat.mul_one]) <| o1 rfl (ry_load1 rfl rfl ty3 (at_elV (fun w1 hw1 => rds_bor g20 w1 hw1) h315)) <| oP rfl <| ow_nilQ <| x_qs <| cI H rfl (fun H => ?_) (fun H => ?_)
           ·exact sR <| oP rfl <| nT <| x_qb_ret <| x_qs_ret <| x_ql_ret <| x_qb_ret <| x_qb_ret <| x_qs_ret <| x_ql_ret <| x_qb_ret <| x_qs_ret <| xr 4 rfl (by cases H; exact q1)
           ·exact c_skip <| x_qb <| x_qs <| c_reg <| oPP rfl <| ow_nil <| x_ql (RW.at (ihk2 (IntKind.i64.wrap (i280 + 1)) ((l281.set x302.toNat (IntKind.i64.wrap (e304 + e300)))) (H)) (fun _ h => St.sel [0, 1, 2] rfl rfl h) ⟨rfl, rfl, rfl, rfl, rfl, rfl, rfl, rfl, rfl, rfl, trivial⟩)
          ·exact c_exit <| x_qs_exit <| x_ql_exit <| x_qb_here <| x_qb <| x_qs <| c_reg <| oPP rfl <| ow_nil <| x_ql (RW.at (ihk1 (IntKind.i64.wrap (i132 + 1)) (H)) (fun _ h => St.sel [0, 1] rfl rfl h) ⟨rfl, rfl, rfl, rfl, rfl, rfl, trivial⟩)
       ·exact c_exit <| x_qs_exit <| x_ql_exit <| x_qb_here <| x_qs <| sR <| oP rfl <| nT <| xr 4 rfl (by cases H; exact q1)
  ·clear H
   have H := hu39
   clear hu39
   generalize u30 = t38 at H key ⊢
   cases t38
   ·have H := of_if_f rfl H
    refine ow_batch [.fa 167 0 0 fa167_0] rfl <| o1 rfl (r1 0 1 rfl ty39 rfl) <| bE H fun y36 h37 H => oq rfl (qc rfl fn125 (fun w1 hw1 => impl_total_ok w1  h37 (rds_bor g20 w1 hw1))) tt2 <| oP rfl <| oP rfl <| ?_
    obtain rfl := of_some H
    exact OW.sub key (sb rfl)
   ·have H := of_if_t rfl H
    refine ow_batch [.p, .p, .p, .p, .p] rfl ?_
    obtain rfl := of_some H
    exact OW.sub key (sb rfl)
 ·clear H
  have H := hu34
  clear hu34
  generalize (!y28) = t33 at H key ⊢
  cases t33
  ·have H := of_if_f rfl H
   refine ow_batch [.fa 167 0 0 fa167_0] rfl <| o1 rfl (r1 0 1 rfl ty39 rfl) <| oP rfl <| bE H fun y31 h32 H => oq rfl (qc rfl fn193 (fun w1 hw1 => impl_weights_ok w1  h32 (rds_bor g20 w1 hw1))) tt2 <| oP rfl <| oP rfl <| ?_
   obtain rfl := of_some H
   exact OW.sub key (sb rfl)
  ·have H := of_if_t rfl H
   refine ow_batch [.p, .p, .p, .p, .p, .p] rfl ?_
   obtain rfl := of_some H
   exact OW.sub key (sb rfl)
theorem impl_AttrsOk_ok (w : World) {p0 : Timpl_Schema} {p1 : List Int} {cs0 : List Value} {a_1 : Option Addr} {n_1 c_1 : Nat} {r : Bool} (H : impl_AttrsOk p0 p1 = some r)  (g0 : (eTimpl_Schema).rd w [] p0 cs0) (g1 : (eList eI 3).rd w [] p1 [.slice a_1 n_1 c_1]) :
    Calls Tryz.prog 185 #[.agg cs0.toArray, .slice a_1 n_1 c_1] w (fun en w' => en = .returned (.bool r) ∧ Ext [] w w') := by
 obtain ⟨c10, c11, rfl, g12, g13⟩ := rdo_Timpl_Schema g0
 obtain ⟨a14, c15, rfl⟩ := rd_sl1 g12
 obtain ⟨a16, c17, rfl⟩ := rd_sl1 g13
 obtain rfl := rd_n g1
 unfold impl_AttrsOk at H
 refine f_enter Tryz.func185 rfl Tryz.ntmps185 rfl (St.init w []) <| sR <| ob _ rfl fun b18 => oP rfl <| nQ <| c_seq <| c_regQ mixed (by kernel_rfl) <| o1 rfl (rx 0 0 _ rfl ty48 rfl) <| bE H fun y19 h20 H => oq rfl (qc rfl fn83 (fun w1 hw1 => impl_SchemaOk_ok w1 h20 (rdm_Timpl_Schema (rds_bor g12 w1 hw1) (rds_bor g13 w1 hw1)))) tt2 <| oP rfl <| ow_cut [(11, .bool (y19 && (decide ((p1.length : Int) > 0)))), (1, .slice a_1 p1.length c_1), (2, .pointer (some ⟨b18, 0, none⟩)), (4, .bool false)] 4 ?_ (fun key => OW.sub (R := [(1, .slice a_1 p1.length c_1), (2, .pointer (some ⟨b18, 0, none⟩)), (4, .bool false), (7, .bool y19)]) ?_ (sb rfl))
 ·refine oP rfl <| bE H fun u23 hu27 H => ow_cut [(15, .bool u23), (1, .slice a_1 p1.length c_1), (2, .pointer (some ⟨b18, 0, none⟩)), (4, .bool false)] 3 ?_ (fun key => OW.sub (R := [(1, .slice a_1 p1.length c_1), (2, .pointer (some ⟨b18, 0, none⟩)), (4, .bool false), (12, .bool (y19 && (decide ((p1.length : Int) > 0))))]) ?_ (sb rfl))
  ·refine oP rfl <| bE H fun u28 hu32 H => ow_cut [(21, .bool u28), (1, .slice a_1 p1.length c_1), (2, .pointer (some ⟨b18, 0, none⟩)), (4, .bool false)] 5 ?_ (fun key => OW.sub (R := [(1, .slice a_1 p1.length c_1), (2, .pointer (some ⟨b18, 0, none⟩)), (4, .bool false), (16, .bool u23)]) ?_ (sb rfl))
   ·refine oP rfl <| bE H fun u33 hu37 H => ow_cut [(33, .bool u33), (4, .bool false)] 11 ?_ (fun key => OW.sub (R := [(1, .slice a_1 p1.length c_1), (2, .pointer (some ⟨b18, 0, none⟩)), (4, .bool false), (22, .bool u28)]) ?_ (sb rfl))
    ·exact oP rfl <| ow_nilQ <| x_qs <| c_ret <| xr 4 rfl (by cases H; exact q1)
    ·clear H
     have H := hu37
     clear hu37
     generalize u28 = t36 at H key ⊢
     cases t36
     ·have H := of_if_f rfl H
      refine ow_batch [.p, .p, .p, .p, .p, .p, .p, .p, .p, .p, .p] rfl ?_
      obtain rfl := of_some H
      exact OW.sub key (sb rfl)
     ·have H := of_if_t rfl H
      refine ow_batch [.p, .p, .lenS 39 3 sl39, .p] rfl <| bE H fun e34 h35 H => ow_ixE (e := eI) (xs := p1) (j := IntKind.i64.wrap ((p1.length : Int) - 1)) rfl rfl rfl rfl rfl sl39 ty3 rfl (fun w1 hw1 => rds_bor g1 w1 hw1) h35 (by rw [Nat.mul_one]) <| o1 rfl (ry_load1 rfl rfl ty3 (at_elV (fun w1 hw1 => rds_bor g1 w1 hw1) h35)) <| ow_batch [.fa 48 0 0 fa48_0] rfl <| o1 rfl (r1 0 0 rfl ty46 rfl) <| ow_batch [.lenS 46 133 sl46, .p] rfl <| oP rfl <| ?_
      obtain rfl := of_some H
      exact OW.sub key (sb rfl)
   ·clear H
    have H := hu32
    clear hu32
    generalize u23 = t31 at H key ⊢
    cases t31
    ·have H := of_if_f rfl H
     refine ow_batch [.p, .p, .p, .p, .p] rfl ?_
     obtain rfl := of_some H
     exact OW.sub key (sb rfl)
    ·have H := of_if_t rfl H
     refine oP rfl <| bE H fun e29 h30 H => ow_ixE (e := eI) (xs := p1) (j := 0) rfl rfl rfl rfl rfl sl39 ty3 rfl (fun w1 hw1 => rds_bor g1 w1 hw1) h30 (by rw [Nat.mul_one]) <| o1 rfl (ry_load1 rfl rfl ty3 (at_elV (fun w1 hw1 => rds_bor g1 w1 hw1) h30)) <| oP rfl <| oP rfl <| ?_
     obtain rfl := of_some H
     exact OW.sub key (sb rfl)
  ·clear H
   have H := hu27
   clear hu27
   generalize (y19 && (decide ((p1.length : Int) > 0))) = t26 at H key ⊢
   cases t26
   ·have H := of_if_f rfl H
    refine ow_batch [.p, .p, .p] rfl ?_
    obtain rfl := of_some H
    exact OW.sub key (sb rfl)
   ·have H := of_if_t rfl H
    refine oP rfl <| bE H fun y24 h25 H => oq rfl (qc rfl fn172 (fun w1 hw1 => impl_ascending_ok w1  h25 (rds_bor g1 w1 hw1))) tt2 <| oP rfl <| ?_
    obtain rfl := of_some H
    exact OW.sub key (sb rfl)
 ·generalize y19 = t22 at key ⊢
  cases t22
  ·exact ow_batch [.p, .p, .p, .p] rfl <| OW.sub key (sb rfl)
  ·exact ow_batch [.p, .lenS 39 3 sl39, .p] rfl <| oP rfl <| OW.sub key (sb rfl)
theorem impl_ForkOk_ok (w : World) {p0 : Timpl_Schema} {p1 : Timpl_Fork} {cs0 : List Value} {r : Bool} (H : impl_ForkOk p0 p1 = some r)  (g0 : (eTimpl_Schema).rd w [] p0 cs0) :
    Calls Tryz.prog 190 #[.agg cs0.toArray, .agg #[.int .i64 p1.Attr_, .int .i64 p1.At_]] w (fun en w' => en = .returned (.bool r) ∧ Ext [] w w') := by
 obtain ⟨c10, c11, rfl, g12, g13⟩ := rdo_Timpl_Schema g0
 obtain ⟨a14, c15, rfl⟩ := rd_sl1 g12
 obtain ⟨a16, c17, rfl⟩ := rd_sl1 g13
 unfold impl_ForkOk at H
 refine f_enter Tryz.func190 rfl Tryz.ntmps190 rfl (St.init w []) <| sR <| ob _ rfl fun b18 => ob _ rfl fun b19 => oP rfl <| nQ <| c_seq <| sR <| o1 rfl (rx 0 0 _ rfl ty48 rfl) <| bE H fun y20 h21 H => oq rfl (qc rfl fn83 (fun w1 hw1 => impl_SchemaOk_ok w1 h21 (rdm_Timpl_Schema (rds_bor g12 w1 hw1) (rds_bor g13 w1 hw1)))) tt2 <| oPP rfl <| bE H fun u22 hu26 H => ow_cut [(19, .bool u22), (2, .pointer (some ⟨b18, 0, none⟩)), (3, .pointer (some ⟨b19, 0, none⟩))] 9 ?_ (fun key => OW.sub (R := [(2, .pointer (some ⟨b18, 0, none⟩)), (3, .pointer (some ⟨b19, 0, none⟩)), (10, .bool (!y20))]) ?_ (sb rfl))
 ·refine nQ <| cI H rfl (fun H => ?_) (fun H => ?_)
  ·exact sR <| oP rfl <| nT <| x_qs_ret <| xr 4 rfl (by cases H; exact q1)
  ·refine c_skip <| x_qs <| sR <| ow_batch [.fa 48 0 0 fa48_0] rfl <| o1 rfl (r1 0 0 rfl ty46 rfl) <| ow_batch [.fa 165 0 0 fa165_0] rfl <| o1 rfl (r1 0 1 rfl ty3 rfl) <| bE H fun e27 h28 H => ow_ixB rfl rfl rfl rfl rfl sl46 ty133 rfl g12 h28 fun q31 c32 hd29 hA30 => ?_
   obtain ⟨c33, c34, c35, rfl, g36, g37, g38⟩ := rdo_Timpl_Attr hd29
   obtain rfl := g36
   obtain ⟨a39, c40, rfl⟩ := rd_sl1 g37
   obtain ⟨a41, c42, rfl⟩ := rd_sl1 g38
   refine o1 rfl (ry_load (cs := [vS e27.Name_, .slice a39 e27.Cuts_.length c40, .slice a41 e27.Values_.length c42]) rfl rfl ty133 (at_bor bor hA30) rfl) <| ow_alloc rfl rfl rfl rfl ty133 (fun _ => kp) fun b43 => sC 0 [vS e27.Name_, .slice a39 e27.Cuts_.length c40, .slice a41 e27.Values_.length c42] [_, _, _] 2 rfl ty133 rfl <| nR <| o1 rfl (rx 0 2 _ rfl ty133 rfl) <| bE H fun y44 h45 H => oq rfl (qc rfl fn85 (fun w1 hw1 => impl_bins_ok w1 h45 (rdm_Timpl_Attr rfl (rds_bor g37 w1 hw1) (rds_bor g38 w1 hw1)))) tt2 <| oPP rfl <| nQ <| c_seq <| sR <| ow_batch [.fa 133 1 1 fa133_1] rfl <| o1 rfl (r1 1 2 rfl ty39 rfl) <| ow_batch [.lenS 39 3 sl39, .p] rfl <| nQ <| cI H rfl (fun H => ?_) (fun H => ?_)
   ·exact c_reg <| ow_batch [.p, .p, .p] rfl <| nR <| ow_batch [.fa 165 1 1 fa165_1] rfl <| o1 rfl (r1 1 1 rfl ty3 rfl) <| oP rfl <| bE H fun y46 h47 H => oq rfl (qc rfl fn84 (fun w1 hw1 => impl_within_ok w1  h47)) tt2 <| oP rfl <| nT <| xr 4 rfl (by cases H; exact q1)
   ·exact c_skip <| x_qs <| sR <| ow_batch [.fa 165 1 1 fa165_1] rfl <| o1 rfl (r1 1 1 rfl ty3 rfl) <| oP rfl <| bE H fun y48 h49 H => oq rfl (qc rfl fn84 (fun w1 hw1 => impl_within_ok w1  h49)) tt2 <| oP rfl <| nT <| xr 4 rfl (by cases H; exact q1)
 ·clear H
  have H := hu26
  clear hu26
  generalize (!y20) = t25 at H key ⊢
  cases t25
  ·have H := of_if_f rfl H
   refine ow_batch [.fa 165 0 0 fa165_0] rfl <| o1 rfl (r1 0 1 rfl ty3 rfl) <| ow_batch [.fa 48 0 0 fa48_0] rfl <| o1 rfl (r1 0 0 rfl ty46 rfl) <| ow_batch [.lenS 46 133 sl46, .p] rfl <| bE H fun y23 h24 H => oq rfl (qc rfl fn84 (fun w1 hw1 => impl_within_ok w1  h24)) tt2 <| oP rfl <| oP rfl <| ?_
   obtain rfl := of_some H
   exact OW.sub key (sb rfl)
  ·have H := of_if_t rfl H
   refine ow_batch [.p, .p, .p, .p, .p, .p, .p, .p, .p] rfl ?_
   obtain rfl := of_some H
   exact OW.sub key (sb rfl)
theorem impl_Branches_ok (w : World) {p0 : Timpl_Schema} {p1 : Timpl_Fork} {cs0 : List Value} {r : Int} (H : impl_Branches p0 p1 = some r)  (g0 : (eTimpl_Schema).rd w [] p0 cs0) :
    Calls Tryz.prog 186 #[.agg cs0.toArray, .agg #[.int .i64 p1.Attr_, .int .i64 p1.At_]] w (fun en w' => en = .returned (.int .i64 r) ∧ Ext [] w w') := by
 obtain ⟨c10, c11, rfl, g12, g13⟩ := rdo_Timpl_Schema g0
 obtain ⟨a14, c15, rfl⟩ := rd_sl1 g12
 obtain ⟨a16, c17, rfl⟩ := rd_sl1 g13
 unfold impl_Branches at H
 refine f_enter Tryz.func186 rfl Tryz.ntmps186 rfl (St.init w []) <| sR <| ob _ rfl fun b18 => ob _ rfl fun b19 => oP rfl <| nQ <| c_seq <| c_block <| sR <| o1 rfl (rx 0 0 _ rfl ty48 rfl) <| o1 rfl (rx 0 1 _ rfl ty165 rfl) <| bE H fun y20 h21 H => oq rfl (qc rfl fn190 (fun w1 hw1 => impl_ForkOk_ok w1 (p1 := p1) h21 (rdm_Timpl_Schema (rds_bor g12 w1 hw1) (rds_bor g13 w1 hw1)))) tt2 <| oPP rfl <| nQ <| cI H rfl (fun H => ?_) (fun H => ?_)
 ·exact sR <| oP rfl <| nT <| x_qb_ret <| x_qs_ret <| xr 4 rfl (by cases H; exact q1)
 ·refine sR <| ow_batch [.fa 165 1 1 fa165_1] rfl <| o1 rfl (r1 1 1 rfl ty3 rfl) <| oPP rfl <| nQ <| cI H rfl (fun H => ?_) (fun H => ?_)
  ·refine sR <| ow_batch [.fa 48 0 0 fa48_0] rfl <| o1 rfl (r1 0 0 rfl ty46 rfl) <| ow_batch [.fa 165 0 0 fa165_0] rfl <| o1 rfl (r1 0 1 rfl ty3 rfl) <| bE H fun e22 h23 H => ow_ixB rfl rfl rfl rfl rfl sl46 ty133 rfl g12 h23 fun q26 c27 hd24 hA25 => ?_
   obtain ⟨c28, c29, c30, rfl, g31, g32, g33⟩ := rdo_Timpl_Attr hd24
   obtain rfl := g31
   obtain ⟨a34, c35, rfl⟩ := rd_sl1 g32
   obtain ⟨a36, c37, rfl⟩ := rd_sl1 g33
   exact o1 rfl (ry_load (cs := [vS e22.Name_, .slice a34 e22.Cuts_.length c35, .slice a36 e22.Values_.length c37]) rfl rfl ty133 (at_bor bor hA25) rfl) <| bE H fun y38 h39 H => oq rfl (qc rfl fn85 (fun w1 hw1 => impl_bins_ok w1 h39 (rdm_Timpl_Attr rfl (rds_bor g32 w1 hw1) (rds_bor g33 w1 hw1)))) tt2 <| oP rfl <| nT <| x_qb_ret <| x_qs_ret <| xr 4 rfl (by cases H; exact q1)
  ·exact c_skip <| x_qb <| x_qs <| sR <| oP rfl <| nT <| xr 4 rfl (by cases H; exact q1)
theorem impl_nodeOk_1_ok (w : World) {p0 : Int} {p1 : Int} {p2 : Timpl_Tree} {q_1 : Addr} {cs_1 : List Value} {q_2 : Addr} {cs_2 : List Value} {r : Bool} (H : impl_nodeOk_1 p0 p1 p2 = some r)  (g_1 : eI.rd w [] p1 cs_1) (hA_1 : At w [] q_1 cs_1) (g_2 : (eTimpl_Tree).rd w [] p2 cs_2) (hA_2 : At w [] q_2 cs_2) :
    Calls Tryz.prog 187 #[.int .i64 p0, .pointer (some q_1), .pointer (some q_2)] w (fun en w' => en = .returned (.bool r) ∧ Ext [] w w') := by
 obtain rfl := g_1
 obtain ⟨c10, c11, rfl, g12, g13⟩ := rdo_Timpl_Tree g_2
 obtain ⟨a14, c15, rfl⟩ := rd_sl1 g12
 obtain rfl := g13
 unfold impl_nodeOk_1 at H
 refine f_enter Tryz.func187 rfl Tryz.ntmps187 rfl (St.init w []) <| sR <| oP rfl <| nQ <| c_seq <| c_regQ mixed (by kernel_rfl) <| oP rfl <| o1 rfl (ry_load1 rfl rfl ty3 (at_bor bor hA_1)) <| ow_batch [.p, .fa 93 0 0 fa93_0] rfl <| o1 rfl (ry_load1 rfl rfl ty91 (at_bor bor (at_K hA_2 0 1))) <| ow_batch [.lenS 91 169 sl91, .p] rfl <| bE H fun y16 h17 H => oq rfl (qc rfl fn84 (fun w1 hw1 => impl_within_ok w1  h17)) tt2 <| oPP rfl <| bE H fun u18 hu58 H => ow_cut [(23, .bool u18), (4, .bool false)] 9 ?_ (fun key => OW.sub (R := [(0, .int .i64 p0), (1, .pointer (some q_1)), (2, .pointer (some q_2)), (4, .bool false), (14, .bool (!y16))]) ?_ (sb rfl))
 ·exact oP rfl <| ow_nilQ <| x_qs <| c_ret <| xr 4 rfl (by cases H; exact q1)
 ·clear H
  have H := hu58
  clear hu58
  generalize (!y16) = t57 at H key ⊢
  cases t57
  ·have H := of_if_f rfl H
   refine ow_batch [.fa 93 0 0 fa93_0] rfl <| o1 rfl (ry_load1 rfl rfl ty91 (at_bor bor (at_K hA_2 0 1))) <| oP rfl <| bE H fun e19 h20 H => ow_ixB rfl rfl rfl rfl rfl sl91 ty169 rfl g12 h20 fun q23 c24 hd21 hA22 => ?_
   obtain ⟨c25, c26, c27, c28, c29, c30, c31, c32, c33, c34, rfl, g35, g36, g37, g38, g39, g40, g41, g42, g43, g44⟩ := rdo_Timpl_Node hd21
   obtain rfl := g35
   obtain rfl := g36
   obtain ⟨a45, c46, rfl⟩ := rd_sl1 g37
   obtain rfl := g38
   obtain ⟨c47, c48, rfl, g49, g50⟩ := rdo_Timpl_Stats g39
   obtain ⟨a51, c52, rfl⟩ := rd_sl1 g49
   obtain ⟨a53, c54, rfl⟩ := rd_sl1 g50
   obtain rfl := g40
   obtain ⟨a55, c56, rfl⟩ := rd_sl1 g41
   obtain rfl := g42
   obtain rfl := g43
   obtain rfl := g44
   refine ow_batch [.fa 169 8 10 fa169_8] rfl <| o1 rfl (ry_load1 rfl rfl ty3 (at_bor bor (at_K hA22 10 1))) <| o1 rfl (ry_load1 rfl rfl ty3 (at_bor bor hA_1)) <| oP rfl <| oP rfl <| ?_
   obtain rfl := of_some H
   exact OW.sub key (sb rfl)
  ·have H := of_if_t rfl H
   refine ow_batch [.p, .p, .p, .p, .p, .p, .p, .p, .p] rfl ?_
   obtain rfl := of_some H
   exact OW.sub key (sb rfl)
theorem lib_slices_IndexFunc___int_int___impl_nodeOk_1_ok (w : World) {p0 : List Int} {p1_0 : Int} {p1_1 : Timpl_Tree} {a_0 : Option Addr} {n_0 c_0 : Nat} {q_1_0 : Addr} {cs_1_0 : List Value} {q_1_1 : Addr} {cs_1_1 : List Value} {r : Int} (H : lib_slices_IndexFunc___int_int___impl_nodeOk_1 p0 p1_0 p1_1 = some r)  (g0 : (eList eI 3).rd w [] p0 [.slice a_0 n_0 c_0]) (g_1_0 : eI.rd w [] p1_0 cs_1_0) (hA_1_0 : At w [] q_1_0 cs_1_0) (g_1_1 : (eTimpl_Tree).rd w [] p1_1 cs_1_1) (hA_1_1 : At w [] q_1_1 cs_1_1) :
    Calls Tryz.prog 188 #[.slice a_0 n_0 c_0, .func (.func 187) #[] #[.pointer (some q_1_0), .pointer (some q_1_1)]] w (fun en w' => en = .returned (.int .i64 r) ∧ Ext [] w w') := by
 obtain rfl := rd_n g0
 obtain rfl := g_1_0
 obtain ⟨c10, c11, rfl, g12, g13⟩ := rdo_Timpl_Tree g_1_1
 obtain ⟨a14, c15, rfl⟩ := rd_sl1 g12
 obtain rfl := g13
 unfold lib_slices_IndexFunc___int_int___impl_nodeOk_1 at H
 refine f_enter Tryz.func188 rfl Tryz.ntmps188 rfl (St.init w []) <| sR <| oP rfl <| nQ <| c_seq <| sR <| ow_batch [.p, .lenS 39 3 sl39, .p] rfl <| nQ <| c_block <| CW.at (loopI1 (fun (i21 : Int) => St w [] []) (fun i21 => [(0, .slice a_0 p0.length c_0), (1, .func (.func 187) #[] #[.pointer (some q_1_0), .pointer (some q_1_1)]), (7, .int .i64 (p0.length : Int)), (8, .int .i64 i21)]) (fun kk => fun i21 => lib_slices_IndexFunc___int_int___impl_nodeOk_1_L1 p0 p1_0 p1_1 kk i21 = some r) (fun _ H => ?_) (fun k1 ihk1 i21 H => ?_) Fuel (0) (H)) (fun _ h => St.sel [] rfl rfl h) ⟨rfl, rfl, rfl, rfl,  trivial⟩
 ·unfold lib_slices_IndexFunc___int_int___impl_nodeOk_1_L1 at H
  exact absurd H (by simp)
 ·unfold lib_slices_IndexFunc___int_int___impl_nodeOk_1_L1 at H
  refine sR <| oP rfl <| nQ <| c_seq <| cI H rfl (fun H => ?_) (fun H => ?_)
  ·refine c_skip <| x_qs <| c_seq <| c_block <| sR <| oPP rfl <| nR <| ow_batch [.p, .p, .p] rfl <| bE H fun e27 h28 H => ow_ixE (e := eI) (xs := p0) (j := i21) rfl rfl rfl rfl rfl sl39 ty3 rfl (fun w1 hw1 => rds_bor g0 w1 hw1) h28 (by rw [Nat.mul_one]) <| o1 rfl (ry_load1 rfl rfl ty3 (at_elV (fun w1 hw1 => rds_bor g0 w1 hw1) h28)) <| bE H fun y29 h30 H => ow_q rfl rfl (dstOk_lt rfl) (qy_callV (cap := [.pointer (some q_1_0), .pointer (some q_1_1)]) rfl fn187 rfl rfl (fun w1 hw1 => impl_nodeOk_1_ok w1 (cs_1 := [.int .i64 p1_0]) (cs_2 := [.slice a14 p1_1.Nodes_.length c15, .int .i64 p1_1.Seen_]) h30 rfl (at_bor bor hA_1_0 w1 hw1) (rdm_Timpl_Tree (rds_bor g12 w1 hw1) rfl) (at_bor bor hA_1_1 w1 hw1))) (fun _ _ => trivial) <| nQ <| cI H rfl (fun H => ?_) (fun H => ?_)
   ·exact sR <| oPP rfl <| nT <| x_qb_ret <| x_qs_ret <| x_ql_ret <| x_qb_ret <| x_qs_ret <| xr 4 rfl (by cases H; exact q1)
   ·exact c_skip <| x_qb <| x_qs <| c_reg <| oPP rfl <| ow_nil <| x_ql (RW.at (ihk1 (IntKind.i64.wrap (i21 + 1)) (H)) (fun _ h => St.sel [] rfl rfl h) ⟨rfl, rfl, rfl, rfl, trivial⟩)
  ·exact c_exit <| x_qs_exit <| x_ql_exit <| x_qb_here <| x_qs <| sR <| oP rfl <| nT <| xr 4 rfl (by cases H; exact q1)
theorem lib_slices_ContainsFunc___int_int___impl_nodeOk_1_ok (w : World) {p0 : List Int} {p1_0 : Int} {p1_1 : Timpl_Tree} {a_0 : Option Addr} {n_0 c_0 : Nat} {q_1_0 : Addr} {cs_1_0 : List Value} {q_1_1 : Addr} {cs_1_1 : List Value} {r : Bool} (H : lib_slices_ContainsFunc___int_int___impl_nodeOk_1 p0 p1_0 p1_1 = some r)  (g0 : (eList eI 3).rd w [] p0 [.slice a_0 n_0 c_0]) (g_1_0 : eI.rd w [] p1_0 cs_1_0) (hA_1_0 : At w [] q_1_0 cs_1_0) (g_1_1 : (eTimpl_Tree).rd w [] p1_1 cs_1_1) (hA_1_1 : At w [] q_1_1 cs_1_1) :
    Calls Tryz.prog 167 #[.slice a_0 n_0 c_0, .func (.func 187) #[] #[.pointer (some q_1_0), .pointer (some q_1_1)]] w (fun en w' => en = .returned (.bool r) ∧ Ext [] w w') := by
 obtain rfl := rd_n g0
 obtain rfl := g_1_0
 obtain ⟨c10, c11, rfl, g12, g13⟩ := rdo_Timpl_Tree g_1_1
 obtain ⟨a14, c15, rfl⟩ := rd_sl1 g12
 obtain rfl := g13
 unfold lib_slices_ContainsFunc___int_int___impl_nodeOk_1 at H
 exact f_enter Tryz.func167 rfl Tryz.ntmps167 rfl (St.init w []) <| sR <| oP rfl <| nR <| oPP rfl <| bE H fun y16 h17 H => oq rfl (qc rfl fn188 (fun w1 hw1 => lib_slices_IndexFunc___int_int___impl_nodeOk_1_ok w1 (cs_1_0 := [.int .i64 p1_0]) (cs_1_1 := [.slice a14 p1_1.Nodes_.length c15, .int .i64 p1_1.Seen_]) h17 (rds_bor g0 w1 hw1) rfl (at_bor bor hA_1_0 w1 hw1) (rdm_Timpl_Tree (rds_bor g12 w1 hw1) rfl) (at_bor bor hA_1_1 w1 hw1))) tt2 <| oPP rfl <| nT <| xr 4 rfl (by cases H; exact q1)
theorem impl_nodeOk_ok (w : World) {p0 : Timpl_Schema} {p1 : Timpl_Tree} {p2 : Int} {cs0 : List Value} {cs1 : List Value} {r : Bool} (H : impl_nodeOk p0 p1 p2 = some r)  (g0 : (eTimpl_Schema).rd w [] p0 cs0) (g1 : (eTimpl_Tree).rd w [] p1 cs1) :
    Calls Tryz.prog 164 #[.agg cs0.toArray, .agg cs1.toArray, .int .i64 p2] w (fun en w' => en = .returned (.bool r) ∧ Ext [] w w') := by
 obtain ⟨c10, c11, rfl, g12, g13⟩ := rdo_Timpl_Schema g0
 obtain ⟨a14, c15, rfl⟩ := rd_sl1 g12
 obtain ⟨a16, c17, rfl⟩ := rd_sl1 g13
 obtain ⟨c18, c19, rfl, g20, g21⟩ := rdo_Timpl_Tree g1
 obtain ⟨a22, c23, rfl⟩ := rd_sl1 g20
 obtain rfl := g21
 unfold impl_nodeOk at H
 refine f_enter Tryz.func164 rfl Tryz.ntmps164 rfl (St.init w []) <| sR <| ob _ rfl fun b24 => ob _ rfl fun b25 => ob _ rfl fun b26 => oP rfl <| nR <| ow_batch [.fa 93 0 0 fa93_0] rfl <| o1 rfl (r1 0 1 rfl ty91 rfl) <| o1 rfl (r1 0 2 rfl ty3 rfl) <| bE H fun e27 h28 H => ow_ixB rfl rfl rfl rfl rfl sl91 ty169 rfl g20 h28 fun q31 c32 hd29 hA30 => ?_
 obtain ⟨c33, c34, c35, c36, c37, c38, c39, c40, c41, c42, rfl, g43, g44, g45, g46, g47, g48, g49, g50, g51, g52⟩ := rdo_Timpl_Node hd29
 obtain rfl := g43
 obtain rfl := g44
 obtain ⟨a53, c54, rfl⟩ := rd_sl1 g45
 obtain rfl := g46
 obtain ⟨c55, c56, rfl, g57, g58⟩ := rdo_Timpl_Stats g47
 obtain ⟨a59, c60, rfl⟩ := rd_sl1 g57
 obtain ⟨a61, c62, rfl⟩ := rd_sl1 g58
 obtain rfl := g48
 obtain ⟨a63, c64, rfl⟩ := rd_sl1 g49
 obtain rfl := g50
 obtain rfl := g51
 obtain rfl := g52
 refine o1 rfl (ry_load (cs := [.bool e27.Leaf_, .int .i64 e27.Fork_.Attr_, .int .i64 e27.Fork_.At_, .slice a53 e27.Kids_.length c54, .int .i64 e27.Miss_, .slice a59 e27.Stats_.Totals_.length c60, .slice a61 e27.Stats_.Cells_.length c62, .int .i64 e27.Since_, .slice a63 e27.Attrs_.length c64, .int .i64 e27.Depth_, .int .i64 e27.Up_, .int .i64 e27.Born_]) rfl rfl ty169 (at_bor bor hA30) rfl) <| ow_alloc rfl rfl rfl rfl ty169 (fun _ => kp) fun b65 => sC 0 [.bool e27.Leaf_, .int .i64 e27.Fork_.Attr_, .int .i64 e27.Fork_.At_, .slice a53 e27.Kids_.length c54, .int .i64 e27.Miss_, .slice a59 e27.Stats_.Totals_.length c60, .slice a61 e27.Stats_.Cells_.length c62, .int .i64 e27.Since_, .slice a63 e27.Attrs_.length c64, .int .i64 e27.Depth_, .int .i64 e27.Up_, .int .i64 e27.Born_] [_, _, _, _, _, _, _, _, _, _, _, _] 3 rfl ty169 rfl <| nQ <| c_seq <| sR <| ow_batch [.fa 169 7 9 fa169_7] rfl <| o1 rfl (r1 9 3 rfl ty3 rfl) <| bE H fun y66 h67 H => oq rfl (qc rfl fn84 (fun w1 hw1 => impl_within_ok w1  h67)) tt2 <| oPP rfl <| bE H fun u68 hu72 H => ow_cut [(26, .bool u68), (3, .pointer (some ⟨b24, 0, none⟩)), (4, .pointer (some ⟨b25, 0, none⟩)), (5, .pointer (some ⟨b26, 0, none⟩)), (7, .pointer (some ⟨b65, 0, none⟩))] 7 ?_ (fun key => OW.sub (R := [(3, .pointer (some ⟨b24, 0, none⟩)), (4, .pointer (some ⟨b25, 0, none⟩)), (5, .pointer (some ⟨b26, 0, none⟩)), (7, .pointer (some ⟨b65, 0, none⟩)), (19, .bool (!y66))]) ?_ (sb rfl))
 ·refine oP rfl <| bE H fun u73 hu77 H => ow_cut [(33, .bool u73), (3, .pointer (some ⟨b24, 0, none⟩)), (4, .pointer (some ⟨b25, 0, none⟩)), (5, .pointer (some ⟨b26, 0, none⟩)), (7, .pointer (some ⟨b65, 0, none⟩))] 6 ?_ (fun key => OW.sub (R := [(3, .pointer (some ⟨b24, 0, none⟩)), (4, .pointer (some ⟨b25, 0, none⟩)), (5, .pointer (some ⟨b26, 0, none⟩)), (7, .pointer (some ⟨b65, 0, none⟩)), (27, .bool u68)]) ?_ (sb rfl))
  ·refine oP rfl <| bE H fun u78 hu82 H => ow_cut [(40, .bool u78), (3, .pointer (some ⟨b24, 0, none⟩)), (4, .pointer (some ⟨b25, 0, none⟩)), (5, .pointer (some ⟨b26, 0, none⟩)), (7, .pointer (some ⟨b65, 0, none⟩))] 6 ?_ (fun key => OW.sub (R := [(3, .pointer (some ⟨b24, 0, none⟩)), (4, .pointer (some ⟨b25, 0, none⟩)), (5, .pointer (some ⟨b26, 0, none⟩)), (7, .pointer (some ⟨b65, 0, none⟩)), (34, .bool u73)]) ?_ (sb rfl))
   ·refine nQ <| cI H rfl (fun H => ?_) (fun H => ?_)
    ·exact sR <| oP rfl <| nT <| x_qs_ret <| xr 6 rfl (by cases H; exact q1)
    ·refine c_skip <| x_qs <| c_seq <| sR <| ow_batch [.fa 169 0 0 fa169_0] rfl <| o1 rfl (r1 0 3 rfl ty4 rfl) <| nQ <| cI H rfl (fun H => ?_) (fun H => ?_)
     ·refine sR <| ow_batch [.fa 169 4 5 fa169_4, .fa 167 0 0 fa167_0] rfl <| o1 rfl (r1 5 3 rfl ty39 rfl) <| bE H fun y83 h84 H => oq rfl (qc rfl fn125 (fun w1 hw1 => impl_total_ok w1  h84 (rds_bor g57 w1 hw1))) tt2 <| oP rfl <| nQ <| c_join1 (fun (i85 : Int) => St w [] [Res.box b65 169 [.bool e27.Leaf_, .int .i64 e27.Fork_.Attr_, .int .i64 e27.Fork_.At_, .slice a53 e27.Kids_.length c54, .int .i64 e27.Miss_, .slice a59 e27.Stats_.Totals_.length c60, .slice a61 e27.Stats_.Cells_.length c62, .int .i64 e27.Since_, .slice a63 e27.Attrs_.length c64, .int .i64 e27.Depth_, .int .i64 e27.Up_, .int .i64 e27.Born_]]) (fun (i85 : Int) => [(7, .pointer (some ⟨b65, 0, none⟩)), (8, .int .i64 i85)]) (fun (i85 : Int) => impl_nodeOk_J1 e27 i85 = some r) (fun i85 H => ?_) (fun J1 => ?_)
      ·unfold impl_nodeOk_J1 at H
       refine sR <| ow_batch [.fa 169 1 1 fa169_1] rfl <| o1 rfl (rx 1 0 _ rfl ty165 rfl) <| o1 rfl (ry_build2 [] [.int .i64 0, .int .i64 0] rfl rfl ty165 fs165 rfl trivial rfl) <| o1 rfl (ry_seql (xs := [.int .i64 e27.Fork_.Attr_, .int .i64 e27.Fork_.At_]) (ys := [.int .i64 0, .int .i64 0]) rfl rfl rfl (se165 e27.Fork_.Attr_ 0 e27.Fork_.At_ 0)) <| oP rfl <| ow_cut [(61, .bool ((e27.Fork_.Attr_ == 0 && (e27.Fork_.At_ == 0 && true)) && ((e27.Kids_.length : Int) == 0))), (7, .pointer (some ⟨b65, 0, none⟩)), (8, .int .i64 i85)] 5 ?_ (fun key => OW.sub (R := [(7, .pointer (some ⟨b65, 0, none⟩)), (8, .int .i64 i85), (56, .bool (e27.Fork_.Attr_ == 0 && (e27.Fork_.At_ == 0 && true)))]) ?_ (sb rfl))
       ·refine oP rfl <| ow_cut [(66, .bool (((e27.Fork_.Attr_ == 0 && (e27.Fork_.At_ == 0 && true)) && ((e27.Kids_.length : Int) == 0)) && (e27.Miss_ == 0))), (7, .pointer (some ⟨b65, 0, none⟩)), (8, .int .i64 i85)] 4 ?_ (fun key => OW.sub (R := [(7, .pointer (some ⟨b65, 0, none⟩)), (8, .int .i64 i85), (62, .bool ((e27.Fork_.Attr_ == 0 && (e27.Fork_.At_ == 0 && true)) && ((e27.Kids_.length : Int) == 0)))]) ?_ (sb rfl))
        ·refine oP rfl <| bE H fun u90 hu94 H => ow_cut [(72, .bool u90)] 5 ?_ (fun key => OW.sub (R := [(7, .pointer (some ⟨b65, 0, none⟩)), (8, .int .i64 i85), (67, .bool (((e27.Fork_.Attr_ == 0 && (e27.Fork_.At_ == 0 && true)) && ((e27.Kids_.length : Int) == 0)) && (e27.Miss_ == 0)))]) ?_ (sb rfl))
         ·exact oP rfl <| nT <| x_qs_ret <| xr 6 rfl (by cases H; exact q1)
         ·clear H
          have H := hu94
          clear hu94
          generalize (((e27.Fork_.Attr_ == 0 && (e27.Fork_.At_ == 0 && true)) && ((e27.Kids_.length : Int) == 0)) && (e27.Miss_ == 0)) = t93 at H key ⊢
          cases t93
          ·have H := of_if_f rfl H
           refine ow_batch [.p, .p, .p, .p, .p] rfl ?_
           obtain rfl := of_some H
           exact OW.sub key ⟨rfl, trivial⟩
          ·have H := of_if_t rfl H
           refine ow_batch [.fa 169 5 7 fa169_5] rfl <| o1 rfl (r1 7 0 rfl ty3 rfl) <| oP rfl <| bE H fun y91 h92 H => oq rfl (qc rfl fn84 (fun w1 hw1 => impl_within_ok w1  h92)) tt2 <| oP rfl <| ?_
           obtain rfl := of_some H
           exact OW.sub key ⟨rfl, trivial⟩
        ·generalize ((e27.Fork_.Attr_ == 0 && (e27.Fork_.At_ == 0 && true)) && ((e27.Kids_.length : Int) == 0)) = t89 at key ⊢
         cases t89
         ·exact ow_batch [.p, .p, .p, .p] rfl <| OW.sub key (sb rfl)
         ·exact ow_batch [.fa 169 3 4 fa169_3] rfl <| o1 rfl (r1 4 0 rfl ty3 rfl) <| oP rfl <| oP rfl <| OW.sub key (sb rfl)
       ·generalize (e27.Fork_.Attr_ == 0 && (e27.Fork_.At_ == 0 && true)) = t87 at key ⊢
        cases t87
        ·exact ow_batch [.p, .p, .p, .p, .p] rfl <| OW.sub key (sb rfl)
        ·exact ow_batch [.fa 169 2 3 fa169_2] rfl <| o1 rfl (r1 3 0 rfl ty39 rfl) <| ow_batch [.lenS 39 3 sl39, .p] rfl <| oP rfl <| OW.sub key (sb rfl)
      ·refine sR <| ow_batch [.fa 169 4 5 fa169_4, .fa 167 1 1 fa167_1] rfl <| o1 rfl (r1 6 3 rfl ty33 rfl) <| ow_batch [.lenS 33 39 sl33, .p] rfl <| nQ <| cI H rfl (fun H => ?_) (fun H => ?_)
       ·exact c_reg <| oP rfl <| ow_nil <| XW.at (J1 (0) (H)) (fun _ h => St.sel [3] rfl rfl h) ⟨rfl, rfl, trivial⟩
       ·exact c_skip <| XW.at (J1 (y83) (H)) (fun _ h => St.sel [3] rfl rfl h) ⟨rfl, rfl, trivial⟩
     ·refine c_skip <| x_qs <| sR <| o1 rfl (rx 0 0 _ rfl ty48 rfl) <| ow_batch [.fa 169 1 1 fa169_1] rfl <| o1 rfl (rx 1 3 _ rfl ty165 rfl) <| bE H fun y95 h96 H => oq rfl (qc rfl fn186 (fun w1 hw1 => impl_Branches_ok w1 (p1 := e27.Fork_) h96 (rdm_Timpl_Schema (rds_bor g12 w1 hw1) (rds_bor g13 w1 hw1)))) tt2 <| oP rfl <| nQ <| c_seq <| sR <| ow_batch [.p, .p, .p] rfl <| ow_cut [(85, .bool ((y95 == 0) || ((e27.Kids_.length : Int) != y95))), (4, .pointer (some ⟨b25, 0, none⟩)), (5, .pointer (some ⟨b26, 0, none⟩)), (7, .pointer (some ⟨b65, 0, none⟩)), (9, .int .i64 y95)] 6 ?_ (fun key => OW.sub (R := [(4, .pointer (some ⟨b25, 0, none⟩)), (5, .pointer (some ⟨b26, 0, none⟩)), (7, .pointer (some ⟨b65, 0, none⟩)), (9, .int .i64 y95), (79, .bool (y95 == 0))]) ?_ (sb rfl))
      ·refine oP rfl <| bE H fun u99 hu103 H => ow_cut [(91, .bool u99), (4, .pointer (some ⟨b25, 0, none⟩)), (5, .pointer (some ⟨b26, 0, none⟩)), (7, .pointer (some ⟨b65, 0, none⟩)), (9, .int .i64 y95)] 5 ?_ (fun key => OW.sub (R := [(4, .pointer (some ⟨b25, 0, none⟩)), (5, .pointer (some ⟨b26, 0, none⟩)), (7, .pointer (some ⟨b65, 0, none⟩)), (9, .int .i64 y95), (86, .bool ((y95 == 0) || ((e27.Kids_.length : Int) != y95)))]) ?_ (sb rfl))
       ·refine oP rfl <| bE H fun u104 hu108 H => ow_cut [(99, .bool u104), (4, .pointer (some ⟨b25, 0, none⟩)), (5, .pointer (some ⟨b26, 0, none⟩)), (7, .pointer (some ⟨b65, 0, none⟩))] 7 ?_ (fun key => OW.sub (R := [(4, .pointer (some ⟨b25, 0, none⟩)), (5, .pointer (some ⟨b26, 0, none⟩)), (7, .pointer (some ⟨b65, 0, none⟩)), (9, .int .i64 y95), (92, .bool u99)]) ?_ (sb rfl))
        ·refine oP rfl <| ow_cut [(106, .bool (u104 || ((e27.Stats_.Cells_.length : Int) != 0))), (4, .pointer (some ⟨b25, 0, none⟩)), (5, .pointer (some ⟨b26, 0, none⟩)), (7, .pointer (some ⟨b65, 0, none⟩))] 6 ?_ (fun key => OW.sub (R := [(4, .pointer (some ⟨b25, 0, none⟩)), (5, .pointer (some ⟨b26, 0, none⟩)), (7, .pointer (some ⟨b65, 0, none⟩)), (100, .bool u104)]) ?_ (sb rfl))
         ·refine oP rfl <| ow_cut [(111, .bool ((u104 || ((e27.Stats_.Cells_.length : Int) != 0)) || (e27.Since_ != 0))), (4, .pointer (some ⟨b25, 0, none⟩)), (5, .pointer (some ⟨b26, 0, none⟩)), (7, .pointer (some ⟨b65, 0, none⟩))] 4 ?_ (fun key => OW.sub (R := [(4, .pointer (some ⟨b25, 0, none⟩)), (5, .pointer (some ⟨b26, 0, none⟩)), (7, .pointer (some ⟨b65, 0, none⟩)), (107, .bool (u104 || ((e27.Stats_.Cells_.length : Int) != 0)))]) ?_ (sb rfl))
          ·refine nQ <| cI H rfl (fun H => ?_) (fun H => ?_)
           ·exact sR <| oP rfl <| nT <| x_qs_ret <| xr 6 rfl (by cases H; exact q1)
           ·exact c_skip <| x_qs <| sR <| ow_batch [.fa 169 2 3 fa169_2] rfl <| o1 rfl (r1 3 3 rfl ty39 rfl) <| o1 rfl (ry_makeFunc rfl rfl) <| bE H fun y113 h114 H => oq rfl (qc rfl fn167 (fun w1 hw1 => lib_slices_ContainsFunc___int_int___impl_nodeOk_1_ok w1 (cs_1_0 := [.int .i64 p2]) (cs_1_1 := [.slice a22 p1.Nodes_.length c23, .int .i64 p1.Seen_]) h114 (rds_bor g45 w1 hw1) rfl (at_box (T := 3) 0 (boxIn (i := 2) rfl) rfl w1 hw1) (rdm_Timpl_Tree (rds_bor g20 w1 hw1) rfl) (at_box (T := 93) 0 (boxIn (i := 1) rfl) rfl w1 hw1))) tt2 <| oPP rfl <| nT <| xr 6 rfl (by cases H; exact q1)
          ·generalize (u104 || ((e27.Stats_.Cells_.length : Int) != 0)) = t112 at key ⊢
           cases t112
           ·exact ow_batch [.fa 169 5 7 fa169_5] rfl <| o1 rfl (r1 7 3 rfl ty3 rfl) <| oP rfl <| oP rfl <| OW.sub key (sb rfl)
           ·exact ow_batch [.p, .p, .p, .p] rfl <| OW.sub key (sb rfl)
         ·generalize u104 = t110 at key ⊢
          cases t110
          ·exact ow_batch [.fa 169 4 5 fa169_4, .fa 167 1 1 fa167_1] rfl <| o1 rfl (r1 6 3 rfl ty33 rfl) <| ow_batch [.lenS 33 39 sl33, .p] rfl <| oP rfl <| OW.sub key (sb rfl)
          ·exact ow_batch [.p, .p, .p, .p, .p, .p] rfl <| OW.sub key (sb rfl)
        ·clear H
         have H := hu108
         clear hu108
         generalize u99 = t107 at H key ⊢
         cases t107
         ·have H := of_if_f rfl H
          refine ow_batch [.fa 169 3 4 fa169_3] rfl <| o1 rfl (r1 4 3 rfl ty3 rfl) <| oPP rfl <| bE H fun y105 h106 H => oq rfl (qc rfl fn84 (fun w1 hw1 => impl_within_ok w1  h106)) tt2 <| oP rfl <| oP rfl <| ?_
          obtain rfl := of_some H
          exact OW.sub key (sb rfl)
         ·have H := of_if_t rfl H
          refine ow_batch [.p, .p, .p, .p, .p, .p, .p] rfl ?_
          obtain rfl := of_some H
          exact OW.sub key (sb rfl)
       ·clear H
        have H := hu103
        clear hu103
        generalize ((y95 == 0) || ((e27.Kids_.length : Int) != y95)) = t102 at H key ⊢
        cases t102
        ·have H := of_if_f rfl H
         refine ow_batch [.fa 169 2 3 fa169_2] rfl <| o1 rfl (r1 3 3 rfl ty39 rfl) <| bE H fun y100 h101 H => oq rfl (qc rfl fn172 (fun w1 hw1 => impl_ascending_ok w1  h101 (rds_bor g45 w1 hw1))) tt2 <| oP rfl <| oP rfl <| ?_
         obtain rfl := of_some H
         exact OW.sub key (sb rfl)
        ·have H := of_if_t rfl H
         refine ow_batch [.p, .p, .p, .p, .p] rfl ?_
         obtain rfl := of_some H
         exact OW.sub key (sb rfl)
      ·generalize (y95 == 0) = t98 at key ⊢
       cases t98
       ·exact ow_batch [.fa 169 2 3 fa169_2] rfl <| o1 rfl (r1 3 3 rfl ty39 rfl) <| ow_batch [.lenS 39 3 sl39, .p, .p] rfl <| oP rfl <| OW.sub key (sb rfl)
       ·exact ow_batch [.p, .p, .p, .p, .p, .p] rfl <| OW.sub key (sb rfl)
   ·clear H
    have H := hu82
    clear hu82
    generalize u73 = t81 at H key ⊢
    cases t81
    ·have H := of_if_f rfl H
     refine o1 rfl (rx 0 0 _ rfl ty48 rfl) <| ow_batch [.fa 169 6 8 fa169_6] rfl <| o1 rfl (r1 8 3 rfl ty39 rfl) <| bE H fun y79 h80 H => oq rfl (qc rfl fn185 (fun w1 hw1 => impl_AttrsOk_ok w1 h80 (rdm_Timpl_Schema (rds_bor g12 w1 hw1) (rds_bor g13 w1 hw1)) (rds_bor g49 w1 hw1))) tt2 <| oP rfl <| oP rfl <| ?_
     obtain rfl := of_some H
     exact OW.sub key (sb rfl)
    ·have H := of_if_t rfl H
     refine ow_batch [.p, .p, .p, .p, .p, .p] rfl ?_
     obtain rfl := of_some H
     exact OW.sub key (sb rfl)
  ·clear H
   have H := hu77
   clear hu77
   generalize u68 = t76 at H key ⊢
   cases t76
   ·have H := of_if_f rfl H
    refine o1 rfl (rx 0 0 _ rfl ty48 rfl) <| ow_batch [.fa 169 4 5 fa169_4] rfl <| o1 rfl (rx 5 3 _ rfl ty167 rfl) <| bE H fun y74 h75 H => oq rfl (qc rfl fn184 (fun w1 hw1 => impl_StatsOk_ok w1 h75 (rdm_Timpl_Schema (rds_bor g12 w1 hw1) (rds_bor g13 w1 hw1)) (rdm_Timpl_Stats (rds_bor g57 w1 hw1) (rds_bor g58 w1 hw1)))) tt2 <| oP rfl <| oP rfl <| ?_
    obtain rfl := of_some H
    exact OW.sub key (sb rfl)
   ·have H := of_if_t rfl H
    refine ow_batch [.p, .p, .p, .p, .p, .p] rfl ?_
    obtain rfl := of_some H
    exact OW.sub key (sb rfl)
 ·clear H
  have H := hu72
  clear hu72
  generalize (!y66) = t71 at H key ⊢
  cases t71
  ·have H := of_if_f rfl H
   refine ow_batch [.fa 169 9 11 fa169_9] rfl <| o1 rfl (r1 11 3 rfl ty3 rfl) <| ow_batch [.fa 93 1 1 fa93_1] rfl <| o1 rfl (r1 1 1 rfl ty3 rfl) <| bE H fun y69 h70 H => oq rfl (qc rfl fn84 (fun w1 hw1 => impl_within_ok w1  h70)) tt2 <| oP rfl <| oP rfl <| ?_
   obtain rfl := of_some H
   exact OW.sub key (sb rfl)
  ·have H := of_if_t rfl H
   refine ow_batch [.p, .p, .p, .p, .p, .p, .p] rfl ?_
   obtain rfl := of_some H
   exact OW.sub key (sb rfl)
theorem lib_slices_Index___int_int__ok (w : World) {p0 : List Int} {p1 : Int} {a_0 : Option Addr} {n_0 c_0 : Nat} {r : Int} (H : lib_slices_Index___int_int_ p0 p1 = some r)  (g0 : (eList eI 3).rd w [] p0 [.slice a_0 n_0 c_0]) :
    Calls Tryz.prog 91 #[.slice a_0 n_0 c_0, .int .i64 p1] w (fun en w' => en = .returned (.int .i64 r) ∧ Ext [] w w') := by
 obtain rfl := rd_n g0
 unfold lib_slices_Index___int_int_ at H
 refine f_enter Tryz.func91 rfl Tryz.ntmps91 rfl (St.init w []) <| sR <| oP rfl <| nQ <| c_seq <| sR <| ow_batch [.p, .lenS 39 3 sl39, .p] rfl <| nQ <| c_block <| CW.at (loopI1 (fun (i13 : Int) => St w [] []) (fun i13 => [(0, .slice a_0 p0.length c_0), (1, .int .i64 p1), (7, .int .i64 (p0.length : Int)), (8, .int .i64 i13)]) (fun kk => fun i13 => lib_slices_Index___int_int__L1 p0 p1 kk i13 = some r) (fun _ H => ?_) (fun k1 ihk1 i13 H => ?_) Fuel (0) (H)) (fun _ h => St.sel [] rfl rfl h) ⟨rfl, rfl, rfl, rfl,  trivial⟩
 ·unfold lib_slices_Index___int_int__L1 at H
  exact absurd H (by simp)
 ·unfold lib_slices_Index___int_int__L1 at H
  refine sR <| oP rfl <| nQ <| c_seq <| cI H rfl (fun H => ?_) (fun H => ?_)
  ·refine c_skip <| x_qs <| c_seq <| c_block <| sR <| oPP rfl <| nR <| ow_batch [.p, .p, .p] rfl <| bE H fun e18 h19 H => ow_ixE (e := eI) (xs := p0) (j := i13) rfl rfl rfl rfl rfl sl39 ty3 rfl (fun w1 hw1 => rds_bor g0 w1 hw1) h19 (by rw [Nat.mul_one]) <| o1 rfl (ry_load1 rfl rfl ty3 (at_elV (fun w1 hw1 => rds_bor g0 w1 hw1) h19)) <| oP rfl <| nQ <| cI H rfl (fun H => ?_) (fun H => ?_)
   ·exact sR <| oPP rfl <| nT <| x_qb_ret <| x_qs_ret <| x_ql_ret <| x_qb_ret <| x_qs_ret <| xr 4 rfl (by cases H; exact q1)
   ·exact c_skip <| x_qb <| x_qs <| c_reg <| oPP rfl <| ow_nil <| x_ql (RW.at (ihk1 (IntKind.i64.wrap (i13 + 1)) (H)) (fun _ h => St.sel [] rfl rfl h) ⟨rfl, rfl, rfl, rfl, trivial⟩)
  ·exact c_exit <| x_qs_exit <| x_ql_exit <| x_qb_here <| x_qs <| sR <| oP rfl <| nT <| xr 4 rfl (by cases H; exact q1)
theorem lib_slices_Contains___int_int__ok (w : World) {p0 : List Int} {p1 : Int} {a_0 : Option Addr} {n_0 c_0 : Nat} {r : Bool} (H : lib_slices_Contains___int_int_ p0 p1 = some r)  (g0 : (eList eI 3).rd w [] p0 [.slice a_0 n_0 c_0]) :
    Calls Tryz.prog 165 #[.slice a_0 n_0 c_0, .int .i64 p1] w (fun en w' => en = .returned (.bool r) ∧ Ext [] w w') := by
 obtain rfl := rd_n g0
 unfold lib_slices_Contains___int_int_ at H
 exact f_enter Tryz.func165 rfl Tryz.ntmps165 rfl (St.init w []) <| sR <| oP rfl <| nR <| oPP rfl <| bE H fun y10 h11 H => oq rfl (qc rfl fn91 (fun w1 hw1 => lib_slices_Index___int_int__ok w1  h11 (rds_bor g0 w1 hw1))) tt2 <| oPP rfl <| nT <| xr 4 rfl (by cases H; exact q1)
theorem impl_TreeOk_ok (w : World) {p0 : Timpl_Schema} {p1 : Timpl_Tree} {cs0 : List Value} {cs1 : List Value} {r : Bool} (H : impl_TreeOk p0 p1 = some r)  (g0 : (eTimpl_Schema).rd w [] p0 cs0) (g1 : (eTimpl_Tree).rd w [] p1 cs1) :
    Calls Tryz.prog 145 #[.agg cs0.toArray, .agg cs1.toArray] w (fun en w' => en = .returned (.bool r) ∧ Ext [] w w') := by
 obtain ⟨c10, c11, rfl, g12, g13⟩ := rdo_Timpl_Schema g0
 obtain ⟨a14, c15, rfl⟩ := rd_sl1 g12
 obtain ⟨a16, c17, rfl⟩ := rd_sl1 g13
 obtain ⟨c18, c19, rfl, g20, g21⟩ := rdo_Timpl_Tree g1
 obtain ⟨a22, c23, rfl⟩ := rd_sl1 g20
 obtain rfl := g21
 unfold impl_TreeOk at H
 refine f_enter Tryz.func145 rfl Tryz.ntmps145 rfl (St.init w []) <| sR <| ob _ rfl fun b24 => ob _ rfl fun b25 => oP rfl <| nQ <| c_seq <| sR <| o1 rfl (rx 0 0 _ rfl ty48 rfl) <| bE H fun y26 h27 H => oq rfl (qc rfl fn83 (fun w1 hw1 => impl_SchemaOk_ok w1 h27 (rdm_Timpl_Schema (rds_bor g12 w1 hw1) (rds_bor g13 w1 hw1)))) tt2 <| oPP rfl <| bE H fun u28 hu32 H => ow_cut [(17, .bool u28), (2, .pointer (some ⟨b24, 0, none⟩)), (3, .pointer (some ⟨b25, 0, none⟩))] 6 ?_ (fun key => OW.sub (R := [(2, .pointer (some ⟨b24, 0, none⟩)), (3, .pointer (some ⟨b25, 0, none⟩)), (11, .bool (!y26))]) ?_ (sb rfl))
 ·refine oP rfl <| bE H fun u33 hu37 H => ow_cut [(23, .bool u33), (2, .pointer (some ⟨b24, 0, none⟩)), (3, .pointer (some ⟨b25, 0, none⟩))] 5 ?_ (fun key => OW.sub (R := [(2, .pointer (some ⟨b24, 0, none⟩)), (3, .pointer (some ⟨b25, 0, none⟩)), (18, .bool u28)]) ?_ (sb rfl))
  ·refine nQ <| cI H rfl (fun H => ?_) (fun H => ?_)
   ·exact sR <| oP rfl <| nT <| x_qs_ret <| xr 4 rfl (by cases H; exact q1)
   ·refine c_skip <| x_qs <| c_seq <| sR <| ow_batch [.fa 93 0 0 fa93_0] rfl <| o1 rfl (r1 0 1 rfl ty91 rfl) <| ow_batch [.lenS 91 169 sl91, .p] rfl <| nQ <| c_block <| CW.at (loopI1 (fun (i134 : Int) => St w [] [Res.box b24 48 [.slice a14 p0.Attrs_.length c15, .slice a16 p0.Classes_.length c17], Res.box b25 93 [.slice a22 p1.Nodes_.length c23, .int .i64 p1.Seen_]]) (fun i134 => [(2, .pointer (some ⟨b24, 0, none⟩)), (3, .pointer (some ⟨b25, 0, none⟩)), (25, .slice a22 p1.Nodes_.length c23), (26, .int .i64 (p1.Nodes_.length : Int)), (27, .int .i64 i134)]) (fun kk => fun i134 => impl_TreeOk_L1 p1 p0 kk i134 = some r) (fun _ H => ?_) (fun k1 ihk1 i134 H => ?_) Fuel (0) (H)) (fun _ h => St.sel [0, 1] rfl rfl h) ⟨rfl, rfl, rfl, rfl, rfl,  trivial⟩
    ·unfold impl_TreeOk_L1 at H
     exact absurd H (by simp)
    ·unfold impl_TreeOk_L1 at H
     refine sR <| oP rfl <| nQ <| c_seq <| cI H rfl (fun H => ?_) (fun H => ?_)
     ·refine c_skip <| x_qs <| c_seq <| c_block <| sR <| oP rfl <| bE H fun e231 h232 H => ow_ixB rfl rfl rfl rfl rfl sl91 ty169 rfl g20 h232 fun q235 c236 hd233 hA234 => ?_
      obtain ⟨c237, c238, c239, c240, c241, c242, c243, c244, c245, c246, rfl, g247, g248, g249, g250, g251, g252, g253, g254, g255, g256⟩ := rdo_Timpl_Node hd233
      obtain rfl := g247
      obtain rfl := g248
      obtain ⟨a257, c258, rfl⟩ := rd_sl1 g249
      obtain rfl := g250
      obtain ⟨c259, c260, rfl, g261, g262⟩ := rdo_Timpl_Stats g251
      obtain ⟨a263, c264, rfl⟩ := rd_sl1 g261
      obtain ⟨a265, c266, rfl⟩ := rd_sl1 g262
      obtain rfl := g252
      obtain ⟨a267, c268, rfl⟩ := rd_sl1 g253
      obtain rfl := g254
      obtain rfl := g255
      obtain rfl := g256
      refine o1 rfl (ry_load (cs := [.bool e231.Leaf_, .int .i64 e231.Fork_.Attr_, .int .i64 e231.Fork_.At_, .slice a257 e231.Kids_.length c258, .int .i64 e231.Miss_, .slice a263 e231.Stats_.Totals_.length c264, .slice a265 e231.Stats_.Cells_.length c266, .int .i64 e231.Since_, .slice a267 e231.Attrs_.length c268, .int .i64 e231.Depth_, .int .i64 e231.Up_, .int .i64 e231.Born_]) rfl rfl ty169 (at_bor bor hA234) rfl) <| ow_alloc rfl rfl rfl rfl ty169 (fun _ => kp) fun b269 => oP rfl <| sC 0 [.bool e231.Leaf_, .int .i64 e231.Fork_.Attr_, .int .i64 e231.Fork_.At_, .slice a257 e231.Kids_.length c258, .int .i64 e231.Miss_, .slice a263 e231.Stats_.Totals_.length c264, .slice a265 e231.Stats_.Cells_.length c266, .int .i64 e231.Since_, .slice a267 e231.Attrs_.length c268, .int .i64 e231.Depth_, .int .i64 e231.Up_, .int .i64 e231.Born_] [_, _, _, _, _, _, _, _, _, _, _, _] 2 rfl ty169 rfl <| nQ <| c_seq <| sR <| o1 rfl (rx 0 0 _ rfl ty48 rfl) <| o1 rfl (rx 0 1 _ rfl ty93 rfl) <| oP rfl <| bE H fun y270 h271 H => oq rfl (qc rfl fn164 (fun w1 hw1 => impl_nodeOk_ok w1 h271 (rdm_Timpl_Schema (rds_bor g12 w1 hw1) (rds_bor g13 w1 hw1)) (rdm_Timpl_Tree (rds_bor g20 w1 hw1) rfl))) tt2 <| oP rfl <| nQ <| cI H rfl (fun H => ?_) (fun H => ?_)
      ·exact sR <| oP rfl <| nT <| x_qs_ret <| x_qb_ret <| x_qs_ret <| x_ql_ret <| x_qb_ret <| x_qs_ret <| xr 4 rfl (by cases H; exact q1)
      ·refine c_skip <| x_qs <| c_seq <| sR <| oPP rfl <| nQ <| cI H rfl (fun H => ?_) (fun H => ?_)
       ·refine c_seq <| sR <| ow_batch [.fa 169 8 10 fa169_8] rfl <| o1 rfl (r1 10 2 rfl ty3 rfl) <| oPP rfl <| ow_cut [(46, .bool ((e231.Up_ != (-1)) || (e231.Depth_ != 0))), (2, .pointer (some ⟨b24, 0, none⟩)), (3, .pointer (some ⟨b25, 0, none⟩)), (6, .pointer (some ⟨b269, 0, none⟩)), (25, .slice a22 p1.Nodes_.length c23), (26, .int .i64 (p1.Nodes_.length : Int)), (27, .int .i64 i134)] 4 ?_ (fun key => OW.sub (R := [(2, .pointer (some ⟨b24, 0, none⟩)), (3, .pointer (some ⟨b25, 0, none⟩)), (6, .pointer (some ⟨b269, 0, none⟩)), (25, .slice a22 p1.Nodes_.length c23), (26, .int .i64 (p1.Nodes_.length : Int)), (27, .int .i64 i134), (42, .bool (e231.Up_ != (-1)))]) ?_ (sb rfl))
        ·refine oP rfl <| ow_cut [(51, .bool (((e231.Up_ != (-1)) || (e231.Depth_ != 0)) || (e231.Born_ != 0))), (2, .pointer (some ⟨b24, 0, none⟩)), (3, .pointer (some ⟨b25, 0, none⟩)), (25, .slice a22 p1.Nodes_.length c23), (26, .int .i64 (p1.Nodes_.length : Int)), (27, .int .i64 i134)] 4 ?_ (fun key => OW.sub (R := [(2, .pointer (some ⟨b24, 0, none⟩)), (3, .pointer (some ⟨b25, 0, none⟩)), (6, .pointer (some ⟨b269, 0, none⟩)), (25, .slice a22 p1.Nodes_.length c23), (26, .int .i64 (p1.Nodes_.length : Int)), (27, .int .i64 i134), (47, .bool ((e231.Up_ != (-1)) || (e231.Depth_ != 0)))]) ?_ (sb rfl))
         ·refine nQ <| cI H rfl (fun H => ?_) (fun H => ?_)
          ·exact sR <| oP rfl <| nT <| x_qs_ret <| x_qs_ret <| x_qb_ret <| x_qs_ret <| x_ql_ret <| x_qb_ret <| x_qs_ret <| xr 4 rfl (by cases H; exact q1)
          ·exact c_skip <| x_qs <| c_exit <| x_qs_exit <| x_qb_here <| x_qs <| c_reg <| oPP rfl <| ow_nil <| x_ql (RW.at (ihk1 (IntKind.i64.wrap (i134 + 1)) (H)) (fun _ h => St.sel [0, 1] rfl rfl h) ⟨rfl, rfl, rfl, rfl, rfl, trivial⟩)
         ·generalize ((e231.Up_ != (-1)) || (e231.Depth_ != 0)) = t275 at key ⊢
          cases t275
          ·exact ow_batch [.fa 169 9 11 fa169_9] rfl <| o1 rfl (r1 11 2 rfl ty3 rfl) <| oP rfl <| oP rfl <| OW.sub key (sb rfl)
          ·exact ow_batch [.p, .p, .p, .p] rfl <| OW.sub key (sb rfl)
        ·generalize (e231.Up_ != (-1)) = t273 at key ⊢
         cases t273
         ·exact ow_batch [.fa 169 7 9 fa169_7] rfl <| o1 rfl (r1 9 2 rfl ty3 rfl) <| oP rfl <| oP rfl <| OW.sub key (sb rfl)
         ·exact ow_batch [.p, .p, .p, .p] rfl <| OW.sub key (sb rfl)
       ·refine c_skip <| x_qs <| c_seq <| sR <| ow_batch [.fa 169 8 10 fa169_8] rfl <| o1 rfl (r1 10 2 rfl ty3 rfl) <| oPP rfl <| bE H fun y276 h277 H => oq rfl (qc rfl fn84 (fun w1 hw1 => impl_within_ok w1  h277)) tt2 <| oP rfl <| nQ <| cI H rfl (fun H => ?_) (fun H => ?_)
        ·exact sR <| oP rfl <| nT <| x_qs_ret <| x_qb_ret <| x_qs_ret <| x_ql_ret <| x_qb_ret <| x_qs_ret <| xr 4 rfl (by cases H; exact q1)
        ·refine c_skip <| x_qs <| sR <| ow_batch [.fa 93 0 0 fa93_0] rfl <| o1 rfl (r1 0 1 rfl ty91 rfl) <| ow_batch [.fa 169 8 10 fa169_8] rfl <| o1 rfl (r1 10 2 rfl ty3 rfl) <| bE H fun e278 h279 H => ow_ixB rfl rfl rfl rfl rfl sl91 ty169 rfl g20 h279 fun q282 c283 hd280 hA281 => ?_
         obtain ⟨c284, c285, c286, c287, c288, c289, c290, c291, c292, c293, rfl, g294, g295, g296, g297, g298, g299, g300, g301, g302, g303⟩ := rdo_Timpl_Node hd280
         obtain rfl := g294
         obtain rfl := g295
         obtain ⟨a304, c305, rfl⟩ := rd_sl1 g296
         obtain rfl := g297
         obtain ⟨c306, c307, rfl, g308, g309⟩ := rdo_Timpl_Stats g298
         obtain ⟨a310, c311, rfl⟩ := rd_sl1 g308
         obtain ⟨a312, c313, rfl⟩ := rd_sl1 g309
         obtain rfl := g299
         obtain ⟨a314, c315, rfl⟩ := rd_sl1 g300
         obtain rfl := g301
         obtain rfl := g302
         obtain rfl := g303
         refine o1 rfl (ry_load (cs := [.bool e278.Leaf_, .int .i64 e278.Fork_.Attr_, .int .i64 e278.Fork_.At_, .slice a304 e278.Kids_.length c305, .int .i64 e278.Miss_, .slice a310 e278.Stats_.Totals_.length c311, .slice a312 e278.Stats_.Cells_.length c313, .int .i64 e278.Since_, .slice a314 e278.Attrs_.length c315, .int .i64 e278.Depth_, .int .i64 e278.Up_, .int .i64 e278.Born_]) rfl rfl ty169 (at_bor bor hA281) rfl) <| ow_alloc rfl rfl rfl rfl ty169 (fun _ => kp) fun b316 => sC 0 [.bool e278.Leaf_, .int .i64 e278.Fork_.Attr_, .int .i64 e278.Fork_.At_, .slice a304 e278.Kids_.length c305, .int .i64 e278.Miss_, .slice a310 e278.Stats_.Totals_.length c311, .slice a312 e278.Stats_.Cells_.length c313, .int .i64 e278.Since_, .slice a314 e278.Attrs_.length c315, .int .i64 e278.Depth_, .int .i64 e278.Up_, .int .i64 e278.Born_] [_, _, _, _, _, _, _, _, _, _, _, _] 3 rfl ty169 rfl <| nR <| ow_batch [.fa 169 0 0 fa169_0] rfl <| o1 rfl (r1 0 3 rfl ty4 rfl) <| oP rfl <| bE H fun u317 hu321 H => ow_cut [(72, .bool u317), (2, .pointer (some ⟨b24, 0, none⟩)), (3, .pointer (some ⟨b25, 0, none⟩)), (6, .pointer (some ⟨b269, 0, none⟩)), (7, .pointer (some ⟨b316, 0, none⟩)), (25, .slice a22 p1.Nodes_.length c23), (26, .int .i64 (p1.Nodes_.length : Int)), (27, .int .i64 i134)] 6 ?_ (fun key => OW.sub (R := [(2, .pointer (some ⟨b24, 0, none⟩)), (3, .pointer (some ⟨b25, 0, none⟩)), (5, .int .i64 i134), (6, .pointer (some ⟨b269, 0, none⟩)), (7, .pointer (some ⟨b316, 0, none⟩)), (25, .slice a22 p1.Nodes_.length c23), (26, .int .i64 (p1.Nodes_.length : Int)), (27, .int .i64 i134), (66, .bool e278.Leaf_)]) ?_ (sb rfl))
         ·refine oP rfl <| ow_cut [(80, .bool (u317 || (e278.Depth_ != (IntKind.i64.wrap (e231.Depth_ - 1))))), (2, .pointer (some ⟨b24, 0, none⟩)), (3, .pointer (some ⟨b25, 0, none⟩)), (6, .pointer (some ⟨b269, 0, none⟩)), (7, .pointer (some ⟨b316, 0, none⟩)), (25, .slice a22 p1.Nodes_.length c23), (26, .int .i64 (p1.Nodes_.length : Int)), (27, .int .i64 i134)] 7 ?_ (fun key => OW.sub (R := [(2, .pointer (some ⟨b24, 0, none⟩)), (3, .pointer (some ⟨b25, 0, none⟩)), (6, .pointer (some ⟨b269, 0, none⟩)), (7, .pointer (some ⟨b316, 0, none⟩)), (25, .slice a22 p1.Nodes_.length c23), (26, .int .i64 (p1.Nodes_.length : Int)), (27, .int .i64 i134), (73, .bool u317)]) ?_ (sb rfl))
          ·refine oP rfl <| ow_cut [(87, .bool ((u317 || (e278.Depth_ != (IntKind.i64.wrap (e231.Depth_ - 1)))) || (decide (e278.Born_ > e231.Born_)))), (2, .pointer (some ⟨b24, 0, none⟩)), (3, .pointer (some ⟨b25, 0, none⟩)), (25, .slice a22 p1.Nodes_.length c23), (26, .int .i64 (p1.Nodes_.length : Int)), (27, .int .i64 i134)] 6 ?_ (fun key => OW.sub (R := [(2, .pointer (some ⟨b24, 0, none⟩)), (3, .pointer (some ⟨b25, 0, none⟩)), (6, .pointer (some ⟨b269, 0, none⟩)), (7, .pointer (some ⟨b316, 0, none⟩)), (25, .slice a22 p1.Nodes_.length c23), (26, .int .i64 (p1.Nodes_.length : Int)), (27, .int .i64 i134), (81, .bool (u317 || (e278.Depth_ != (IntKind.i64.wrap (e231.Depth_ - 1)))))]) ?_ (sb rfl))
           ·refine nQ <| cI H rfl (fun H => ?_) (fun H => ?_)
            ·exact sR <| oP rfl <| nT <| x_qb_ret <| x_qs_ret <| x_ql_ret <| x_qb_ret <| x_qs_ret <| xr 4 rfl (by cases H; exact q1)
            ·exact c_skip <| x_qb <| x_qs <| c_reg <| oPP rfl <| ow_nil <| x_ql (RW.at (ihk1 (IntKind.i64.wrap (i134 + 1)) (H)) (fun _ h => St.sel [0, 1] rfl rfl h) ⟨rfl, rfl, rfl, rfl, rfl, trivial⟩)
           ·generalize (u317 || (e278.Depth_ != (IntKind.i64.wrap (e231.Depth_ - 1)))) = t325 at key ⊢
            cases t325
            ·exact ow_batch [.fa 169 9 11 fa169_9] rfl <| o1 rfl (r1 11 3 rfl ty3 rfl) <| ow_batch [.fa 169 9 11 fa169_9] rfl <| o1 rfl (r1 11 2 rfl ty3 rfl) <| oP rfl <| oP rfl <| OW.sub key (sb rfl)
            ·exact ow_batch [.p, .p, .p, .p, .p, .p] rfl <| OW.sub key (sb rfl)
          ·generalize u317 = t323 at key ⊢
           cases t323
           ·exact ow_batch [.fa 169 7 9 fa169_7] rfl <| o1 rfl (r1 9 3 rfl ty3 rfl) <| ow_batch [.fa 169 7 9 fa169_7] rfl <| o1 rfl (r1 9 2 rfl ty3 rfl) <| oPP rfl <| oP rfl <| OW.sub key (sb rfl)
           ·exact ow_batch [.p, .p, .p, .p, .p, .p, .p] rfl <| OW.sub key (sb rfl)
         ·clear H
          have H := hu321
          clear hu321
          generalize e278.Leaf_ = t320 at H key ⊢
          cases t320
          ·have H := of_if_f rfl H
           refine ow_batch [.fa 169 2 3 fa169_2] rfl <| o1 rfl (r1 3 3 rfl ty39 rfl) <| oP rfl <| bE H fun y318 h319 H => oq rfl (qc rfl fn165 (fun w1 hw1 => lib_slices_Contains___int_int__ok w1  h319 (rds_bor g296 w1 hw1))) tt2 <| oP rfl <| oP rfl <| ?_
           obtain rfl := of_some H
           exact OW.sub key (sb rfl)
          ·have H := of_if_t rfl H
           refine ow_batch [.p, .p, .p, .p, .p, .p] rfl ?_
           obtain rfl := of_some H
           exact OW.sub key (sb rfl)
     ·exact c_exit <| x_qs_exit <| x_ql_exit <| x_qb_here <| x_qs <| sR <| oP rfl <| nT <| xr 4 rfl (by cases H; exact q1)
  ·clear H
   have H := hu37
   clear hu37
   generalize u28 = t36 at H key ⊢
   cases t36
   ·have H := of_if_f rfl H
    refine ow_batch [.fa 93 1 1 fa93_1] rfl <| o1 rfl (r1 1 1 rfl ty3 rfl) <| bE H fun y34 h35 H => oq rfl (qc rfl fn84 (fun w1 hw1 => impl_within_ok w1  h35)) tt2 <| oP rfl <| oP rfl <| ?_
    obtain rfl := of_some H
    exact OW.sub key (sb rfl)
   ·have H := of_if_t rfl H
    refine ow_batch [.p, .p, .p, .p, .p] rfl ?_
    obtain rfl := of_some H
    exact OW.sub key (sb rfl)
 ·clear H
  have H := hu32
  clear hu32
  generalize (!y26) = t31 at H key ⊢
  cases t31
  ·have H := of_if_f rfl H
   refine ow_batch [.fa 93 0 0 fa93_0] rfl <| o1 rfl (r1 0 1 rfl ty91 rfl) <| ow_batch [.lenS 91 169 sl91] rfl <| bE H fun y29 h30 H => oq rfl (qc rfl fn84 (fun w1 hw1 => impl_within_ok w1  h30)) tt2 <| oP rfl <| oP rfl <| ?_
   obtain rfl := of_some H
   exact OW.sub key (sb rfl)
  ·have H := of_if_t rfl H
   refine ow_batch [.p, .p, .p, .p, .p, .p] rfl ?_
   obtain rfl := of_some H
   exact OW.sub key (sb rfl)
theorem impl_DepthOf_ok (w : World) {p0 : Timpl_Tree} {cs0 : List Value} {r : Int} (H : impl_DepthOf p0 = some r)  (g0 : (eTimpl_Tree).rd w [] p0 cs0) :
    Calls Tryz.prog 146 #[.agg cs0.toArray] w (fun en w' => en = .returned (.int .i64 r) ∧ Ext [] w w') := by
 obtain ⟨c10, c11, rfl, g12, g13⟩ := rdo_Timpl_Tree g0
 obtain ⟨a14, c15, rfl⟩ := rd_sl1 g12
 obtain rfl := g13
 unfold impl_DepthOf at H
 refine f_enter Tryz.func146 rfl Tryz.ntmps146 rfl (St.init w []) <| sR <| ob _ rfl fun b16 => oP rfl <| nQ <| c_seq <| sR <| ow_batch [.fa 93 0 0 fa93_0] rfl <| o1 rfl (r1 0 0 rfl ty91 rfl) <| ow_batch [.lenS 91 169 sl91, .p] rfl <| nQ <| cI H rfl (fun H => ?_) (fun H => ?_)
 ·exact sR <| oP rfl <| nT <| x_qs_ret <| xr 2 rfl (by cases H; exact q1)
 ·refine c_skip <| x_qs <| sR <| ow_batch [.fa 93 0 0 fa93_0] rfl <| o1 rfl (r1 0 0 rfl ty91 rfl) <| bE H fun e17 h18 H => ow_ixB rfl rfl rfl rfl rfl sl91 ty169 rfl g12 h18 fun q21 c22 hd19 hA20 => ?_
  obtain ⟨c23, c24, c25, c26, c27, c28, c29, c30, c31, c32, rfl, g33, g34, g35, g36, g37, g38, g39, g40, g41, g42⟩ := rdo_Timpl_Node hd19
  obtain rfl := g33
  obtain rfl := g34
  obtain ⟨a43, c44, rfl⟩ := rd_sl1 g35
  obtain rfl := g36
  obtain ⟨c45, c46, rfl, g47, g48⟩ := rdo_Timpl_Stats g37
  obtain ⟨a49, c50, rfl⟩ := rd_sl1 g47
  obtain ⟨a51, c52, rfl⟩ := rd_sl1 g48
  obtain rfl := g38
  obtain ⟨a53, c54, rfl⟩ := rd_sl1 g39
  obtain rfl := g40
  obtain rfl := g41
  obtain rfl := g42
  refine ow_batch [.fa 169 7 9 fa169_7] rfl <| o1 rfl (ry_load1 rfl rfl ty3 (at_bor bor (at_K hA20 9 1))) <| oP rfl <| nQ <| c_seq <| sR <| ow_batch [.fa 93 0 0 fa93_0] rfl <| o1 rfl (r1 0 0 rfl ty91 rfl) <| ow_batch [.lenS 91 169 sl91, .p] rfl <| nQ <| c_block <| CW.at (loopI2 (fun (i96 : Int) (i97 : Int) => St w [] []) (fun i96 i97 => [(3, .int .i64 i97), (16, .slice a14 p0.Nodes_.length c15), (17, .int .i64 (p0.Nodes_.length : Int)), (18, .int .i64 i96)]) (fun kk => fun i96 i97 => impl_DepthOf_L1 p0 kk i96 i97 = some r) (fun _ _ H => ?_) (fun k1 ihk1 i96 i97 H => ?_) Fuel (0) (e17.Depth_) (H)) (fun _ h => St.sel [] rfl rfl h) ⟨rfl, rfl, rfl, rfl,  trivial⟩
  ·unfold impl_DepthOf_L1 at H
   exact absurd H (by simp)
  ·unfold impl_DepthOf_L1 at H
   refine sR <| oP rfl <| nQ <| c_seq <| cI H rfl (fun H => ?_) (fun H => ?_)
   ·refine c_skip <| x_qs <| c_seq <| c_block <| sR <| bE H fun e139 h140 H => ow_ixB rfl rfl rfl rfl rfl sl91 ty169 rfl g12 h140 fun q143 c144 hd141 hA142 => ?_
    obtain ⟨c145, c146, c147, c148, c149, c150, c151, c152, c153, c154, rfl, g155, g156, g157, g158, g159, g160, g161, g162, g163, g164⟩ := rdo_Timpl_Node hd141
    obtain rfl := g155
    obtain rfl := g156
    obtain ⟨a165, c166, rfl⟩ := rd_sl1 g157
    obtain rfl := g158
    obtain ⟨c167, c168, rfl, g169, g170⟩ := rdo_Timpl_Stats g159
    obtain ⟨a171, c172, rfl⟩ := rd_sl1 g169
    obtain ⟨a173, c174, rfl⟩ := rd_sl1 g170
    obtain rfl := g160
    obtain ⟨a175, c176, rfl⟩ := rd_sl1 g161
    obtain rfl := g162
    obtain rfl := g163
    obtain rfl := g164
    exact o1 rfl (ry_load (cs := [.bool e139.Leaf_, .int .i64 e139.Fork_.Attr_, .int .i64 e139.Fork_.At_, .slice a165 e139.Kids_.length c166, .int .i64 e139.Miss_, .slice a171 e139.Stats_.Totals_.length c172, .slice a173 e139.Stats_.Cells_.length c174, .int .i64 e139.Since_, .slice a175 e139.Attrs_.length c176, .int .i64 e139.Depth_, .int .i64 e139.Up_, .int .i64 e139.Born_]) rfl rfl ty169 (at_bor bor hA142) rfl) <| ow_alloc rfl rfl rfl rfl ty169 (fun _ => kp) fun b177 => sC 0 [.bool e139.Leaf_, .int .i64 e139.Fork_.Attr_, .int .i64 e139.Fork_.At_, .slice a165 e139.Kids_.length c166, .int .i64 e139.Miss_, .slice a171 e139.Stats_.Totals_.length c172, .slice a173 e139.Stats_.Cells_.length c174, .int .i64 e139.Since_, .slice a175 e139.Attrs_.length c176, .int .i64 e139.Depth_, .int .i64 e139.Up_, .int .i64 e139.Born_] [_, _, _, _, _, _, _, _, _, _, _, _] 0 rfl ty169 rfl <| nQ <| c_reg <| ow_batch [.p, .fa 169 7 9 fa169_7] rfl <| o1 rfl (r1 9 0 rfl ty3 rfl) <| o1 rfl (ry_max rfl rfl rfl) <| oP rfl <| ow_nil <| x_qb <| x_qs <| c_reg <| oPP rfl <| ow_nil <| x_ql (RW.at (ihk1 (IntKind.i64.wrap (i96 + 1)) ((if i97 < e139.Depth_ then e139.Depth_ else i97)) (H)) (fun _ h => St.sel [] rfl rfl h) ⟨rfl, rfl, rfl, rfl, trivial⟩)
   ·exact c_exit <| x_qs_exit <| x_ql_exit <| x_qb_here <| x_qs <| sR <| oPP rfl <| nT <| xr 2 rfl (by cases H; exact q1)
theorem impl_UnitsOf_ok (w : World) {p0 : Timpl_Node} {cs0 : List Value} {r : Int} (H : impl_UnitsOf p0 = some r)  (g0 : (eTimpl_Node).rd w [] p0 cs0) :
    Calls Tryz.prog 166 #[.agg cs0.toArray] w (fun en w' => en = .returned (.int .i64 r) ∧ Ext [] w w') := by
 obtain ⟨c10, c11, c12, c13, c14, c15, c16, c17, c18, c19, rfl, g20, g21, g22, g23, g24, g25, g26, g27, g28, g29⟩ := rdo_Timpl_Node g0
 obtain rfl := g20
 obtain rfl := g21
 obtain ⟨a30, c31, rfl⟩ := rd_sl1 g22
 obtain rfl := g23
 obtain ⟨c32, c33, rfl, g34, g35⟩ := rdo_Timpl_Stats g24
 obtain ⟨a36, c37, rfl⟩ := rd_sl1 g34
 obtain ⟨a38, c39, rfl⟩ := rd_sl1 g35
 obtain rfl := g25
 obtain ⟨a40, c41, rfl⟩ := rd_sl1 g26
 obtain rfl := g27
 obtain rfl := g28
 obtain rfl := g29
 unfold impl_UnitsOf at H
 refine f_enter Tryz.func166 rfl Tryz.ntmps166 rfl (St.init w []) <| sR <| ob _ rfl fun b42 => oP rfl <| nQ <| c_seq <| sR <| ow_batch [.fa 169 0 0 fa169_0] rfl <| o1 rfl (r1 0 0 rfl ty4 rfl) <| oP rfl <| nQ <| cI H rfl (fun H => ?_) (fun H => ?_)
 ·exact sR <| oP rfl <| nT <| x_qs_ret <| xr 2 rfl (by cases H; exact q1)
 ·refine c_skip <| x_qs <| sR <| oP rfl <| nQ <| c_seq <| sR <| ow_batch [.fa 169 4 5 fa169_4, .fa 167 1 1 fa167_1] rfl <| o1 rfl (r1 6 0 rfl ty33 rfl) <| ow_batch [.lenS 33 39 sl33, .p] rfl <| nQ <| c_block <| CW.at (loopI2 (fun (i53 : Int) (i54 : Int) => St w [] []) (fun i53 i54 => [(3, .int .i64 i54), (11, .slice a38 p0.Stats_.Cells_.length c39), (12, .int .i64 (p0.Stats_.Cells_.length : Int)), (13, .int .i64 i53)]) (fun kk => fun i53 i54 => impl_UnitsOf_L1 p0 kk i53 i54 = some r) (fun _ _ H => ?_) (fun k1 ihk1 i53 i54 H => ?_) Fuel (0) (2) (H)) (fun _ h => St.sel [] rfl rfl h) ⟨rfl, rfl, rfl, rfl,  trivial⟩
  ·unfold impl_UnitsOf_L1 at H
   exact absurd H (by simp)
  ·unfold impl_UnitsOf_L1 at H
   refine sR <| oP rfl <| nQ <| c_seq <| cI H rfl (fun H => ?_) (fun H => ?_)
   ·refine c_skip <| x_qs <| c_seq <| c_block <| sR <| bE H fun e66 h67 H => ow_ixB rfl rfl rfl rfl rfl sl33 ty39 rfl g35 h67 fun q70 c71 hd68 hA69 => ?_
    obtain ⟨a72, c73, rfl⟩ := rd_sl1 hd68
    exact o1 rfl (ry_load1 rfl rfl ty39 (at_bor bor hA69)) <| oP rfl <| nQ <| c_reg <| ow_batch [.p, .p, .lenS 39 3 sl39, .p, .p] rfl <| ow_nil <| x_qb <| x_qs <| c_reg <| oPP rfl <| ow_nil <| x_ql (RW.at (ihk1 (IntKind.i64.wrap (i53 + 1)) (IntKind.i64.wrap (i54 + (e66.length : Int))) (H)) (fun _ h => St.sel [] rfl rfl h) ⟨rfl, rfl, rfl, rfl, trivial⟩)
   ·exact c_exit <| x_qs_exit <| x_ql_exit <| x_qb_here <| x_qs <| sR <| oPP rfl <| nT <| xr 2 rfl (by cases H; exact q1)
theorem impl_TreeUnits_ok (w : World) {p0 : Timpl_Tree} {cs0 : List Value} {r : Int} (H : impl_TreeUnits p0 = some r)  (g0 : (eTimpl_Tree).rd w [] p0 cs0) :
    Calls Tryz.prog 147 #[.agg cs0.toArray] w (fun en w' => en = .returned (.int .i64 r) ∧ Ext [] w w') := by
 obtain ⟨c10, c11, rfl, g12, g13⟩ := rdo_Timpl_Tree g0
 obtain ⟨a14, c15, rfl⟩ := rd_sl1 g12
 obtain rfl := g13
 unfold impl_TreeUnits at H
 refine f_enter Tryz.func147 rfl Tryz.ntmps147 rfl (St.init w []) <| sR <| ob _ rfl fun b16 => oP rfl <| nR <| oP rfl <| nQ <| c_seq <| sR <| ow_batch [.fa 93 0 0 fa93_0] rfl <| o1 rfl (r1 0 0 rfl ty91 rfl) <| ow_batch [.lenS 91 169 sl91, .p] rfl <| nQ <| c_block <| CW.at (loopI2 (fun (i60 : Int) (i61 : Int) => St w [] []) (fun i60 i61 => [(3, .int .i64 i60), (7, .slice a14 p0.Nodes_.length c15), (8, .int .i64 (p0.Nodes_.length : Int)), (9, .int .i64 i61)]) (fun kk => fun i60 i61 => impl_TreeUnits_L1 p0 kk i60 i61 = some r) (fun _ _ H => ?_) (fun k1 ihk1 i60 i61 H => ?_) Fuel (0) (0) (H)) (fun _ h => St.sel [] rfl rfl h) ⟨rfl, rfl, rfl, rfl,  trivial⟩
 ·unfold impl_TreeUnits_L1 at H
  exact absurd H (by simp)
 ·unfold impl_TreeUnits_L1 at H
  refine sR <| oP rfl <| nQ <| c_seq <| cI H rfl (fun H => ?_) (fun H => ?_)
  ·refine c_skip <| x_qs <| c_seq <| c_block <| sR <| bE H fun e105 h106 H => ow_ixB rfl rfl rfl rfl rfl sl91 ty169 rfl g12 h106 fun q109 c110 hd107 hA108 => ?_
   obtain ⟨c111, c112, c113, c114, c115, c116, c117, c118, c119, c120, rfl, g121, g122, g123, g124, g125, g126, g127, g128, g129, g130⟩ := rdo_Timpl_Node hd107
   obtain rfl := g121
   obtain rfl := g122
   obtain ⟨a131, c132, rfl⟩ := rd_sl1 g123
   obtain rfl := g124
   obtain ⟨c133, c134, rfl, g135, g136⟩ := rdo_Timpl_Stats g125
   obtain ⟨a137, c138, rfl⟩ := rd_sl1 g135
   obtain ⟨a139, c140, rfl⟩ := rd_sl1 g136
   obtain rfl := g126
   obtain ⟨a141, c142, rfl⟩ := rd_sl1 g127
   obtain rfl := g128
   obtain rfl := g129
   obtain rfl := g130
   exact o1 rfl (ry_load (cs := [.bool e105.Leaf_, .int .i64 e105.Fork_.Attr_, .int .i64 e105.Fork_.At_, .slice a131 e105.Kids_.length c132, .int .i64 e105.Miss_, .slice a137 e105.Stats_.Totals_.length c138, .slice a139 e105.Stats_.Cells_.length c140, .int .i64 e105.Since_, .slice a141 e105.Attrs_.length c142, .int .i64 e105.Depth_, .int .i64 e105.Up_, .int .i64 e105.Born_]) rfl rfl ty169 (at_bor bor hA108) rfl) <| ow_alloc rfl rfl rfl rfl ty169 (fun _ => kp) fun b143 => sC 0 [.bool e105.Leaf_, .int .i64 e105.Fork_.Attr_, .int .i64 e105.Fork_.At_, .slice a131 e105.Kids_.length c132, .int .i64 e105.Miss_, .slice a137 e105.Stats_.Totals_.length c138, .slice a139 e105.Stats_.Cells_.length c140, .int .i64 e105.Since_, .slice a141 e105.Attrs_.length c142, .int .i64 e105.Depth_, .int .i64 e105.Up_, .int .i64 e105.Born_] [_, _, _, _, _, _, _, _, _, _, _, _] 0 rfl ty169 rfl <| nQ <| c_reg <| oP rfl <| o1 rfl (rx 0 0 _ rfl ty169 rfl) <| bE H fun y144 h145 H => oq rfl (qc rfl fn166 (fun w1 hw1 => impl_UnitsOf_ok w1 h145 (rdm_Timpl_Node rfl rfl (rds_bor g123 w1 hw1) rfl (rdm_Timpl_Stats (rds_bor g135 w1 hw1) (rds_bor g136 w1 hw1)) rfl (rds_bor g127 w1 hw1) rfl rfl rfl))) tt2 <| oPP rfl <| ow_nil <| x_qb <| x_qs <| c_reg <| oPP rfl <| ow_nil <| x_ql (RW.at (ihk1 (IntKind.i64.wrap (i60 + y144)) (IntKind.i64.wrap (i61 + 1)) (H)) (fun _ h => St.sel [] rfl rfl h) ⟨rfl, rfl, rfl, rfl, trivial⟩)
  ·exact c_exit <| x_qs_exit <| x_ql_exit <| x_qb_here <| x_qs <| sR <| oPP rfl <| nT <| xr 2 rfl (by cases H; exact q1)
theorem impl_Fits_ok (w : World) {p0 : Timpl_Schema} {p1 : Timpl_Rule} {p2 : Timpl_Tree} {cs0 : List Value} {cs2 : List Value} {r : Bool} (H : impl_Fits p0 p1 p2 = some r)  (g0 : (eTimpl_Schema).rd w [] p0 cs0) (g2 : (eTimpl_Tree).rd w [] p2 cs2) :
    Calls Tryz.prog 119 #[.agg cs0.toArray, .agg #[.int .i64 p1.Sure_, .int .i64 p1.Tie_, .int .i64 p1.Grace_, .int .i64 p1.Depth_, .int .i64 p1.Nodes_, .int .i64 p1.Units_, .bool p1.Two_], .agg cs2.toArray] w (fun en w' => en = .returned (.bool r) ∧ Ext [] w w') := by
 obtain ⟨c10, c11, rfl, g12, g13⟩ := rdo_Timpl_Schema g0
 obtain ⟨a14, c15, rfl⟩ := rd_sl1 g12
 obtain ⟨a16, c17, rfl⟩ := rd_sl1 g13
 obtain ⟨c18, c19, rfl, g20, g21⟩ := rdo_Timpl_Tree g2
 obtain ⟨a22, c23, rfl⟩ := rd_sl1 g20
 obtain rfl := g21
 unfold impl_Fits at H
 refine f_enter Tryz.func119 rfl Tryz.ntmps119 rfl (St.init w []) <| sR <| ob _ rfl fun b24 => ob _ rfl fun b25 => ob _ rfl fun b26 => oP rfl <| nQ <| c_seq <| c_regQ mixed (by kernel_rfl) <| o1 rfl (rx 0 0 _ rfl ty48 rfl) <| o1 rfl (rx 0 2 _ rfl ty93 rfl) <| bE H fun y27 h28 H => oq rfl (qc rfl fn145 (fun w1 hw1 => impl_TreeOk_ok w1 h28 (rdm_Timpl_Schema (rds_bor g12 w1 hw1) (rds_bor g13 w1 hw1)) (rdm_Timpl_Tree (rds_bor g20 w1 hw1) rfl))) tt2 <| oP rfl <| bE H fun u29 hu33 H => ow_cut [(13, .bool u29), (4, .pointer (some ⟨b25, 0, none⟩)), (5, .pointer (some ⟨b26, 0, none⟩)), (6, .bool false)] 3 ?_ (fun key => OW.sub (R := [(4, .pointer (some ⟨b25, 0, none⟩)), (5, .pointer (some ⟨b26, 0, none⟩)), (6, .bool false), (10, .bool y27)]) ?_ (sb rfl))
 ·refine oP rfl <| ow_cut [(21, .bool (u29 && (decide ((p2.Nodes_.length : Int) ≤ p1.Nodes_)))), (4, .pointer (some ⟨b25, 0, none⟩)), (5, .pointer (some ⟨b26, 0, none⟩)), (6, .bool false)] 7 ?_ (fun key => OW.sub (R := [(4, .pointer (some ⟨b25, 0, none⟩)), (5, .pointer (some ⟨b26, 0, none⟩)), (6, .bool false), (14, .bool u29)]) ?_ (sb rfl))
  ·refine oP rfl <| bE H fun u36 hu40 H => ow_cut [(28, .bool u36), (4, .pointer (some ⟨b25, 0, none⟩)), (5, .pointer (some ⟨b26, 0, none⟩)), (6, .bool false)] 6 ?_ (fun key => OW.sub (R := [(4, .pointer (some ⟨b25, 0, none⟩)), (5, .pointer (some ⟨b26, 0, none⟩)), (6, .bool false), (22, .bool (u29 && (decide ((p2.Nodes_.length : Int) ≤ p1.Nodes_))))]) ?_ (sb rfl))
   ·refine oP rfl <| bE H fun u41 hu45 H => ow_cut [(35, .bool u41), (6, .bool false)] 6 ?_ (fun key => OW.sub (R := [(4, .pointer (some ⟨b25, 0, none⟩)), (5, .pointer (some ⟨b26, 0, none⟩)), (6, .bool false), (29, .bool u36)]) ?_ (sb rfl))
    ·exact oP rfl <| ow_nilQ <| x_qs <| c_ret <| xr 6 rfl (by cases H; exact q1)
    ·clear H
     have H := hu45
     clear hu45
     generalize u36 = t44 at H key ⊢
     cases t44
     ·have H := of_if_f rfl H
      refine ow_batch [.p, .p, .p, .p, .p, .p] rfl ?_
      obtain rfl := of_some H
      exact OW.sub key (sb rfl)
     ·have H := of_if_t rfl H
      refine o1 rfl (rx 0 2 _ rfl ty93 rfl) <| bE H fun y42 h43 H => oq rfl (qc rfl fn147 (fun w1 hw1 => impl_TreeUnits_ok w1 h43 (rdm_Timpl_Tree (rds_bor g20 w1 hw1) rfl))) tt2 <| ow_batch [.fa 49 5 5 fa49_5] rfl <| o1 rfl (r1 5 1 rfl ty3 rfl) <| oP rfl <| oP rfl <| ?_
      obtain rfl := of_some H
      exact OW.sub key (sb rfl)
   ·clear H
    have H := hu40
    clear hu40
    generalize (u29 && (decide ((p2.Nodes_.length : Int) ≤ p1.Nodes_))) = t39 at H key ⊢
    cases t39
    ·have H := of_if_f rfl H
     refine ow_batch [.p, .p, .p, .p, .p, .p] rfl ?_
     obtain rfl := of_some H
     exact OW.sub key (sb rfl)
    ·have H := of_if_t rfl H
     refine o1 rfl (rx 0 2 _ rfl ty93 rfl) <| bE H fun y37 h38 H => oq rfl (qc rfl fn146 (fun w1 hw1 => impl_DepthOf_ok w1 h38 (rdm_Timpl_Tree (rds_bor g20 w1 hw1) rfl))) tt2 <| ow_batch [.fa 49 3 3 fa49_3] rfl <| o1 rfl (r1 3 1 rfl ty3 rfl) <| oP rfl <| oP rfl <| ?_
     obtain rfl := of_some H
     exact OW.sub key (sb rfl)
  ·generalize u29 = t35 at key ⊢
   cases t35
   ·exact ow_batch [.p, .p, .p, .p, .p, .p, .p] rfl <| OW.sub key (sb rfl)
   ·exact ow_batch [.fa 93 0 0 fa93_0] rfl <| o1 rfl (r1 0 2 rfl ty91 rfl) <| ow_batch [.lenS 91 169 sl91, .fa 49 4 4 fa49_4] rfl <| o1 rfl (r1 4 1 rfl ty3 rfl) <| oP rfl <| oP rfl <| OW.sub key (sb rfl)
 ·clear H
  have H := hu33
  clear hu33
  generalize y27 = t32 at H key ⊢
  cases t32
  ·have H := of_if_f rfl H
   refine ow_batch [.p, .p, .p] rfl ?_
   obtain rfl := of_some H
   exact OW.sub key (sb rfl)
  ·have H := of_if_t rfl H
   refine o1 rfl (rx 0 1 _ rfl ty49 rfl) <| bE H fun y30 h31 H => oq rfl (qc rfl fn116 (fun w1 hw1 => impl_RuleOk_ok w1 (p0 := p1) h31)) tt2 <| oP rfl <| ?_
   obtain rfl := of_some H
   exact OW.sub key (sb rfl)
theorem impl_WindowOk_1_ok (w : World) {p0 : Int} {p1 : Int} {q_1 : Addr} {cs_1 : List Value} {r : Bool} (H : impl_WindowOk_1 p0 p1 = some r)  (g_1 : eI.rd w [] p1 cs_1) (hA_1 : At w [] q_1 cs_1) :
    Calls Tryz.prog 168 #[.int .i64 p0, .pointer (some q_1)] w (fun en w' => en = .returned (.bool r) ∧ Ext [] w w') := by
 obtain rfl := g_1
 unfold impl_WindowOk_1 at H
 exact f_enter Tryz.func168 rfl Tryz.ntmps168 rfl (St.init w []) <| sR <| oP rfl <| nR <| oP rfl <| o1 rfl (ry_load1 rfl rfl ty3 (at_bor bor hA_1)) <| bE H fun x10 h11 H => o1 rfl (ry_shl rfl rfl rfl h11) <| bE H fun y12 h13 H => oq rfl (qc rfl fn84 (fun w1 hw1 => impl_within_ok w1  h13)) tt2 <| oPP rfl <| nT <| xr 3 rfl (by cases H; exact q1)
theorem lib_slices_IndexFunc___int_int___impl_WindowOk_1_ok (w : World) {p0 : List Int} {p1_0 : Int} {a_0 : Option Addr} {n_0 c_0 : Nat} {q_1_0 : Addr} {cs_1_0 : List Value} {r : Int} (H : lib_slices_IndexFunc___int_int___impl_WindowOk_1 p0 p1_0 = some r)  (g0 : (eList eI 3).rd w [] p0 [.slice a_0 n_0 c_0]) (g_1_0 : eI.rd w [] p1_0 cs_1_0) (hA_1_0 : At w [] q_1_0 cs_1_0) :
    Calls Tryz.prog 188 #[.slice a_0 n_0 c_0, .func (.func 168) #[] #[.pointer (some q_1_0)]] w (fun en w' => en = .returned (.int .i64 r) ∧ Ext [] w w') := by
 obtain rfl := rd_n g0
 obtain rfl := g_1_0
 unfold lib_slices_IndexFunc___int_int___impl_WindowOk_1 at H
 refine f_enter Tryz.func188 rfl Tryz.ntmps188 rfl (St.init w []) <| sR <| oP rfl <| nQ <| c_seq <| sR <| ow_batch [.p, .lenS 39 3 sl39, .p] rfl <| nQ <| c_block <| CW.at (loopI1 (fun (i15 : Int) => St w [] []) (fun i15 => [(0, .slice a_0 p0.length c_0), (1, .func (.func 168) #[] #[.pointer (some q_1_0)]), (7, .int .i64 (p0.length : Int)), (8, .int .i64 i15)]) (fun kk => fun i15 => lib_slices_IndexFunc___int_int___impl_WindowOk_1_L1 p0 p1_0 kk i15 = some r) (fun _ H => ?_) (fun k1 ihk1 i15 H => ?_) Fuel (0) (H)) (fun _ h => St.sel [] rfl rfl h) ⟨rfl, rfl, rfl, rfl,  trivial⟩
 ·unfold lib_slices_IndexFunc___int_int___impl_WindowOk_1_L1 at H
  exact absurd H (by simp)
 ·unfold lib_slices_IndexFunc___int_int___impl_WindowOk_1_L1 at H
  refine sR <| oP rfl <| nQ <| c_seq <| cI H rfl (fun H => ?_) (fun H => ?_)
  ·refine c_skip <| x_qs <| c_seq <| c_block <| sR <| oPP rfl <| nR <| ow_batch [.p, .p, .p] rfl <| bE H fun e21 h22 H => ow_ixE (e := eI) (xs := p0) (j := i15) rfl rfl rfl rfl rfl sl39 ty3 rfl (fun w1 hw1 => rds_bor g0 w1 hw1) h22 (by rw [Nat.mul_one]) <| o1 rfl (ry_load1 rfl rfl ty3 (at_elV (fun w1 hw1 => rds_bor g0 w1 hw1) h22)) <| bE H fun y23 h24 H => ow_q rfl rfl (dstOk_lt rfl) (qy_callV (cap := [.pointer (some q_1_0)]) rfl fn168 rfl rfl (fun w1 hw1 => impl_WindowOk_1_ok w1 (cs_1 := [.int .i64 p1_0]) h24 rfl (at_bor bor hA_1_0 w1 hw1))) (fun _ _ => trivial) <| nQ <| cI H rfl (fun H => ?_) (fun H => ?_)
   ·exact sR <| oPP rfl <| nT <| x_qb_ret <| x_qs_ret <| x_ql_ret <| x_qb_ret <| x_qs_ret <| xr 4 rfl (by cases H; exact q1)
   ·exact c_skip <| x_qb <| x_qs <| c_reg <| oPP rfl <| ow_nil <| x_ql (RW.at (ihk1 (IntKind.i64.wrap (i15 + 1)) (H)) (fun _ h => St.sel [] rfl rfl h) ⟨rfl, rfl, rfl, rfl, trivial⟩)
  ·exact c_exit <| x_qs_exit <| x_ql_exit <| x_qb_here <| x_qs <| sR <| oP rfl <| nT <| xr 4 rfl (by cases H; exact q1)
theorem lib_slices_ContainsFunc___int_int___impl_WindowOk_1_ok (w : World) {p0 : List Int} {p1_0 : Int} {a_0 : Option Addr} {n_0 c_0 : Nat} {q_1_0 : Addr} {cs_1_0 : List Value} {r : Bool} (H : lib_slices_ContainsFunc___int_int___impl_WindowOk_1 p0 p1_0 = some r)  (g0 : (eList eI 3).rd w [] p0 [.slice a_0 n_0 c_0]) (g_1_0 : eI.rd w [] p1_0 cs_1_0) (hA_1_0 : At w [] q_1_0 cs_1_0) :
    Calls Tryz.prog 167 #[.slice a_0 n_0 c_0, .func (.func 168) #[] #[.pointer (some q_1_0)]] w (fun en w' => en = .returned (.bool r) ∧ Ext [] w w') := by
 obtain rfl := rd_n g0
 obtain rfl := g_1_0
 unfold lib_slices_ContainsFunc___int_int___impl_WindowOk_1 at H
 exact f_enter Tryz.func167 rfl Tryz.ntmps167 rfl (St.init w []) <| sR <| oP rfl <| nR <| oPP rfl <| bE H fun y10 h11 H => oq rfl (qc rfl fn188 (fun w1 hw1 => lib_slices_IndexFunc___int_int___impl_WindowOk_1_ok w1 (cs_1_0 := [.int .i64 p1_0]) h11 (rds_bor g0 w1 hw1) rfl (at_bor bor hA_1_0 w1 hw1))) tt2 <| oPP rfl <| nT <| xr 4 rfl (by cases H; exact q1)
end Go.Vk
