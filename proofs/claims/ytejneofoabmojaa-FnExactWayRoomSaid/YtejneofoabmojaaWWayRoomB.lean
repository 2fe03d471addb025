/- The code does what the functions of data say. Printed by program. -/

import Derived.Test.YtejneofoabmojaaWWayRoomA

namespace Go.Vk

open Go.Proofs Go.RowKit



set_option maxHeartbeats 4000000 in
set_option maxRecDepth 100000 in
theorem impl_WayRoom_ok (w : World) {p0 : Timpl_Schema} {p1 : Timpl_Way} {cs0 : List Value} {cs1 : List Value} {r : Int} (H : impl_WayRoom p0 p1 = some r)  (g0 : (eTimpl_Schema).rd w [] p0 cs0) (g1 : (eTimpl_Way).rd w [] p1 cs1) :
    Calls Try.prog 27 #[.agg cs0.toArray, .agg cs1.toArray] w (fun en w' => en = .returned (.int .i64 r) ∧ Ext [] w w') := by
  obtain ⟨c1, c2, rfl, g3, g4⟩ := rdo_Timpl_Schema g0
  obtain ⟨a5, c6, rfl⟩ := rd_sl1 g3
  obtain ⟨a7, c8, rfl⟩ := rd_sl1 g4
  obtain ⟨c9, c10, rfl, g11, g12⟩ := rdo_Timpl_Way g1
  obtain rfl : c9 = [.int .i64 p1.Leaf_] := g11
  obtain ⟨a13, c14, rfl⟩ := rd_sl1 g12
  unfold impl_WayRoom at H
  refine f_enter (vs := [.agg #[.slice a5 p0.Attrs_.length c6, .slice a7 p0.Classes_.length c8], .agg #[.int .i64 p1.Leaf_, .slice a13 p1.Masks_.length c14]]) Try.func27 rfl Try.ntmps27 rfl (St.init w []) ?_
  refine c_seq ?_
  refine c_reg ?_
  refine ow_box (cs := [.slice a5 p0.Attrs_.length c6, .slice a7 p0.Classes_.length c8]) rfl rfl rfl rfl rfl rfl (fun _ => kp) (fun b15 => ?_)
  refine ow_box (cs := [.int .i64 p1.Leaf_, .slice a13 p1.Masks_.length c14]) rfl rfl rfl rfl rfl rfl (fun _ => kp) (fun b16 => ?_)
  refine ow_batch [.p] rfl ?_
  refine ow_nil ?_
  refine x_qs ?_
  refine c_seq ?_
  refine c_seq ?_
  refine c_reg ?_
  refine ow_r rfl (dstOk_lt rfl) (ry_box (off := 0) (ds := [.slice a5 p0.Attrs_.length c6, .slice a7 p0.Classes_.length c8]) rfl rfl ty39 (boxIn (i := 0) rfl) rfl rfl) ?_
  refine ow_r rfl (dstOk_lt rfl) (ry_box (off := 0) (ds := [.int .i64 p1.Leaf_, .slice a13 p1.Masks_.length c14]) rfl rfl ty47 (boxIn (i := 1) rfl) rfl rfl) ?_
  obtain ⟨y17, h18, H⟩ := of_bind H
  refine ow_q rfl rfl (dstOk_lt rfl) (qy_call rfl fn24 rfl (fun w1 hw1 => impl_WayOk_ok w1 (cs0 := [.slice a5 p0.Attrs_.length c6, .slice a7 p0.Classes_.length c8]) (cs1 := [.int .i64 p1.Leaf_, .slice a13 p1.Masks_.length c14]) h18 (rdm_Timpl_Schema (x := p0) (c0 := [.slice a5 p0.Attrs_.length c6]) (c1 := [.slice a7 p0.Classes_.length c8]) (rds_bor g3 w1 hw1) (rds_bor g4 w1 hw1)) (rdm_Timpl_Way (x := p1) (c0 := [.int .i64 p1.Leaf_]) (c1 := [.slice a13 p1.Masks_.length c14]) rfl (rds_bor g12 w1 hw1)))) (fun _ _ => trivial) ?_
  refine ow_batch [.p] rfl ?_
  refine ow_nil ?_
  refine x_qs ?_
  refine c_if rfl (fun hb => ?_) (fun hb => ?_)
  · have H := of_if_t hb H
    refine c_seq ?_
    refine c_reg ?_
    refine ow_batch [.p] rfl ?_
    refine ow_nil ?_
    refine x_qs ?_
    refine c_ret ?_
    refine x_qs_ret ?_
    exact x_retR (rs := [.tmp 4]) (vs := [.int .i64 0]) rfl ⟨rfl, trivial⟩ (fun w' hw' => by
        obtain rfl := of_some H
        exact ⟨rfl, hw'.ext⟩)
  · have H := of_if_f hb H
    refine c_skip ?_
    refine x_qs ?_
    refine c_seq ?_
    refine c_reg ?_
    refine ow_batch [.p] rfl ?_
    refine ow_nil ?_
    refine x_qs ?_
    refine c_seq ?_
    refine c_seq ?_
    refine c_reg ?_
    refine ow_batch [.fa 47 1 1 fa47_1] rfl ?_
    refine ow_r rfl (dstOk_lt rfl) (ry_box1 (off := 1) rfl rfl ty22 (boxIn (i := 1) rfl) rfl) ?_
    refine ow_batch [.lenS 22 3 sl22, .p] rfl ?_
    refine ow_nil ?_
    refine x_qs ?_
    refine c_block ?_
    refine CW.at (loopI2 (fun (i25 : Int) (i26 : Int) => St w [] []) (fun (i25 : Int) (i26 : Int) => [(5, .int .i64 i26), (13, .slice a13 p1.Masks_.length c14), (14, .int .i64 (p1.Masks_.length : Int)), (15, .int .i64 i25)]) (fun kk => fun (i25 : Int) (i26 : Int) => impl_WayRoom_L1 p1 kk i25 i26 = some r) (fun _ _ H => ?_) (fun k1 ihk1 i25 i26 H => ?_) Fuel (0) (1) (H)) (fun _ h => St.sel [] rfl rfl h) ⟨rfl, rfl, rfl, rfl,  trivial⟩
    · unfold impl_WayRoom_L1 at H
      exact absurd H (by simp)
    · unfold impl_WayRoom_L1 at H
      refine c_seq ?_
      refine c_reg ?_
      refine ow_batch [.p] rfl ?_
      refine ow_nil ?_
      refine x_qs ?_
      refine c_seq ?_
      refine c_if rfl (fun hb => ?_) (fun hb => ?_)
      · have H := of_if_t hb H
        refine c_skip ?_
        refine x_qs ?_
        refine c_seq ?_
        refine c_block ?_
        refine c_seq ?_
        refine c_reg ?_
        obtain ⟨e34, h35, H⟩ := of_bind H
        refine ow_ixE (e := eVal (Value.int .i64) (fun _ => rfl)) (xs := p1.Masks_) (j := i25) rfl rfl rfl rfl rfl sl22 ty3 rfl (fun w1 hw1 => rds_bor g12 w1 hw1) h35 (by rw [Nat.mul_one]) ?_
        refine ow_r rfl (dstOk_lt rfl) (ry_load1 rfl rfl ty3 (at_elV (fun w1 hw1 => rds_bor g12 w1 hw1) h35)) ?_
        refine ow_batch [.p] rfl ?_
        refine ow_nil ?_
        refine x_qs ?_
        refine c_reg ?_
        refine ow_batch [.p, .p, .cv 3 105 .u64 us3 in105] rfl ?_
        obtain ⟨y36, h37, H⟩ := of_bind H
        refine ow_q rfl rfl (dstOk_lt rfl) (qy_call rfl fn73 rfl (fun w1 hw1 => lib_bits_OnesCount_ok w1  h37)) (fun _ _ => trivial) ?_
        refine ow_batch [.p, .p] rfl ?_
        refine ow_nil ?_
        refine x_qb ?_
        refine x_qs ?_
        refine c_reg ?_
        refine ow_batch [.p, .p] rfl ?_
        refine ow_nil ?_
        exact x_ql (RW.at (ihk1 (IntKind.i64.wrap (i25 + 1)) (IntKind.i64.wrap (i26 * y36)) (H)) (fun _ h => St.sel [] rfl rfl h) ⟨rfl, rfl, rfl, rfl, trivial⟩)
      · have H := of_if_f hb H
        refine c_exit ?_
        refine x_qs_exit ?_
        refine x_ql_exit ?_
        refine x_qb_here ?_
        refine x_qs ?_
        refine c_seq ?_
        refine c_reg ?_
        refine ow_batch [.p, .p] rfl ?_
        refine ow_nil ?_
        refine x_qs ?_
        refine c_ret ?_
        exact x_retR (rs := [.tmp 4]) (vs := [.int .i64 i26]) rfl ⟨rfl, trivial⟩ (fun w' hw' => by
            obtain rfl := of_some H
            exact ⟨rfl, hw'.ext⟩)

set_option maxHeartbeats 4000000 in
set_option maxRecDepth 100000 in
theorem laws_FnExactWayRoom_ok (w : World) {p0 : Tlaws_Schema} {p1 : Tlaws_Way} {cs0 : List Value} {cs1 : List Value} {r : Bool} (H : laws_FnExactWayRoom p0 p1 = some r)  (g0 : (eTlaws_Schema).rd w [] p0 cs0) (g1 : (eTlaws_Way).rd w [] p1 cs1) :
    Calls Try.prog 6 #[.agg cs0.toArray, .agg cs1.toArray] w (fun en w' => en = .returned (.bool r) ∧ Ext [] w w') := by
  obtain ⟨c1, c2, rfl, g3, g4⟩ := rdo_Tlaws_Schema g0
  obtain ⟨a5, c6, rfl⟩ := rd_sl1 g3
  obtain ⟨a7, c8, rfl⟩ := rd_sl1 g4
  obtain ⟨c9, c10, rfl, g11, g12⟩ := rdo_Tlaws_Way g1
  obtain rfl : c9 = [.int .i64 p1.Leaf_] := g11
  obtain ⟨a13, c14, rfl⟩ := rd_sl1 g12
  unfold laws_FnExactWayRoom at H
  refine f_enter (vs := [.agg #[.slice a5 p0.Attrs_.length c6, .slice a7 p0.Classes_.length c8], .agg #[.int .i64 p1.Leaf_, .slice a13 p1.Masks_.length c14]]) Try.func6 rfl Try.ntmps6 rfl (St.init w []) ?_
  refine c_seq ?_
  refine c_reg ?_
  refine ow_box (cs := [.slice a5 p0.Attrs_.length c6, .slice a7 p0.Classes_.length c8]) rfl rfl rfl rfl rfl rfl (fun _ => kp) (fun b15 => ?_)
  refine ow_box (cs := [.int .i64 p1.Leaf_, .slice a13 p1.Masks_.length c14]) rfl rfl rfl rfl rfl rfl (fun _ => kp) (fun b16 => ?_)
  refine ow_batch [.p] rfl ?_
  refine ow_nil ?_
  refine x_qs ?_
  refine c_seq ?_
  refine c_reg ?_
  refine ow_batch [.p] rfl ?_
  refine ow_nil ?_
  refine x_qs ?_
  refine c_seq ?_
  refine c_reg ?_
  refine ow_r rfl (dstOk_lt rfl) (ry_box (off := 0) (ds := [.slice a5 p0.Attrs_.length c6, .slice a7 p0.Classes_.length c8]) rfl rfl ty34 (boxIn (i := 0) rfl) rfl rfl) ?_
  refine ow_batch [.p] rfl ?_
  obtain ⟨y17, h18, H⟩ := of_bind H
  refine ow_q rfl rfl (dstOk_lt rfl) (qy_call rfl fn16 rfl (fun w1 hw1 => laws_szSchema_ok w1 (cs0 := [.slice a5 p0.Attrs_.length c6, .slice a7 p0.Classes_.length c8]) h18 (rdm_Tlaws_Schema (x := p0) (c0 := [.slice a5 p0.Attrs_.length c6]) (c1 := [.slice a7 p0.Classes_.length c8]) (rds_bor g3 w1 hw1) (rds_bor g4 w1 hw1)))) (fun _ _ => trivial) ?_
  refine ow_batch [.p] rfl ?_
  refine ow_nil ?_
  refine x_qs ?_
  refine c_seq ?_
  refine c_seq ?_
  refine c_reg ?_
  refine ow_batch [.p, .p] rfl ?_
  refine ow_nil ?_
  refine x_qs ?_
  refine c_if rfl (fun hb => ?_) (fun hb => ?_)
  · have H := of_if_t hb H
    refine c_seq ?_
    refine c_reg ?_
    refine ow_batch [.p] rfl ?_
    refine ow_nil ?_
    refine x_qs ?_
    refine c_ret ?_
    refine x_qs_ret ?_
    exact x_retR (rs := [.tmp 4]) (vs := [.bool true]) rfl ⟨rfl, trivial⟩ (fun w' hw' => by
        obtain rfl := of_some H
        exact ⟨rfl, hw'.ext⟩)
  · have H := of_if_f hb H
    refine c_skip ?_
    refine x_qs ?_
    refine c_seq ?_
    refine c_reg ?_
    refine ow_r rfl (dstOk_lt rfl) (ry_box (off := 0) (ds := [.int .i64 p1.Leaf_, .slice a13 p1.Masks_.length c14]) rfl rfl ty44 (boxIn (i := 1) rfl) rfl rfl) ?_
    refine ow_batch [.p] rfl ?_
    obtain ⟨y19, h20, H⟩ := of_bind H
    refine ow_q rfl rfl (dstOk_lt rfl) (qy_call rfl fn21 rfl (fun w1 hw1 => laws_szWay_ok w1 (cs0 := [.int .i64 p1.Leaf_, .slice a13 p1.Masks_.length c14]) h20 (rdm_Tlaws_Way (x := p1) (c0 := [.int .i64 p1.Leaf_]) (c1 := [.slice a13 p1.Masks_.length c14]) rfl (rds_bor g12 w1 hw1)))) (fun _ _ => trivial) ?_
    refine ow_batch [.p] rfl ?_
    refine ow_nil ?_
    refine x_qs ?_
    refine c_seq ?_
    refine c_seq ?_
    refine c_reg ?_
    refine ow_batch [.p, .p] rfl ?_
    refine ow_nil ?_
    refine x_qs ?_
    refine c_if rfl (fun hb => ?_) (fun hb => ?_)
    · have H := of_if_t hb H
      refine c_seq ?_
      refine c_reg ?_
      refine ow_batch [.p] rfl ?_
      refine ow_nil ?_
      refine x_qs ?_
      refine c_ret ?_
      refine x_qs_ret ?_
      exact x_retR (rs := [.tmp 4]) (vs := [.bool true]) rfl ⟨rfl, trivial⟩ (fun w' hw' => by
          obtain rfl := of_some H
          exact ⟨rfl, hw'.ext⟩)
    · have H := of_if_f hb H
      refine c_skip ?_
      refine x_qs ?_
      refine c_seq ?_
      refine c_regHT 3 [(0, true), (2, true), (1, false)] (St w [] [Res.box b15 34 [.slice a5 p0.Attrs_.length c6, .slice a7 p0.Classes_.length c8], Res.box b16 44 [.int .i64 p1.Leaf_, .slice a13 p1.Masks_.length c14]]) mixed (by kernel_rfl) (panicOk_qs panicOk_body) (fun _ h => St.mask [true, true] rfl h) ?_
      refine ow_rH rfl (dstOk_lt rfl) (ry_box (off := 0) (ds := [.slice a5 p0.Attrs_.length c6, .slice a7 p0.Classes_.length c8]) rfl rfl ty34 (boxIn (i := 0) rfl) rfl rfl) ?_
      refine ow_rH rfl (dstOk_lt rfl) (ry_box (off := 0) (ds := [.int .i64 p1.Leaf_, .slice a13 p1.Masks_.length c14]) rfl rfl ty44 (boxIn (i := 1) rfl) rfl rfl) ?_
      obtain ⟨y34, h35, H⟩ := of_bind H
      refine ow_callS rfl fn18 rfl rfl rfl rfl (fun w1 hw1 => laws_toSchema_ok w1 (cs0 := [.slice a5 p0.Attrs_.length c6, .slice a7 p0.Classes_.length c8]) h35 (hw1.carve [] rfl rfl) (rdm_Tlaws_Schema (x := p0) (c0 := [.slice a5 p0.Attrs_.length c6]) (c1 := [.slice a7 p0.Classes_.length c8]) (rds_bor g3 w1 hw1) (rds_bor g4 w1 hw1))) (fun v36 w1 w2 hw1 hR38 => ?_)
      obtain ⟨a39, n40, c41, F42, a43, n44, c45, F46, rfl, hS37⟩ := hR38
      obtain rfl := own_nS (i := 0) hS37 rfl
      obtain rfl := own_nS (i := 1) hS37 rfl
      refine ⟨St w [] [_, _, _, _], hw1.comp [] rfl rfl hS37, (fun _ h => St.mask [true, true] rfl h), ?_⟩
      refine ow_nilH ?_
      refine x_qt ?_
      obtain ⟨y47, h48, H⟩ := of_bind H
      refine ow_callS rfl fn23 rfl rfl rfl rfl (fun w1 hw1 => laws_toWay_ok w1 (cs0 := [.int .i64 p1.Leaf_, .slice a13 p1.Masks_.length c14]) h48 (hw1.carve [] rfl rfl) (rdm_Tlaws_Way (x := p1) (c0 := [.int .i64 p1.Leaf_]) (c1 := [.slice a13 p1.Masks_.length c14]) rfl (rds_bor g12 w1 hw1))) (fun v49 w1 w2 hw1 hR51 => ?_)
      obtain ⟨a52, n53, c54, F55, rfl, hS50⟩ := hR51
      obtain rfl := own_nS (i := 0) hS50 rfl
      refine ⟨St w [] [_, _, _, _, _], hw1.comp [] rfl rfl hS50, fun _ _ => trivial, ?_⟩
      obtain ⟨y56, h57, H⟩ := of_bind H
      refine ow_q rfl rfl (dstOk_lt rfl) (qy_call rfl fn26 rfl (fun w1 hw1 => spec_WayRoom_ok w1 (cs0 := [.slice a39 y34.Attrs_.length c41, .slice a43 y34.Classes_.length c45]) (cs1 := [.int .i64 y47.Leaf_, .slice a52 y47.Masks_.length c54]) h57 (rdm_Timpl_Schema (x := y34) (c0 := [.slice a39 y34.Attrs_.length c41]) (c1 := [.slice a43 y34.Classes_.length c45]) (rds_own (r := 2) rfl w1 hw1) (rds_own (r := 3) rfl w1 hw1)) (rdm_Timpl_Way (x := y47) (c0 := [.int .i64 y47.Leaf_]) (c1 := [.slice a52 y47.Masks_.length c54]) rfl (rds_own (r := 4) rfl w1 hw1)))) (fun _ _ => trivial) ?_
      refine ow_batch [.p] rfl ?_
      refine ow_nil ?_
      refine x_qs ?_
      refine c_seq ?_
      refine c_reg ?_
      refine ow_r rfl (dstOk_lt rfl) (ry_box (off := 0) (ds := [.slice a5 p0.Attrs_.length c6, .slice a7 p0.Classes_.length c8]) rfl rfl ty34 (boxIn (i := 0) rfl) rfl rfl) ?_
      obtain ⟨y58, h59, H⟩ := of_bind H
      refine ow_callS rfl fn18 rfl rfl rfl rfl (fun w1 hw1 => laws_toSchema_ok w1 (cs0 := [.slice a5 p0.Attrs_.length c6, .slice a7 p0.Classes_.length c8]) h59 (hw1.carve [] rfl rfl) (rdm_Tlaws_Schema (x := p0) (c0 := [.slice a5 p0.Attrs_.length c6]) (c1 := [.slice a7 p0.Classes_.length c8]) (rds_bor g3 w1 hw1) (rds_bor g4 w1 hw1))) (fun v60 w1 w2 hw1 hR62 => ?_)
      obtain ⟨a63, n64, c65, F66, a67, n68, c69, F70, rfl, hS61⟩ := hR62
      obtain rfl := own_nS (i := 0) hS61 rfl
      obtain rfl := own_nS (i := 1) hS61 rfl
      refine ⟨St w [] [_, _, _, _, _, _, _], hw1.comp [] rfl rfl hS61, fun _ _ => trivial, ?_⟩
      refine ow_alloc rfl rfl rfl rfl ty39 (fun _ => kp) (fun b71 => ?_)
      refine ow_storeC (off := 0) [.slice a63 y58.Attrs_.length c65, .slice a67 y58.Classes_.length c69] [_, _] (i := 7) rfl rfl rfl rfl rfl rfl ty39 rfl rfl (by intro u hu; simp only [List.mem_cons, List.not_mem_nil, or_false] at hu; rcases hu with rfl | rfl <;> rfl) rfl rfl rfl kp ?_
      refine ow_nil ?_
      refine x_qs ?_
      refine c_seq ?_
      refine c_reg ?_
      refine ow_r rfl (dstOk_lt rfl) (ry_box (off := 0) (ds := [.int .i64 p1.Leaf_, .slice a13 p1.Masks_.length c14]) rfl rfl ty44 (boxIn (i := 1) rfl) rfl rfl) ?_
      obtain ⟨y72, h73, H⟩ := of_bind H
      refine ow_callS rfl fn23 rfl rfl rfl rfl (fun w1 hw1 => laws_toWay_ok w1 (cs0 := [.int .i64 p1.Leaf_, .slice a13 p1.Masks_.length c14]) h73 (hw1.carve [] rfl rfl) (rdm_Tlaws_Way (x := p1) (c0 := [.int .i64 p1.Leaf_]) (c1 := [.slice a13 p1.Masks_.length c14]) rfl (rds_bor g12 w1 hw1))) (fun v74 w1 w2 hw1 hR76 => ?_)
      obtain ⟨a77, n78, c79, F80, rfl, hS75⟩ := hR76
      obtain rfl := own_nS (i := 0) hS75 rfl
      refine ⟨St w [] [_, _, _, _, _, _, _, _, _], hw1.comp [] rfl rfl hS75, fun _ _ => trivial, ?_⟩
      refine ow_alloc rfl rfl rfl rfl ty47 (fun _ => kp) (fun b81 => ?_)
      refine ow_storeC (off := 0) [.int .i64 y72.Leaf_, .slice a77 y72.Masks_.length c79] [_, _] (i := 9) rfl rfl rfl rfl rfl rfl ty47 rfl rfl (by intro u hu; simp only [List.mem_cons, List.not_mem_nil, or_false] at hu; rcases hu with rfl | rfl <;> rfl) rfl rfl rfl kp ?_
      refine ow_nil ?_
      refine x_qs ?_
      refine c_seq ?_
      refine c_reg ?_
      refine ow_r rfl (dstOk_lt rfl) (ry_box (off := 0) (ds := [.slice a63 y58.Attrs_.length c65, .slice a67 y58.Classes_.length c69]) rfl rfl ty39 (boxIn (i := 7) rfl) rfl rfl) ?_
      refine ow_r rfl (dstOk_lt rfl) (ry_box (off := 0) (ds := [.int .i64 y72.Leaf_, .slice a77 y72.Masks_.length c79]) rfl rfl ty47 (boxIn (i := 9) rfl) rfl rfl) ?_
      obtain ⟨y82, h83, H⟩ := of_bind H
      refine ow_q rfl rfl (dstOk_lt rfl) (qy_call rfl fn27 rfl (fun w1 hw1 => impl_WayRoom_ok w1 (cs0 := [.slice a63 y58.Attrs_.length c65, .slice a67 y58.Classes_.length c69]) (cs1 := [.int .i64 y72.Leaf_, .slice a77 y72.Masks_.length c79]) h83 (rdm_Timpl_Schema (x := y58) (c0 := [.slice a63 y58.Attrs_.length c65]) (c1 := [.slice a67 y58.Classes_.length c69]) (rds_own (r := 5) rfl w1 hw1) (rds_own (r := 6) rfl w1 hw1)) (rdm_Timpl_Way (x := y72) (c0 := [.int .i64 y72.Leaf_]) (c1 := [.slice a77 y72.Masks_.length c79]) rfl (rds_own (r := 8) rfl w1 hw1)))) (fun _ _ => trivial) ?_
      refine ow_batch [.p] rfl ?_
      refine ow_nil ?_
      refine x_qs ?_
      refine c_seq ?_
      refine c_seq ?_
      refine c_reg ?_
      refine ow_batch [.p, .p, .p] rfl ?_
      refine ow_nil ?_
      refine x_qs ?_
      refine c_if rfl (fun hb => ?_) (fun hb => ?_)
      · have H := of_if_t hb H
        refine c_seq ?_
        refine c_reg ?_
        refine ow_batch [.p] rfl ?_
        refine ow_nil ?_
        refine x_qs ?_
        refine c_ret ?_
        refine x_qs_ret ?_
        exact x_retR (rs := [.tmp 4]) (vs := [.bool false]) rfl ⟨rfl, trivial⟩ (fun w' hw' => by
            obtain rfl := of_some H
            exact ⟨rfl, hw'.ext⟩)
      · have H := of_if_f hb H
        refine c_skip ?_
        refine x_qs ?_
        refine c_seq ?_
        refine c_seq ?_
        refine c_regHT 3 [(0, true), (1, true), (2, false)] (St w [] [Res.box b15 34 [.slice a5 p0.Attrs_.length c6, .slice a7 p0.Classes_.length c8], Res.box b16 44 [.int .i64 p1.Leaf_, .slice a13 p1.Masks_.length c14], Res.own (eList (eTimpl_Attr) 28) F42 y34.Attrs_ [.slice a39 y34.Attrs_.length c41], Res.own (eList (eStr) 9) F46 y34.Classes_ [.slice a43 y34.Classes_.length c45], Res.own (eList (eVal (Value.int .i64) (fun _ => rfl)) 3) F55 y47.Masks_ [.slice a52 y47.Masks_.length c54], Res.own (eList (eTimpl_Attr) 28) F66 y58.Attrs_ [.slice a63 y58.Attrs_.length c65], Res.own (eList (eStr) 9) F70 y58.Classes_ [.slice a67 y58.Classes_.length c69], Res.box b71 39 [.slice a63 y58.Attrs_.length c65, .slice a67 y58.Classes_.length c69], Res.own (eList (eVal (Value.int .i64) (fun _ => rfl)) 3) F80 y72.Masks_ [.slice a77 y72.Masks_.length c79], Res.box b81 47 [.int .i64 y72.Leaf_, .slice a77 y72.Masks_.length c79]]) mixed (by kernel_rfl) (panicOk_qs (panicOk_qs panicOk_body)) (fun _ h => St.mask [true, true, true, true, true, true, true, true, true, true] rfl h) ?_
        refine ow_rH rfl (dstOk_lt rfl) (ry_box (off := 0) (ds := [.slice a63 y58.Attrs_.length c65, .slice a67 y58.Classes_.length c69]) rfl rfl ty39 (boxIn (i := 7) rfl) rfl rfl) ?_
        refine ow_rH rfl (dstOk_lt rfl) (ry_box (off := 0) (ds := [.slice a5 p0.Attrs_.length c6, .slice a7 p0.Classes_.length c8]) rfl rfl ty34 (boxIn (i := 0) rfl) rfl rfl) ?_
        obtain ⟨y97, h98, H⟩ := of_bind H
        refine ow_callS rfl fn18 rfl rfl rfl rfl (fun w1 hw1 => laws_toSchema_ok w1 (cs0 := [.slice a5 p0.Attrs_.length c6, .slice a7 p0.Classes_.length c8]) h98 (hw1.carve [] rfl rfl) (rdm_Tlaws_Schema (x := p0) (c0 := [.slice a5 p0.Attrs_.length c6]) (c1 := [.slice a7 p0.Classes_.length c8]) (rds_bor g3 w1 hw1) (rds_bor g4 w1 hw1))) (fun v99 w1 w2 hw1 hR101 => ?_)
        obtain ⟨a102, n103, c104, F105, a106, n107, c108, F109, rfl, hS100⟩ := hR101
        obtain rfl := own_nS (i := 0) hS100 rfl
        obtain rfl := own_nS (i := 1) hS100 rfl
        refine ⟨St w [] [_, _, _, _, _, _, _, _, _, _, _, _], hw1.comp [] rfl rfl hS100, (fun _ h => St.mask [true, true, true, true, true, true, true, true, true, true] rfl h), ?_⟩
        refine ow_nilH ?_
        refine x_qt ?_
        obtain ⟨y110, h111, H⟩ := of_bind H
        refine ow_q rfl rfl (dstOk_lt rfl) (qy_call rfl fn20 rfl (fun w1 hw1 => laws_eqSchema_ok w1 (cs0 := [.slice a63 y58.Attrs_.length c65, .slice a67 y58.Classes_.length c69]) (cs1 := [.slice a102 y97.Attrs_.length c104, .slice a106 y97.Classes_.length c108]) h111 (rdm_Timpl_Schema (x := y58) (c0 := [.slice a63 y58.Attrs_.length c65]) (c1 := [.slice a67 y58.Classes_.length c69]) (rds_own (r := 5) rfl w1 hw1) (rds_own (r := 6) rfl w1 hw1)) (rdm_Timpl_Schema (x := y97) (c0 := [.slice a102 y97.Attrs_.length c104]) (c1 := [.slice a106 y97.Classes_.length c108]) (rds_own (r := 10) rfl w1 hw1) (rds_own (r := 11) rfl w1 hw1)))) (fun _ _ => trivial) ?_
        refine ow_batch [.p] rfl ?_
        refine ow_nil ?_
        refine x_qs ?_
        refine c_if rfl (fun hb => ?_) (fun hb => ?_)
        · have H := of_if_t hb H
          refine c_seq ?_
          refine c_reg ?_
          refine ow_batch [.p] rfl ?_
          refine ow_nil ?_
          refine x_qs ?_
          refine c_ret ?_
          refine x_qs_ret ?_
          exact x_retR (rs := [.tmp 4]) (vs := [.bool false]) rfl ⟨rfl, trivial⟩ (fun w' hw' => by
              obtain rfl := of_some H
              exact ⟨rfl, hw'.ext⟩)
        · have H := of_if_f hb H
          refine c_skip ?_
          refine x_qs ?_
          refine c_seq ?_
          refine c_seq ?_
          refine c_regHT 3 [(0, true), (1, true), (2, false)] (St w [] [Res.box b15 34 [.slice a5 p0.Attrs_.length c6, .slice a7 p0.Classes_.length c8], Res.box b16 44 [.int .i64 p1.Leaf_, .slice a13 p1.Masks_.length c14], Res.own (eList (eTimpl_Attr) 28) F42 y34.Attrs_ [.slice a39 y34.Attrs_.length c41], Res.own (eList (eStr) 9) F46 y34.Classes_ [.slice a43 y34.Classes_.length c45], Res.own (eList (eVal (Value.int .i64) (fun _ => rfl)) 3) F55 y47.Masks_ [.slice a52 y47.Masks_.length c54], Res.own (eList (eTimpl_Attr) 28) F66 y58.Attrs_ [.slice a63 y58.Attrs_.length c65], Res.own (eList (eStr) 9) F70 y58.Classes_ [.slice a67 y58.Classes_.length c69], Res.box b71 39 [.slice a63 y58.Attrs_.length c65, .slice a67 y58.Classes_.length c69], Res.own (eList (eVal (Value.int .i64) (fun _ => rfl)) 3) F80 y72.Masks_ [.slice a77 y72.Masks_.length c79], Res.box b81 47 [.int .i64 y72.Leaf_, .slice a77 y72.Masks_.length c79], Res.own (eList (eTimpl_Attr) 28) F105 y97.Attrs_ [.slice a102 y97.Attrs_.length c104], Res.own (eList (eStr) 9) F109 y97.Classes_ [.slice a106 y97.Classes_.length c108]]) mixed (by kernel_rfl) (panicOk_qs (panicOk_qs panicOk_body)) (fun _ h => St.mask [true, true, true, true, true, true, true, true, true, true, true, true] rfl h) ?_
          refine ow_rH rfl (dstOk_lt rfl) (ry_box (off := 0) (ds := [.int .i64 y72.Leaf_, .slice a77 y72.Masks_.length c79]) rfl rfl ty47 (boxIn (i := 9) rfl) rfl rfl) ?_
          refine ow_rH rfl (dstOk_lt rfl) (ry_box (off := 0) (ds := [.int .i64 p1.Leaf_, .slice a13 p1.Masks_.length c14]) rfl rfl ty44 (boxIn (i := 1) rfl) rfl rfl) ?_
          obtain ⟨y121, h122, H⟩ := of_bind H
          refine ow_callS rfl fn23 rfl rfl rfl rfl (fun w1 hw1 => laws_toWay_ok w1 (cs0 := [.int .i64 p1.Leaf_, .slice a13 p1.Masks_.length c14]) h122 (hw1.carve [] rfl rfl) (rdm_Tlaws_Way (x := p1) (c0 := [.int .i64 p1.Leaf_]) (c1 := [.slice a13 p1.Masks_.length c14]) rfl (rds_bor g12 w1 hw1))) (fun v123 w1 w2 hw1 hR125 => ?_)
          obtain ⟨a126, n127, c128, F129, rfl, hS124⟩ := hR125
          obtain rfl := own_nS (i := 0) hS124 rfl
          refine ⟨St w [] [_, _, _, _, _, _, _, _, _, _, _, _, _], hw1.comp [] rfl rfl hS124, (fun _ h => St.mask [true, true, true, true, true, true, true, true, true, true, true, true] rfl h), ?_⟩
          refine ow_nilH ?_
          refine x_qt ?_
          obtain ⟨y130, h131, H⟩ := of_bind H
          refine ow_q rfl rfl (dstOk_lt rfl) (qy_call rfl fn25 rfl (fun w1 hw1 => laws_eqWay_ok w1 (cs0 := [.int .i64 y72.Leaf_, .slice a77 y72.Masks_.length c79]) (cs1 := [.int .i64 y121.Leaf_, .slice a126 y121.Masks_.length c128]) h131 (rdm_Timpl_Way (x := y72) (c0 := [.int .i64 y72.Leaf_]) (c1 := [.slice a77 y72.Masks_.length c79]) rfl (rds_own (r := 8) rfl w1 hw1)) (rdm_Timpl_Way (x := y121) (c0 := [.int .i64 y121.Leaf_]) (c1 := [.slice a126 y121.Masks_.length c128]) rfl (rds_own (r := 12) rfl w1 hw1)))) (fun _ _ => trivial) ?_
          refine ow_batch [.p] rfl ?_
          refine ow_nil ?_
          refine x_qs ?_
          refine c_if rfl (fun hb => ?_) (fun hb => ?_)
          · have H := of_if_t hb H
            refine c_seq ?_
            refine c_reg ?_
            refine ow_batch [.p] rfl ?_
            refine ow_nil ?_
            refine x_qs ?_
            refine c_ret ?_
            refine x_qs_ret ?_
            exact x_retR (rs := [.tmp 4]) (vs := [.bool false]) rfl ⟨rfl, trivial⟩ (fun w' hw' => by
                obtain rfl := of_some H
                exact ⟨rfl, hw'.ext⟩)
          · have H := of_if_f hb H
            refine c_skip ?_
            refine x_qs ?_
            refine c_seq ?_
            refine c_reg ?_
            refine ow_batch [.p] rfl ?_
            refine ow_nil ?_
            refine x_qs ?_
            refine c_ret ?_
            exact x_retR (rs := [.tmp 4]) (vs := [.bool true]) rfl ⟨rfl, trivial⟩ (fun w' hw' => by
                obtain rfl := of_some H
                exact ⟨rfl, hw'.ext⟩)

end Go.Vk
