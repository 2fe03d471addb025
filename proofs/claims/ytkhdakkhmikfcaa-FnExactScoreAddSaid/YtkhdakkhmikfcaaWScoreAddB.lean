/- The code does what the functions of data say. Printed by program. -/

import Derived.Test.YtkhdakkhmikfcaaWScoreAddA

namespace Go.Vk

open Go.Proofs Go.RowKit



set_option maxHeartbeats 4000000 in
set_option maxRecDepth 100000 in
theorem laws_FnExactScoreAdd_ok (w : World) {p0 : Int} {p1 : Tlaws_Score} {p2 : Int} {p3 : Int} {cs1 : List Value} {r : Bool} (H : laws_FnExactScoreAdd p0 p1 p2 p3 = some r)  (g1 : (eTlaws_Score).rd w [] p1 cs1) :
    Calls Try.prog 9 #[.int .i64 p0, .agg cs1.toArray, .int .i64 p2, .int .i64 p3] w (fun en w' => en = .returned (.bool r) ∧ Ext [] w w') := by
  obtain ⟨c1, c2, rfl, g3, g4⟩ := rdo_Tlaws_Score g1
  obtain ⟨a5, c6, rfl⟩ := rd_sl1 g3
  obtain ⟨a7, c8, rfl⟩ := rd_sl1 g4
  unfold laws_FnExactScoreAdd at H
  refine f_enter (vs := [.int .i64 p0, .agg #[.slice a5 p1.Table_.length c6, .slice a7 p1.Last_.length c8], .int .i64 p2, .int .i64 p3]) Try.func9 rfl Try.ntmps9 rfl (St.init w []) ?_
  refine c_seq ?_
  refine c_reg ?_
  refine ow_box (cs := [.slice a5 p1.Table_.length c6, .slice a7 p1.Last_.length c8]) rfl rfl rfl rfl rfl rfl (fun _ => kp) (fun b9 => ?_)
  refine ow_batch [.p] rfl ?_
  refine ow_nil ?_
  refine x_qs ?_
  refine c_seq ?_
  refine c_reg ?_
  refine ow_batch [.p] rfl ?_
  refine ow_nil ?_
  refine x_qs ?_
  refine c_seq ?_
  refine c_reg ?_
  refine ow_r rfl (dstOk_lt rfl) (ry_box (off := 0) (ds := [.slice a5 p1.Table_.length c6, .slice a7 p1.Last_.length c8]) rfl rfl ty25 (boxIn (i := 0) rfl) rfl rfl) ?_
  refine ow_batch [.p] rfl ?_
  obtain ⟨y10, h11, H⟩ := of_bind H
  refine ow_q rfl rfl (dstOk_lt rfl) (qy_call rfl fn11 rfl (fun w1 hw1 => laws_szScore_ok w1 (cs0 := [.slice a5 p1.Table_.length c6, .slice a7 p1.Last_.length c8]) h11 (rdm_Tlaws_Score (x := p1) (c0 := [.slice a5 p1.Table_.length c6]) (c1 := [.slice a7 p1.Last_.length c8]) (rds_bor g3 w1 hw1) (rds_bor g4 w1 hw1)))) (fun _ _ => trivial) ?_
  refine ow_batch [.p] rfl ?_
  refine ow_nil ?_
  refine x_qs ?_
  refine c_seq ?_
  refine c_seq ?_
  refine c_reg ?_
  refine ow_batch [.p, .p] rfl ?_
  refine ow_nil ?_
  refine x_qs ?_
  refine c_if rfl (fun hb => ?_) (fun hb => ?_)
  · have H := of_if_t hb H
    refine c_seq ?_
    refine c_reg ?_
    refine ow_batch [.p] rfl ?_
    refine ow_nil ?_
    refine x_qs ?_
    refine c_ret ?_
    refine x_qs_ret ?_
    exact x_retR (rs := [.tmp 8]) (vs := [.bool true]) rfl ⟨rfl, trivial⟩ (fun w' hw' => by
        obtain rfl := of_some H
        exact ⟨rfl, hw'.ext⟩)
  · have H := of_if_f hb H
    refine c_skip ?_
    refine x_qs ?_
    refine c_seq ?_
    refine c_reg ?_
    refine ow_batch [.p] rfl ?_
    refine ow_r rfl (dstOk_lt rfl) (ry_box (off := 0) (ds := [.slice a5 p1.Table_.length c6, .slice a7 p1.Last_.length c8]) rfl rfl ty25 (boxIn (i := 0) rfl) rfl rfl) ?_
    obtain ⟨y12, h13, H⟩ := of_bind H
    refine ow_callS rfl fn13 rfl rfl rfl rfl (fun w1 hw1 => laws_toScore_ok w1 (cs0 := [.slice a5 p1.Table_.length c6, .slice a7 p1.Last_.length c8]) h13 (hw1.carve [] rfl rfl) (rdm_Tlaws_Score (x := p1) (c0 := [.slice a5 p1.Table_.length c6]) (c1 := [.slice a7 p1.Last_.length c8]) (rds_bor g3 w1 hw1) (rds_bor g4 w1 hw1))) (fun v14 w1 w2 hw1 hR16 => ?_)
    obtain ⟨a17, n18, c19, F20, a21, n22, c23, F24, rfl, hS15⟩ := hR16
    obtain rfl := own_nS (i := 0) hS15 rfl
    obtain rfl := own_nS (i := 1) hS15 rfl
    refine ⟨St w [] [_, _, _], hw1.comp [] rfl rfl hS15, fun _ _ => trivial, ?_⟩
    refine ow_batch [.p, .p] rfl ?_
    obtain ⟨y25, h26, H⟩ := of_bind H
    refine ow_callS rfl fn27 rfl rfl rfl rfl (fun w1 hw1 => spec_ScoreAdd_ok w1 (cs1 := [.slice a17 y12.Table_.length c19, .slice a21 y12.Last_.length c23]) h26 (hw1.carve [] rfl rfl) (rdm_Timpl_Score (x := y12) (c0 := [.slice a17 y12.Table_.length c19]) (c1 := [.slice a21 y12.Last_.length c23]) (rds_own (r := 1) rfl w1 hw1) (rds_own (r := 2) rfl w1 hw1))) (fun v27 w1 w2 hw1 hR29 => ?_)
    obtain ⟨a30, n31, c32, F33, a34, n35, c36, F37, rfl, hS28⟩ := hR29
    obtain rfl := own_nS (i := 0) hS28 rfl
    obtain rfl := own_nS (i := 1) hS28 rfl
    refine ⟨St w [] [_, _, _, _, _], hw1.comp [] rfl rfl hS28, fun _ _ => trivial, ?_⟩
    refine ow_batch [.p, .p, .p] rfl ?_
    refine ow_alloc rfl rfl rfl rfl ty30 (fun _ => kp) (fun b38 => ?_)
    refine ow_storeC (off := 0) [.slice a30 y25.1.Table_.length c32, .slice a34 y25.1.Last_.length c36] [_, _] (i := 5) rfl rfl rfl rfl rfl rfl ty30 rfl rfl (by intro u hu; simp only [List.mem_cons, List.not_mem_nil, or_false] at hu; rcases hu with rfl | rfl <;> rfl) rfl rfl rfl kp ?_
    refine ow_batch [.p] rfl ?_
    refine ow_nil ?_
    refine x_qs ?_
    refine c_seq ?_
    refine c_reg ?_
    refine ow_r rfl (dstOk_lt rfl) (ry_box (off := 0) (ds := [.slice a5 p1.Table_.length c6, .slice a7 p1.Last_.length c8]) rfl rfl ty25 (boxIn (i := 0) rfl) rfl rfl) ?_
    obtain ⟨y39, h40, H⟩ := of_bind H
    refine ow_callS rfl fn13 rfl rfl rfl rfl (fun w1 hw1 => laws_toScore_ok w1 (cs0 := [.slice a5 p1.Table_.length c6, .slice a7 p1.Last_.length c8]) h40 (hw1.carve [] rfl rfl) (rdm_Tlaws_Score (x := p1) (c0 := [.slice a5 p1.Table_.length c6]) (c1 := [.slice a7 p1.Last_.length c8]) (rds_bor g3 w1 hw1) (rds_bor g4 w1 hw1))) (fun v41 w1 w2 hw1 hR43 => ?_)
    obtain ⟨a44, n45, c46, F47, a48, n49, c50, F51, rfl, hS42⟩ := hR43
    obtain rfl := own_nS (i := 0) hS42 rfl
    obtain rfl := own_nS (i := 1) hS42 rfl
    refine ⟨St w [] [_, _, _, _, _, _, _, _], hw1.comp [] rfl rfl hS42, fun _ _ => trivial, ?_⟩
    refine ow_alloc rfl rfl rfl rfl ty30 (fun _ => kp) (fun b52 => ?_)
    refine ow_storeC (off := 0) [.slice a44 y39.Table_.length c46, .slice a48 y39.Last_.length c50] [_, _] (i := 8) rfl rfl rfl rfl rfl rfl ty30 rfl rfl (by intro u hu; simp only [List.mem_cons, List.not_mem_nil, or_false] at hu; rcases hu with rfl | rfl <;> rfl) rfl rfl rfl kp ?_
    refine ow_nil ?_
    refine x_qs ?_
    refine c_seq ?_
    refine c_reg ?_
    refine ow_batch [.p] rfl ?_
    refine ow_r rfl (dstOk_lt rfl) (ry_box (off := 0) (ds := [.slice a44 y39.Table_.length c46, .slice a48 y39.Last_.length c50]) rfl rfl ty30 (boxIn (i := 8) rfl) rfl rfl) ?_
    refine ow_batch [.p, .p] rfl ?_
    obtain ⟨y53, h54, H⟩ := of_bind H
    refine ow_callS rfl fn28 rfl rfl rfl rfl (fun w1 hw1 => impl_ScoreAdd_ok w1 (cs1 := [.slice a44 y39.Table_.length c46, .slice a48 y39.Last_.length c50]) h54 (hw1.carve [] rfl rfl) (rdm_Timpl_Score (x := y39) (c0 := [.slice a44 y39.Table_.length c46]) (c1 := [.slice a48 y39.Last_.length c50]) (rds_own (r := 6) rfl w1 hw1) (rds_own (r := 7) rfl w1 hw1))) (fun v55 w1 w2 hw1 hR57 => ?_)
    obtain ⟨a58, n59, c60, F61, a62, n63, c64, F65, rfl, hS56⟩ := hR57
    obtain rfl := own_nS (i := 0) hS56 rfl
    obtain rfl := own_nS (i := 1) hS56 rfl
    refine ⟨St w [] [_, _, _, _, _, _, _, _, _, _, _], hw1.comp [] rfl rfl hS56, fun _ _ => trivial, ?_⟩
    refine ow_batch [.p, .p, .p] rfl ?_
    refine ow_alloc rfl rfl rfl rfl ty30 (fun _ => kp) (fun b66 => ?_)
    refine ow_storeC (off := 0) [.slice a58 y53.1.Table_.length c60, .slice a62 y53.1.Last_.length c64] [_, _] (i := 11) rfl rfl rfl rfl rfl rfl ty30 rfl rfl (by intro u hu; simp only [List.mem_cons, List.not_mem_nil, or_false] at hu; rcases hu with rfl | rfl <;> rfl) rfl rfl rfl kp ?_
    refine ow_batch [.p] rfl ?_
    refine ow_nil ?_
    refine x_qs ?_
    refine c_seq ?_
    refine c_seq ?_
    refine c_reg ?_
    refine ow_r rfl (dstOk_lt rfl) (ry_box (off := 0) (ds := [.slice a58 y53.1.Table_.length c60, .slice a62 y53.1.Last_.length c64]) rfl rfl ty30 (boxIn (i := 11) rfl) rfl rfl) ?_
    refine ow_r rfl (dstOk_lt rfl) (ry_box (off := 0) (ds := [.slice a30 y25.1.Table_.length c32, .slice a34 y25.1.Last_.length c36]) rfl rfl ty30 (boxIn (i := 5) rfl) rfl rfl) ?_
    obtain ⟨y67, h68, H⟩ := of_bind H
    refine ow_q rfl rfl (dstOk_lt rfl) (qy_call rfl fn15 rfl (fun w1 hw1 => laws_eqScore_ok w1 (cs0 := [.slice a58 y53.1.Table_.length c60, .slice a62 y53.1.Last_.length c64]) (cs1 := [.slice a30 y25.1.Table_.length c32, .slice a34 y25.1.Last_.length c36]) h68 (rdm_Timpl_Score (x := y53.1) (c0 := [.slice a58 y53.1.Table_.length c60]) (c1 := [.slice a62 y53.1.Last_.length c64]) (rds_own (r := 9) rfl w1 hw1) (rds_own (r := 10) rfl w1 hw1)) (rdm_Timpl_Score (x := y25.1) (c0 := [.slice a30 y25.1.Table_.length c32]) (c1 := [.slice a34 y25.1.Last_.length c36]) (rds_own (r := 3) rfl w1 hw1) (rds_own (r := 4) rfl w1 hw1)))) (fun _ _ => trivial) ?_
    refine ow_batch [.p, .p] rfl ?_
    refine ow_cut [(52, .bool ((!y67) || (y53.2 != y25.2))), (0, .int .i64 p0), (2, .int .i64 p2), (3, .int .i64 p3), (5, .pointer (some ⟨b9, 0, none⟩)), (10, .pointer (some ⟨b38, 0, none⟩)), (11, .bool y25.2), (12, .pointer (some ⟨b52, 0, none⟩)), (13, .pointer (some ⟨b66, 0, none⟩)), (14, .bool y53.2)] 4 ?_ (fun key => OW.sub (R := [(0, .int .i64 p0), (2, .int .i64 p2), (3, .int .i64 p3), (5, .pointer (some ⟨b9, 0, none⟩)), (10, .pointer (some ⟨b38, 0, none⟩)), (11, .bool y25.2), (12, .pointer (some ⟨b52, 0, none⟩)), (13, .pointer (some ⟨b66, 0, none⟩)), (14, .bool y53.2), (48, .bool (!y67))]) ?_ ⟨rfl, rfl, rfl, rfl, rfl, rfl, rfl, rfl, rfl, rfl, trivial⟩)
    · refine ow_nil ?_
      refine x_qs ?_
      refine c_if rfl (fun hb => ?_) (fun hb => ?_)
      · have H := of_if_t hb H
        refine c_seq ?_
        refine c_reg ?_
        refine ow_batch [.p] rfl ?_
        refine ow_nil ?_
        refine x_qs ?_
        refine c_ret ?_
        refine x_qs_ret ?_
        exact x_retR (rs := [.tmp 8]) (vs := [.bool false]) rfl ⟨rfl, trivial⟩ (fun w' hw' => by
            obtain rfl := of_some H
            exact ⟨rfl, hw'.ext⟩)
      · have H := of_if_f hb H
        refine c_skip ?_
        refine x_qs ?_
        refine c_seq ?_
        refine c_seq ?_
        refine c_regHT 3 [(0, true), (1, true), (2, false)] (St w [] [Res.box b9 25 [.slice a5 p1.Table_.length c6, .slice a7 p1.Last_.length c8], Res.own (eList (eList (eVal (Value.int .i64) (fun _ => rfl)) 3) 53) F20 y12.Table_ [.slice a17 y12.Table_.length c19], Res.own (eList (eTimpl_Pair) 60) F24 y12.Last_ [.slice a21 y12.Last_.length c23], Res.own (eList (eList (eVal (Value.int .i64) (fun _ => rfl)) 3) 53) F33 y25.1.Table_ [.slice a30 y25.1.Table_.length c32], Res.own (eList (eTimpl_Pair) 60) F37 y25.1.Last_ [.slice a34 y25.1.Last_.length c36], Res.box b38 30 [.slice a30 y25.1.Table_.length c32, .slice a34 y25.1.Last_.length c36], Res.own (eList (eList (eVal (Value.int .i64) (fun _ => rfl)) 3) 53) F47 y39.Table_ [.slice a44 y39.Table_.length c46], Res.own (eList (eTimpl_Pair) 60) F51 y39.Last_ [.slice a48 y39.Last_.length c50], Res.box b52 30 [.slice a44 y39.Table_.length c46, .slice a48 y39.Last_.length c50], Res.own (eList (eList (eVal (Value.int .i64) (fun _ => rfl)) 3) 53) F61 y53.1.Table_ [.slice a58 y53.1.Table_.length c60], Res.own (eList (eTimpl_Pair) 60) F65 y53.1.Last_ [.slice a62 y53.1.Last_.length c64], Res.box b66 30 [.slice a58 y53.1.Table_.length c60, .slice a62 y53.1.Last_.length c64]]) mixed (by kernel_rfl) (panicOk_qs (panicOk_qs panicOk_body)) (fun _ h => St.mask [true, true, true, true, true, true, true, true, true, true, true, true] rfl h) ?_
        refine ow_rH rfl (dstOk_lt rfl) (ry_box (off := 0) (ds := [.slice a44 y39.Table_.length c46, .slice a48 y39.Last_.length c50]) rfl rfl ty30 (boxIn (i := 8) rfl) rfl rfl) ?_
        refine ow_rH rfl (dstOk_lt rfl) (ry_box (off := 0) (ds := [.slice a5 p1.Table_.length c6, .slice a7 p1.Last_.length c8]) rfl rfl ty25 (boxIn (i := 0) rfl) rfl rfl) ?_
        obtain ⟨y84, h85, H⟩ := of_bind H
        refine ow_callS rfl fn13 rfl rfl rfl rfl (fun w1 hw1 => laws_toScore_ok w1 (cs0 := [.slice a5 p1.Table_.length c6, .slice a7 p1.Last_.length c8]) h85 (hw1.carve [] rfl rfl) (rdm_Tlaws_Score (x := p1) (c0 := [.slice a5 p1.Table_.length c6]) (c1 := [.slice a7 p1.Last_.length c8]) (rds_bor g3 w1 hw1) (rds_bor g4 w1 hw1))) (fun v86 w1 w2 hw1 hR88 => ?_)
        obtain ⟨a89, n90, c91, F92, a93, n94, c95, F96, rfl, hS87⟩ := hR88
        obtain rfl := own_nS (i := 0) hS87 rfl
        obtain rfl := own_nS (i := 1) hS87 rfl
        refine ⟨St w [] [_, _, _, _, _, _, _, _, _, _, _, _, _, _], hw1.comp [] rfl rfl hS87, (fun _ h => St.mask [true, true, true, true, true, true, true, true, true, true, true, true] rfl h), ?_⟩
        refine ow_nilH ?_
        refine x_qt ?_
        obtain ⟨y97, h98, H⟩ := of_bind H
        refine ow_q rfl rfl (dstOk_lt rfl) (qy_call rfl fn15 rfl (fun w1 hw1 => laws_eqScore_ok w1 (cs0 := [.slice a44 y39.Table_.length c46, .slice a48 y39.Last_.length c50]) (cs1 := [.slice a89 y84.Table_.length c91, .slice a93 y84.Last_.length c95]) h98 (rdm_Timpl_Score (x := y39) (c0 := [.slice a44 y39.Table_.length c46]) (c1 := [.slice a48 y39.Last_.length c50]) (rds_own (r := 6) rfl w1 hw1) (rds_own (r := 7) rfl w1 hw1)) (rdm_Timpl_Score (x := y84) (c0 := [.slice a89 y84.Table_.length c91]) (c1 := [.slice a93 y84.Last_.length c95]) (rds_own (r := 12) rfl w1 hw1) (rds_own (r := 13) rfl w1 hw1)))) (fun _ _ => trivial) ?_
        refine ow_batch [.p] rfl ?_
        refine ow_nil ?_
        refine x_qs ?_
        refine c_if rfl (fun hb => ?_) (fun hb => ?_)
        · have H := of_if_t hb H
          refine c_seq ?_
          refine c_reg ?_
          refine ow_batch [.p] rfl ?_
          refine ow_nil ?_
          refine x_qs ?_
          refine c_ret ?_
          refine x_qs_ret ?_
          exact x_retR (rs := [.tmp 8]) (vs := [.bool false]) rfl ⟨rfl, trivial⟩ (fun w' hw' => by
              obtain rfl := of_some H
              exact ⟨rfl, hw'.ext⟩)
        · have H := of_if_f hb H
          refine c_skip ?_
          refine x_qs ?_
          refine c_seq ?_
          refine c_reg ?_
          refine ow_batch [.p] rfl ?_
          refine ow_nil ?_
          refine x_qs ?_
          refine c_seq ?_
          refine c_reg ?_
          refine ow_r rfl (dstOk_lt rfl) (ry_box (off := 0) (ds := [.slice a44 y39.Table_.length c46, .slice a48 y39.Last_.length c50]) rfl rfl ty30 (boxIn (i := 8) rfl) rfl rfl) ?_
          refine ow_batch [.p] rfl ?_
          obtain ⟨y99, h100, H⟩ := of_bind H
          refine ow_callS rfl fn29 rfl rfl rfl rfl (fun w1 hw1 => laws_markScore_ok w1  h100 (hw1.carve [6, 7] rfl rfl)) (fun v101 w1 w2 hw1 hR103 => ?_)
          obtain ⟨F104, F105, rfl, hS102⟩ := hR103
          refine ⟨St w [] [_, _, _, _, _, _, _, _, _, _, _, _, _, _, _, _], hw1.comp [6, 7] rfl rfl hS102, fun _ _ => trivial, ?_⟩
          refine ow_batch [.p] rfl ?_
          refine ow_nil ?_
          refine x_qs ?_
          refine c_seq ?_
          refine c_seq ?_
          refine CW.weak (C' := St w [] [_, _, _, _, _, _, _, _, _, _, _, _, _, _]) ?_ (fun _ h => St.sel [0, 1, 2, 3, 4, 5, 8, 9, 10, 11, 12, 13, 14, 15] rfl rfl h)
          refine c_reg ?_
          refine ow_batch [.p, .p, .p] rfl ?_
          obtain ⟨u106, hu110, H⟩ := of_bind H
          refine ow_cut [(68, .bool u106), (0, .int .i64 p0), (2, .int .i64 p2), (3, .int .i64 p3), (5, .pointer (some ⟨b9, 0, none⟩)), (10, .pointer (some ⟨b38, 0, none⟩)), (11, .bool y25.2), (13, .pointer (some ⟨b66, 0, none⟩)), (14, .bool y53.2)] 5 ?_ (fun key => OW.sub (R := [(0, .int .i64 p0), (2, .int .i64 p2), (3, .int .i64 p3), (5, .pointer (some ⟨b9, 0, none⟩)), (10, .pointer (some ⟨b38, 0, none⟩)), (11, .bool y25.2), (13, .pointer (some ⟨b66, 0, none⟩)), (14, .bool y53.2), (63, .bool (decide (y99.1 < 0)))]) ?_ ⟨rfl, rfl, rfl, rfl, rfl, rfl, rfl, rfl, rfl, trivial⟩)
          · refine ow_batch [.p] rfl ?_
            refine ow_cut [(73, .bool (u106 || (y53.2 != y25.2))), (0, .int .i64 p0), (2, .int .i64 p2), (3, .int .i64 p3), (5, .pointer (some ⟨b9, 0, none⟩)), (10, .pointer (some ⟨b38, 0, none⟩)), (11, .bool y25.2), (13, .pointer (some ⟨b66, 0, none⟩))] 4 ?_ (fun key => OW.sub (R := [(0, .int .i64 p0), (2, .int .i64 p2), (3, .int .i64 p3), (5, .pointer (some ⟨b9, 0, none⟩)), (10, .pointer (some ⟨b38, 0, none⟩)), (11, .bool y25.2), (13, .pointer (some ⟨b66, 0, none⟩)), (14, .bool y53.2), (69, .bool u106)]) ?_ ⟨rfl, rfl, rfl, rfl, rfl, rfl, rfl, rfl, rfl, trivial⟩)
            · refine ow_nil ?_
              refine x_qs ?_
              refine c_if rfl (fun hb => ?_) (fun hb => ?_)
              · have H := of_if_t hb H
                refine c_seq ?_
                refine c_reg ?_
                refine ow_batch [.p] rfl ?_
                refine ow_nil ?_
                refine x_qs ?_
                refine c_ret ?_
                refine x_qs_ret ?_
                exact x_retR (rs := [.tmp 8]) (vs := [.bool false]) rfl ⟨rfl, trivial⟩ (fun w' hw' => by
                    obtain rfl := of_some H
                    exact ⟨rfl, hw'.ext⟩)
              · have H := of_if_f hb H
                refine c_skip ?_
                refine x_qs ?_
                refine c_seq ?_
                refine c_reg ?_
                refine ow_batch [.p] rfl ?_
                refine ow_nil ?_
                refine x_qs ?_
                refine c_seq ?_
                refine c_reg ?_
                refine ow_r rfl (dstOk_lt rfl) (ry_box (off := 0) (ds := [.slice a58 y53.1.Table_.length c60, .slice a62 y53.1.Last_.length c64]) rfl rfl ty30 (boxIn (i := 9) rfl) rfl rfl) ?_
                refine ow_batch [.p] rfl ?_
                obtain ⟨y113, h114, H⟩ := of_bind H
                refine ow_callS rfl fn29 rfl rfl rfl rfl (fun w1 hw1 => laws_markScore_ok w1  h114 (hw1.carve [7, 8] rfl rfl)) (fun v115 w1 w2 hw1 hR117 => ?_)
                obtain ⟨F118, F119, rfl, hS116⟩ := hR117
                refine ⟨St w [] [_, _, _, _, _, _, _, _, _, _, _, _, _, _, _, _], hw1.comp [7, 8] rfl rfl hS116, fun _ _ => trivial, ?_⟩
                refine ow_batch [.p] rfl ?_
                refine ow_nil ?_
                refine x_qs ?_
                refine c_seq ?_
                refine CW.weak (C' := St w [] [_, _, _, _, _, _, _, _, _, _, _, _, _, _]) ?_ (fun _ h => St.sel [0, 1, 2, 3, 4, 5, 6, 9, 10, 11, 12, 13, 14, 15] rfl rfl h)
                refine c_reg ?_
                refine ow_batch [.p] rfl ?_
                refine ow_nil ?_
                refine x_qs ?_
                refine c_seq ?_
                refine c_reg ?_
                refine ow_r rfl (dstOk_lt rfl) (ry_box (off := 0) (ds := [.slice a58 y53.1.Table_.length c60, .slice a62 y53.1.Last_.length c64]) rfl rfl ty30 (boxIn (i := 7) rfl) rfl rfl) ?_
                refine ow_batch [.p] rfl ?_
                obtain ⟨y120, h121, H⟩ := of_bind H
                refine ow_q rfl rfl (dstOk_lt rfl) (qy_call rfl fn30 rfl (fun w1 hw1 => laws_heldScore_ok w1 (cs0 := [.slice a58 y53.1.Table_.length c60, .slice a62 y53.1.Last_.length c64]) h121 (rdm_Timpl_Score (x := y113.2) (c0 := [.slice a58 y53.1.Table_.length c60]) (c1 := [.slice a62 y53.1.Last_.length c64]) (rds_own (r := 12) rfl w1 hw1) (rds_own (r := 13) rfl w1 hw1)))) (fun _ _ => trivial) ?_
                refine ow_batch [.p] rfl ?_
                refine ow_nil ?_
                refine x_qs ?_
                refine c_seq ?_
                refine c_seq ?_
                refine c_reg ?_
                refine ow_batch [.p, .p] rfl ?_
                refine ow_nil ?_
                refine x_qs ?_
                refine c_if rfl (fun hb => ?_) (fun hb => ?_)
                · have H := of_if_t hb H
                  refine c_seq ?_
                  refine c_reg ?_
                  refine ow_batch [.p] rfl ?_
                  refine ow_nil ?_
                  refine x_qs ?_
                  refine c_ret ?_
                  refine x_qs_ret ?_
                  exact x_retR (rs := [.tmp 8]) (vs := [.bool false]) rfl ⟨rfl, trivial⟩ (fun w' hw' => by
                      obtain rfl := of_some H
                      exact ⟨rfl, hw'.ext⟩)
                · have H := of_if_f hb H
                  refine c_skip ?_
                  refine x_qs ?_
                  refine c_seq ?_
                  refine c_seq ?_
                  refine c_reg ?_
                  refine ow_batch [.p, .p, .p] rfl ?_
                  refine ow_nil ?_
                  refine x_qs ?_
                  refine c_if rfl (fun hb => ?_) (fun hb => ?_)
                  · have H := of_if_t hb H
                    refine c_seq ?_
                    refine c_reg ?_
                    refine ow_batch [.p] rfl ?_
                    refine ow_nil ?_
                    refine x_qs ?_
                    refine c_ret ?_
                    refine x_qs_ret ?_
                    exact x_retR (rs := [.tmp 8]) (vs := [.bool false]) rfl ⟨rfl, trivial⟩ (fun w' hw' => by
                        obtain rfl := of_some H
                        exact ⟨rfl, hw'.ext⟩)
                  · have H := of_if_f hb H
                    refine c_skip ?_
                    refine x_qs ?_
                    refine c_seq ?_
                    refine c_reg ?_
                    refine ow_batch [.p] rfl ?_
                    refine ow_r rfl (dstOk_lt rfl) (ry_box (off := 0) (ds := [.slice a5 p1.Table_.length c6, .slice a7 p1.Last_.length c8]) rfl rfl ty25 (boxIn (i := 0) rfl) rfl rfl) ?_
                    obtain ⟨y122, h123, H⟩ := of_bind H
                    refine ow_callS rfl fn13 rfl rfl rfl rfl (fun w1 hw1 => laws_toScore_ok w1 (cs0 := [.slice a5 p1.Table_.length c6, .slice a7 p1.Last_.length c8]) h123 (hw1.carve [] rfl rfl) (rdm_Tlaws_Score (x := p1) (c0 := [.slice a5 p1.Table_.length c6]) (c1 := [.slice a7 p1.Last_.length c8]) (rds_bor g3 w1 hw1) (rds_bor g4 w1 hw1))) (fun v124 w1 w2 hw1 hR126 => ?_)
                    obtain ⟨a127, n128, c129, F130, a131, n132, c133, F134, rfl, hS125⟩ := hR126
                    obtain rfl := own_nS (i := 0) hS125 rfl
                    obtain rfl := own_nS (i := 1) hS125 rfl
                    refine ⟨St w [] [_, _, _, _, _, _, _, _, _, _, _, _, _, _, _, _], hw1.comp [] rfl rfl hS125, fun _ _ => trivial, ?_⟩
                    refine ow_batch [.p, .p] rfl ?_
                    obtain ⟨y135, h136, H⟩ := of_bind H
                    refine ow_callS rfl fn28 rfl rfl rfl rfl (fun w1 hw1 => impl_ScoreAdd_ok w1 (cs1 := [.slice a127 y122.Table_.length c129, .slice a131 y122.Last_.length c133]) h136 (hw1.carve [] rfl rfl) (rdm_Timpl_Score (x := y122) (c0 := [.slice a127 y122.Table_.length c129]) (c1 := [.slice a131 y122.Last_.length c133]) (rds_own (r := 14) rfl w1 hw1) (rds_own (r := 15) rfl w1 hw1))) (fun v137 w1 w2 hw1 hR139 => ?_)
                    obtain ⟨a140, n141, c142, F143, a144, n145, c146, F147, rfl, hS138⟩ := hR139
                    obtain rfl := own_nS (i := 0) hS138 rfl
                    obtain rfl := own_nS (i := 1) hS138 rfl
                    refine ⟨St w [] [_, _, _, _, _, _, _, _, _, _, _, _, _, _, _, _, _, _], hw1.comp [] rfl rfl hS138, fun _ _ => trivial, ?_⟩
                    refine ow_batch [.p, .p, .p] rfl ?_
                    refine ow_alloc rfl rfl rfl rfl ty30 (fun _ => kp) (fun b148 => ?_)
                    refine ow_storeC (off := 0) [.slice a140 y135.1.Table_.length c142, .slice a144 y135.1.Last_.length c146] [_, _] (i := 18) rfl rfl rfl rfl rfl rfl ty30 rfl rfl (by intro u hu; simp only [List.mem_cons, List.not_mem_nil, or_false] at hu; rcases hu with rfl | rfl <;> rfl) rfl rfl rfl kp ?_
                    refine ow_batch [.p] rfl ?_
                    refine ow_nil ?_
                    refine x_qs ?_
                    refine c_seq ?_
                    refine c_seq ?_
                    refine c_reg ?_
                    refine ow_r rfl (dstOk_lt rfl) (ry_box (off := 0) (ds := [.slice a140 y135.1.Table_.length c142, .slice a144 y135.1.Last_.length c146]) rfl rfl ty30 (boxIn (i := 18) rfl) rfl rfl) ?_
                    refine ow_r rfl (dstOk_lt rfl) (ry_box (off := 0) (ds := [.slice a30 y25.1.Table_.length c32, .slice a34 y25.1.Last_.length c36]) rfl rfl ty30 (boxIn (i := 5) rfl) rfl rfl) ?_
                    obtain ⟨y149, h150, H⟩ := of_bind H
                    refine ow_q rfl rfl (dstOk_lt rfl) (qy_call rfl fn15 rfl (fun w1 hw1 => laws_eqScore_ok w1 (cs0 := [.slice a140 y135.1.Table_.length c142, .slice a144 y135.1.Last_.length c146]) (cs1 := [.slice a30 y25.1.Table_.length c32, .slice a34 y25.1.Last_.length c36]) h150 (rdm_Timpl_Score (x := y135.1) (c0 := [.slice a140 y135.1.Table_.length c142]) (c1 := [.slice a144 y135.1.Last_.length c146]) (rds_own (r := 16) rfl w1 hw1) (rds_own (r := 17) rfl w1 hw1)) (rdm_Timpl_Score (x := y25.1) (c0 := [.slice a30 y25.1.Table_.length c32]) (c1 := [.slice a34 y25.1.Last_.length c36]) (rds_own (r := 3) rfl w1 hw1) (rds_own (r := 4) rfl w1 hw1)))) (fun _ _ => trivial) ?_
                    refine ow_batch [.p, .p] rfl ?_
                    refine ow_cut [(102, .bool ((!y149) || (y135.2 != y25.2))), (13, .pointer (some ⟨b66, 0, none⟩)), (16, .int .i64 y113.1)] 4 ?_ (fun key => OW.sub (R := [(11, .bool y25.2), (13, .pointer (some ⟨b66, 0, none⟩)), (16, .int .i64 y113.1), (19, .bool y135.2), (98, .bool (!y149))]) ?_ ⟨rfl, rfl, rfl, rfl, rfl, trivial⟩)
                    · refine ow_nil ?_
                      refine x_qs ?_
                      refine c_if rfl (fun hb => ?_) (fun hb => ?_)
                      · have H := of_if_t hb H
                        refine c_seq ?_
                        refine c_reg ?_
                        refine ow_batch [.p] rfl ?_
                        refine ow_nil ?_
                        refine x_qs ?_
                        refine c_ret ?_
                        refine x_qs_ret ?_
                        exact x_retR (rs := [.tmp 8]) (vs := [.bool false]) rfl ⟨rfl, trivial⟩ (fun w' hw' => by
                            obtain rfl := of_some H
                            exact ⟨rfl, hw'.ext⟩)
                      · have H := of_if_f hb H
                        refine c_skip ?_
                        refine x_qs ?_
                        refine c_seq ?_
                        refine c_reg ?_
                        refine ow_batch [.p] rfl ?_
                        refine ow_nil ?_
                        refine x_qs ?_
                        refine c_seq ?_
                        refine c_reg ?_
                        refine ow_r rfl (dstOk_lt rfl) (ry_box (off := 0) (ds := [.slice a58 y53.1.Table_.length c60, .slice a62 y53.1.Last_.length c64]) rfl rfl ty30 (boxIn (i := 7) rfl) rfl rfl) ?_
                        refine ow_batch [.p] rfl ?_
                        obtain ⟨y153, h154, H⟩ := of_bind H
                        refine ow_q rfl rfl (dstOk_lt rfl) (qy_call rfl fn30 rfl (fun w1 hw1 => laws_heldScore_ok w1 (cs0 := [.slice a58 y53.1.Table_.length c60, .slice a62 y53.1.Last_.length c64]) h154 (rdm_Timpl_Score (x := y113.2) (c0 := [.slice a58 y53.1.Table_.length c60]) (c1 := [.slice a62 y53.1.Last_.length c64]) (rds_own (r := 12) rfl w1 hw1) (rds_own (r := 13) rfl w1 hw1)))) (fun _ _ => trivial) ?_
                        refine ow_batch [.p] rfl ?_
                        refine ow_nil ?_
                        refine x_qs ?_
                        refine c_seq ?_
                        refine c_seq ?_
                        refine c_reg ?_
                        refine ow_batch [.p, .p] rfl ?_
                        refine ow_nil ?_
                        refine x_qs ?_
                        refine c_if rfl (fun hb => ?_) (fun hb => ?_)
                        · have H := of_if_t hb H
                          refine c_seq ?_
                          refine c_reg ?_
                          refine ow_batch [.p] rfl ?_
                          refine ow_nil ?_
                          refine x_qs ?_
                          refine c_ret ?_
                          refine x_qs_ret ?_
                          exact x_retR (rs := [.tmp 8]) (vs := [.bool false]) rfl ⟨rfl, trivial⟩ (fun w' hw' => by
                              obtain rfl := of_some H
                              exact ⟨rfl, hw'.ext⟩)
                        · have H := of_if_f hb H
                          refine c_skip ?_
                          refine x_qs ?_
                          refine c_seq ?_
                          refine c_seq ?_
                          refine c_reg ?_
                          refine ow_batch [.p, .p, .p] rfl ?_
                          refine ow_nil ?_
                          refine x_qs ?_
                          refine c_if rfl (fun hb => ?_) (fun hb => ?_)
                          · have H := of_if_t hb H
                            refine c_seq ?_
                            refine c_reg ?_
                            refine ow_batch [.p] rfl ?_
                            refine ow_nil ?_
                            refine x_qs ?_
                            refine c_ret ?_
                            refine x_qs_ret ?_
                            exact x_retR (rs := [.tmp 8]) (vs := [.bool false]) rfl ⟨rfl, trivial⟩ (fun w' hw' => by
                                obtain rfl := of_some H
                                exact ⟨rfl, hw'.ext⟩)
                          · have H := of_if_f hb H
                            refine c_skip ?_
                            refine x_qs ?_
                            refine c_seq ?_
                            refine c_reg ?_
                            refine ow_batch [.p] rfl ?_
                            refine ow_nil ?_
                            refine x_qs ?_
                            refine c_ret ?_
                            exact x_retR (rs := [.tmp 8]) (vs := [.bool true]) rfl ⟨rfl, trivial⟩ (fun w' hw' => by
                                obtain rfl := of_some H
                                exact ⟨rfl, hw'.ext⟩)
                    · generalize (!y149) = t152 at key ⊢
                      cases t152
                      · refine ow_batch [.p, .p] rfl ?_
                        refine ow_r rfl (dstOk_lt rfl) (ry_bneq rfl rfl rfl bl4) ?_
                        refine ow_batch [.p] rfl ?_
                        exact OW.sub key ⟨rfl, rfl, rfl, trivial⟩
                      · refine ow_batch [.p, .p, .p, .p] rfl ?_
                        exact OW.sub key ⟨rfl, rfl, rfl, trivial⟩
            · generalize u106 = t112 at key ⊢
              cases t112
              · refine ow_batch [.p, .p] rfl ?_
                refine ow_r rfl (dstOk_lt rfl) (ry_bneq rfl rfl rfl bl4) ?_
                refine ow_batch [.p] rfl ?_
                exact OW.sub key ⟨rfl, rfl, rfl, rfl, rfl, rfl, rfl, rfl, trivial⟩
              · refine ow_batch [.p, .p, .p, .p] rfl ?_
                exact OW.sub key ⟨rfl, rfl, rfl, rfl, rfl, rfl, rfl, rfl, trivial⟩
          · clear H
            have H := hu110
            clear hu110
            generalize (decide (y99.1 < 0)) = t109 at H ⊢
            cases t109
            · have H := of_if_f rfl H
              refine ow_r rfl (dstOk_lt rfl) (ry_box (off := 0) (ds := [.slice a58 y53.1.Table_.length c60, .slice a62 y53.1.Last_.length c64]) rfl rfl ty30 (boxIn (i := 9) rfl) rfl rfl) ?_
              refine ow_r rfl (dstOk_lt rfl) (ry_box (off := 0) (ds := [.slice a30 y25.1.Table_.length c32, .slice a34 y25.1.Last_.length c36]) rfl rfl ty30 (boxIn (i := 5) rfl) rfl rfl) ?_
              obtain ⟨y107, h108, H⟩ := of_bind H
              refine ow_q rfl rfl (dstOk_lt rfl) (qy_call rfl fn15 rfl (fun w1 hw1 => laws_eqScore_ok w1 (cs0 := [.slice a58 y53.1.Table_.length c60, .slice a62 y53.1.Last_.length c64]) (cs1 := [.slice a30 y25.1.Table_.length c32, .slice a34 y25.1.Last_.length c36]) h108 (rdm_Timpl_Score (x := y53.1) (c0 := [.slice a58 y53.1.Table_.length c60]) (c1 := [.slice a62 y53.1.Last_.length c64]) (rds_own (r := 7) rfl w1 hw1) (rds_own (r := 8) rfl w1 hw1)) (rdm_Timpl_Score (x := y25.1) (c0 := [.slice a30 y25.1.Table_.length c32]) (c1 := [.slice a34 y25.1.Last_.length c36]) (rds_own (r := 3) rfl w1 hw1) (rds_own (r := 4) rfl w1 hw1)))) (fun _ _ => trivial) ?_
              refine ow_batch [.p] rfl ?_
              refine ow_batch [.p] rfl ?_
              obtain rfl := of_some H
              exact OW.sub key ⟨rfl, rfl, rfl, rfl, rfl, rfl, rfl, rfl, rfl, trivial⟩
            · have H := of_if_t rfl H
              refine ow_batch [.p, .p, .p, .p, .p] rfl ?_
              obtain rfl := of_some H
              exact OW.sub key ⟨rfl, rfl, rfl, rfl, rfl, rfl, rfl, rfl, rfl, trivial⟩
    · generalize (!y67) = t70 at key ⊢
      cases t70
      · refine ow_batch [.p, .p] rfl ?_
        refine ow_r rfl (dstOk_lt rfl) (ry_bneq rfl rfl rfl bl4) ?_
        refine ow_batch [.p] rfl ?_
        exact OW.sub key ⟨rfl, rfl, rfl, rfl, rfl, rfl, rfl, rfl, rfl, rfl, trivial⟩
      · refine ow_batch [.p, .p, .p, .p] rfl ?_
        exact OW.sub key ⟨rfl, rfl, rfl, rfl, rfl, rfl, rfl, rfl, rfl, rfl, trivial⟩

end Go.Vk
