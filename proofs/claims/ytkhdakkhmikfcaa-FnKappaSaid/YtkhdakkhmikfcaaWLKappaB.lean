/- The code does what the functions of data say. Printed by program. -/

import Derived.Test.YtkhdakkhmikfcaaWLKappaA

namespace Go.Vk

open Go.Proofs Go.RowKit



set_option maxHeartbeats 4000000 in
set_option maxRecDepth 100000 in
theorem laws_FnKappa_ok (w : World) {p0 : List Int} {a_0 : Option Addr} {n_0 c_0 : Nat} {r : Bool} (H : laws_FnKappa p0 = some r)  (g0 : (eList (eVal (Value.int .u8) (fun _ => rfl)) 5).rd w [] p0 [.slice a_0 n_0 c_0]) :
    Calls Try.prog 10 #[.slice a_0 n_0 c_0] w (fun en w' => en = .returned (.bool r) ∧ Ext [] w w') := by
  obtain rfl := rd_n g0
  unfold laws_FnKappa at H
  refine f_enter (vs := [.slice a_0 p0.length c_0]) Try.func10 rfl Try.ntmps10 rfl (St.init w []) ?_
  refine c_seq ?_
  refine c_reg ?_
  refine ow_batch [.p] rfl ?_
  refine ow_nil ?_
  refine x_qs ?_
  refine c_seq ?_
  refine c_seq ?_
  refine c_reg ?_
  refine ow_batch [.p] rfl ?_
  obtain ⟨y1, h2, H⟩ := of_bind H
  refine ow_q rfl rfl (dstOk_lt rfl) (qy_call rfl fn31 rfl (fun w1 hw1 => laws_big_ok w1  h2 (rds_bor g0 w1 hw1))) (fun _ _ => trivial) ?_
  refine ow_nil ?_
  refine x_qs ?_
  refine c_if rfl (fun hb => ?_) (fun hb => ?_)
  · have H := of_if_t hb H
    refine c_seq ?_
    refine c_reg ?_
    refine ow_batch [.p] rfl ?_
    refine ow_nil ?_
    refine x_qs ?_
    refine c_ret ?_
    refine x_qs_ret ?_
    exact x_retR (rs := [.tmp 2]) (vs := [.bool true]) rfl ⟨rfl, trivial⟩ (fun w' hw' => by
        obtain rfl := of_some H
        exact ⟨rfl, hw'.ext⟩)
  · have H := of_if_f hb H
    refine c_skip ?_
    refine x_qs ?_
    refine c_seq ?_
    refine c_reg ?_
    refine ow_batch [.p] rfl ?_
    obtain ⟨y3, h4, H⟩ := of_bind H
    refine ow_callS rfl fn32 rfl rfl rfl rfl (fun w1 hw1 => spec_DrawKappa_ok w1  h4 (hw1.carve [] rfl rfl) (rds_bor g0 w1 hw1)) (fun v5 w1 w2 hw1 hR7 => ?_)
    obtain ⟨a8, n9, c10, F11, a12, n13, c14, F15, rfl, hS6⟩ := hR7
    obtain rfl := own_nS (i := 0) hS6 rfl
    obtain rfl := own_nS (i := 1) hS6 rfl
    refine ⟨St w [] [_, _], hw1.comp [] rfl rfl hS6, fun _ _ => trivial, ?_⟩
    refine ow_batch [.p, .p, .p] rfl ?_
    refine ow_alloc rfl rfl rfl rfl ty30 (fun _ => kp) (fun b16 => ?_)
    refine ow_batch [.p] rfl ?_
    refine ow_storeC (off := 0) [.slice a8 y3.2.Table_.length c10, .slice a12 y3.2.Last_.length c14] [_, _] (i := 2) rfl rfl rfl rfl rfl rfl ty30 rfl rfl (by intro u hu; simp only [List.mem_cons, List.not_mem_nil, or_false] at hu; rcases hu with rfl | rfl <;> rfl) rfl rfl rfl kp ?_
    refine ow_nil ?_
    refine x_qs ?_
    refine c_seq ?_
    refine c_reg ?_
    refine ow_batch [.p] rfl ?_
    refine ow_r rfl (dstOk_lt rfl) (ry_box (off := 0) (ds := [.slice a8 y3.2.Table_.length c10, .slice a12 y3.2.Last_.length c14]) rfl rfl ty30 (boxIn (i := 2) rfl) rfl rfl) ?_
    obtain ⟨y17, h18, H⟩ := of_bind H
    refine ow_q rfl rfl (dstOk_lt rfl) (qy_call rfl fn21 rfl (fun w1 hw1 => impl_Kappa_ok w1 (cs1 := [.slice a8 y3.2.Table_.length c10, .slice a12 y3.2.Last_.length c14]) h18 (rdm_Timpl_Score (x := y3.2) (c0 := [.slice a8 y3.2.Table_.length c10]) (c1 := [.slice a12 y3.2.Last_.length c14]) (rds_own (r := 0) rfl w1 hw1) (rds_own (r := 1) rfl w1 hw1)))) (fun _ _ => trivial) ?_
    refine ow_batch [.p, .p, .p, .p, .p] rfl ?_
    refine ow_nil ?_
    refine x_qs ?_
    refine c_seq ?_
    refine c_seq ?_
    refine c_reg ?_
    refine ow_batch [.p] rfl ?_
    refine ow_r rfl (dstOk_lt rfl) (ry_box (off := 0) (ds := [.slice a8 y3.2.Table_.length c10, .slice a12 y3.2.Last_.length c14]) rfl rfl ty30 (boxIn (i := 2) rfl) rfl rfl) ?_
    obtain ⟨y19, h20, H⟩ := of_bind H
    refine ow_q rfl rfl (dstOk_lt rfl) (qy_call rfl fn33 rfl (fun w1 hw1 => spec_ScoreOk_ok w1 (cs1 := [.slice a8 y3.2.Table_.length c10, .slice a12 y3.2.Last_.length c14]) h20 (rdm_Timpl_Score (x := y3.2) (c0 := [.slice a8 y3.2.Table_.length c10]) (c1 := [.slice a12 y3.2.Last_.length c14]) (rds_own (r := 0) rfl w1 hw1) (rds_own (r := 1) rfl w1 hw1)))) (fun _ _ => trivial) ?_
    refine ow_batch [.p] rfl ?_
    refine ow_nil ?_
    refine x_qs ?_
    refine c_if rfl (fun hb => ?_) (fun hb => ?_)
    · have H := of_if_t hb H
      refine c_seq ?_
      refine c_reg ?_
      refine ow_batch [.p, .p, .p] rfl ?_
      refine ow_cut [(33, .bool ((y17.1 == 0) && (y17.2 == 0))), (2, .bool false), (3, .int .i64 y3.1), (4, .pointer (some ⟨b16, 0, none⟩))] 3 ?_ (fun key => OW.sub (R := [(2, .bool false), (3, .int .i64 y3.1), (4, .pointer (some ⟨b16, 0, none⟩)), (6, .int .i64 y17.2), (30, .bool (y17.1 == 0))]) ?_ ⟨rfl, rfl, rfl, rfl, rfl, trivial⟩)
      · refine ow_batch [.p] rfl ?_
        obtain ⟨u23, hu27, H⟩ := of_bind H
        refine ow_cut [(39, .bool u23), (2, .bool false)] 5 ?_ (fun key => OW.sub (R := [(2, .bool false), (3, .int .i64 y3.1), (4, .pointer (some ⟨b16, 0, none⟩)), (34, .bool ((y17.1 == 0) && (y17.2 == 0)))]) ?_ ⟨rfl, rfl, rfl, rfl, trivial⟩)
        · refine ow_batch [.p] rfl ?_
          refine ow_nil ?_
          refine x_qs ?_
          refine c_ret ?_
          refine x_qs_ret ?_
          exact x_retR (rs := [.tmp 2]) (vs := [.bool u23]) rfl ⟨rfl, trivial⟩ (fun w' hw' => by
              obtain rfl := of_some H
              exact ⟨rfl, hw'.ext⟩)
        · clear H
          have H := hu27
          clear hu27
          generalize ((y17.1 == 0) && (y17.2 == 0)) = t26 at H ⊢
          cases t26
          · have H := of_if_f rfl H
            refine ow_batch [.p, .p, .p, .p, .p] rfl ?_
            obtain rfl := of_some H
            exact OW.sub key ⟨rfl, rfl, trivial⟩
          · have H := of_if_t rfl H
            refine ow_batch [.p] rfl ?_
            refine ow_r rfl (dstOk_lt rfl) (ry_box (off := 0) (ds := [.slice a8 y3.2.Table_.length c10, .slice a12 y3.2.Last_.length c14]) rfl rfl ty30 (boxIn (i := 2) rfl) rfl rfl) ?_
            obtain ⟨y24, h25, H⟩ := of_bind H
            refine ow_q rfl rfl (dstOk_lt rfl) (qy_call rfl fn34 rfl (fun w1 hw1 => impl_ScoreOk_ok w1 (cs1 := [.slice a8 y3.2.Table_.length c10, .slice a12 y3.2.Last_.length c14]) h25 (rdm_Timpl_Score (x := y3.2) (c0 := [.slice a8 y3.2.Table_.length c10]) (c1 := [.slice a12 y3.2.Last_.length c14]) (rds_own (r := 0) rfl w1 hw1) (rds_own (r := 1) rfl w1 hw1)))) (fun _ _ => trivial) ?_
            refine ow_batch [.p] rfl ?_
            refine ow_batch [.p] rfl ?_
            obtain rfl := of_some H
            exact OW.sub key ⟨rfl, rfl, trivial⟩
      · generalize (y17.1 == 0) = t22 at key ⊢
        cases t22
        · refine ow_batch [.p, .p, .p] rfl ?_
          exact OW.sub key ⟨rfl, rfl, rfl, rfl, trivial⟩
        · refine ow_batch [.p, .p] rfl ?_
          refine ow_batch [.p] rfl ?_
          exact OW.sub key ⟨rfl, rfl, rfl, rfl, trivial⟩
    · have H := of_if_f hb H
      refine c_skip ?_
      refine x_qs ?_
      refine c_seq ?_
      refine c_reg ?_
      refine ow_batch [.p] rfl ?_
      refine ow_r rfl (dstOk_lt rfl) (ry_box (off := 0) (ds := [.slice a8 y3.2.Table_.length c10, .slice a12 y3.2.Last_.length c14]) rfl rfl ty30 (boxIn (i := 2) rfl) rfl rfl) ?_
      obtain ⟨y28, h29, H⟩ := of_bind H
      refine ow_q rfl rfl (dstOk_lt rfl) (qy_call rfl fn19 rfl (fun w1 hw1 => impl_Count_ok w1 (cs1 := [.slice a8 y3.2.Table_.length c10, .slice a12 y3.2.Last_.length c14]) h29 (rdm_Timpl_Score (x := y3.2) (c0 := [.slice a8 y3.2.Table_.length c10]) (c1 := [.slice a12 y3.2.Last_.length c14]) (rds_own (r := 0) rfl w1 hw1) (rds_own (r := 1) rfl w1 hw1)))) (fun _ _ => trivial) ?_
      refine ow_batch [.p] rfl ?_
      refine ow_nil ?_
      refine x_qs ?_
      refine c_seq ?_
      refine c_reg ?_
      refine ow_batch [.p] rfl ?_
      refine ow_r rfl (dstOk_lt rfl) (ry_box (off := 0) (ds := [.slice a8 y3.2.Table_.length c10, .slice a12 y3.2.Last_.length c14]) rfl rfl ty30 (boxIn (i := 2) rfl) rfl rfl) ?_
      obtain ⟨y30, h31, H⟩ := of_bind H
      refine ow_q rfl rfl (dstOk_lt rfl) (qy_call rfl fn14 rfl (fun w1 hw1 => impl_Right_ok w1 (cs1 := [.slice a8 y3.2.Table_.length c10, .slice a12 y3.2.Last_.length c14]) h31 (rdm_Timpl_Score (x := y3.2) (c0 := [.slice a8 y3.2.Table_.length c10]) (c1 := [.slice a12 y3.2.Last_.length c14]) (rds_own (r := 0) rfl w1 hw1) (rds_own (r := 1) rfl w1 hw1)))) (fun _ _ => trivial) ?_
      refine ow_batch [.p] rfl ?_
      refine ow_nil ?_
      refine x_qs ?_
      refine c_seq ?_
      refine c_seq ?_
      refine c_reg ?_
      refine ow_batch [.p] rfl ?_
      refine ow_nil ?_
      refine x_qs ?_
      refine c_block ?_
      refine CW.at (loopI1 (fun (i38 : Int) => St w [] [Res.box b16 30 [.slice a8 y3.2.Table_.length c10, .slice a12 y3.2.Last_.length c14], Res.own (eList (eList (eVal (Value.int .i64) (fun _ => rfl)) 3) 53) F11 y3.2.Table_ [.slice a8 y3.2.Table_.length c10], Res.own (eList (eTimpl_Pair) 60) F15 y3.2.Last_ [.slice a12 y3.2.Last_.length c14]]) (fun (i38 : Int) => [(3, .int .i64 y3.1), (4, .pointer (some ⟨b16, 0, none⟩)), (5, .int .i64 y17.1), (6, .int .i64 y17.2), (7, .int .i64 y28), (8, .int .i64 y30), (9, .int .i64 i38)]) (fun kk => fun (i38 : Int) => laws_FnKappa_L1 y3 y17 y28 y30 kk i38 = some r) (fun _ H => ?_) (fun k1 ihk1 i38 H => ?_) Fuel (0) (H)) (fun _ h => St.sel [2, 0, 1] rfl rfl h) ⟨rfl, rfl, rfl, rfl, rfl, rfl, rfl,  trivial⟩
      · unfold laws_FnKappa_L1 at H
        exact absurd H (by simp)
      · unfold laws_FnKappa_L1 at H
        refine c_seq ?_
        refine c_seq ?_
        refine c_reg ?_
        refine ow_batch [.p, .p, .p] rfl ?_
        refine ow_nil ?_
        refine x_qs ?_
        refine c_if rfl (fun hb => ?_) (fun hb => ?_)
        · have H := of_if_t hb H
          refine c_skip ?_
          refine x_qs ?_
          refine c_seq ?_
          refine c_block ?_
          refine c_seq ?_
          refine c_reg ?_
          refine ow_batch [.p] rfl ?_
          refine ow_r rfl (dstOk_lt rfl) (ry_box (off := 0) (ds := [.slice a8 y3.2.Table_.length c10, .slice a12 y3.2.Last_.length c14]) rfl rfl ty30 (boxIn (i := 0) rfl) rfl rfl) ?_
          refine ow_batch [.p] rfl ?_
          obtain ⟨y45, h46, H⟩ := of_bind H
          refine ow_q rfl rfl (dstOk_lt rfl) (qy_call rfl fn23 rfl (fun w1 hw1 => impl_Recall_ok w1 (cs1 := [.slice a8 y3.2.Table_.length c10, .slice a12 y3.2.Last_.length c14]) h46 (rdm_Timpl_Score (x := y3.2) (c0 := [.slice a8 y3.2.Table_.length c10]) (c1 := [.slice a12 y3.2.Last_.length c14]) (rds_own (r := 1) rfl w1 hw1) (rds_own (r := 2) rfl w1 hw1)))) (fun _ _ => trivial) ?_
          refine ow_alloc rfl rfl rfl rfl ty37 (fun _ => kp) (fun b47 => ?_)
          refine ow_storeC (off := 0) [.int .i64 y45.Num_, .int .i64 y45.Den_] [_, _] (i := 3) rfl rfl rfl rfl rfl rfl ty37 rfl rfl (by intro u hu; simp only [List.mem_cons, List.not_mem_nil, or_false] at hu; rcases hu with rfl | rfl <;> rfl) rfl rfl rfl kp ?_
          refine ow_nil ?_
          refine x_qs ?_
          refine c_seq ?_
          refine c_reg ?_
          refine ow_batch [.fa 37 1 1 fa37_1] rfl ?_
          refine ow_r rfl (dstOk_lt rfl) (ry_box1 (off := 1) rfl rfl ty3 (boxIn (i := 3) rfl) rfl) ?_
          refine ow_batch [.p, .p] rfl ?_
          refine ow_cut [(64, .bool ((decide (y45.Den_ < 1)) || (decide (y45.Num_ > y45.Den_)))), (3, .int .i64 y3.1), (4, .pointer (some ⟨b16, 0, none⟩)), (5, .int .i64 y17.1), (6, .int .i64 y17.2), (7, .int .i64 y28), (8, .int .i64 y30), (9, .int .i64 i38)] 6 ?_ (fun key => OW.sub (R := [(3, .int .i64 y3.1), (4, .pointer (some ⟨b16, 0, none⟩)), (5, .int .i64 y17.1), (6, .int .i64 y17.2), (7, .int .i64 y28), (8, .int .i64 y30), (9, .int .i64 i38), (10, .pointer (some ⟨b47, 0, none⟩)), (58, .bool (decide (y45.Den_ < 1)))]) ?_ ⟨rfl, rfl, rfl, rfl, rfl, rfl, rfl, rfl, rfl, trivial⟩)
          · refine ow_nil ?_
            refine x_qs ?_
            refine c_if rfl (fun hb => ?_) (fun hb => ?_)
            · have H := of_if_t hb H
              refine c_seq ?_
              refine c_reg ?_
              refine ow_batch [.p] rfl ?_
              refine ow_nil ?_
              refine x_qs ?_
              refine c_ret ?_
              refine x_qb_ret ?_
              refine x_qs_ret ?_
              refine x_ql_ret ?_
              refine x_qb_ret ?_
              refine x_qs_ret ?_
              exact x_retR (rs := [.tmp 2]) (vs := [.bool false]) rfl ⟨rfl, trivial⟩ (fun w' hw' => by
                  obtain rfl := of_some H
                  exact ⟨rfl, hw'.ext⟩)
            · have H := of_if_f hb H
              refine c_skip ?_
              refine x_qb ?_
              refine x_qs ?_
              refine c_reg ?_
              refine ow_batch [.p, .p, .p] rfl ?_
              refine ow_nil ?_
              exact x_ql (RW.at (ihk1 (IntKind.i64.wrap (i38 + 1)) (H)) (fun _ h => St.sel [0, 1, 2] rfl rfl h) ⟨rfl, rfl, rfl, rfl, rfl, rfl, rfl, trivial⟩)
          · generalize (decide (y45.Den_ < 1)) = t49 at key ⊢
            cases t49
            · refine ow_batch [.fa 37 0 0 fa37_0] rfl ?_
              refine ow_r rfl (dstOk_lt rfl) (ry_box1 (off := 0) rfl rfl ty3 (boxIn (i := 3) rfl) rfl) ?_
              refine ow_batch [.fa 37 1 1 fa37_1] rfl ?_
              refine ow_r rfl (dstOk_lt rfl) (ry_box1 (off := 1) rfl rfl ty3 (boxIn (i := 3) rfl) rfl) ?_
              refine ow_batch [.p] rfl ?_
              refine ow_batch [.p] rfl ?_
              exact OW.sub key ⟨rfl, rfl, rfl, rfl, rfl, rfl, rfl, rfl, trivial⟩
            · refine ow_batch [.p, .p, .p, .p, .p, .p] rfl ?_
              exact OW.sub key ⟨rfl, rfl, rfl, rfl, rfl, rfl, rfl, rfl, trivial⟩
        · have H := of_if_f hb H
          refine c_exit ?_
          refine x_qs_exit ?_
          refine x_ql_exit ?_
          refine x_qb_here ?_
          refine x_qs ?_
          refine c_seq ?_
          refine c_reg ?_
          refine ow_batch [.p, .p, .p, .p] rfl ?_
          refine ow_cut [(71, .bool ((decide (y17.1 ≤ y17.2)) && (decide (y17.2 ≥ 0)))), (3, .int .i64 y3.1), (4, .pointer (some ⟨b16, 0, none⟩)), (5, .int .i64 y17.1), (6, .int .i64 y17.2), (7, .int .i64 y28), (8, .int .i64 y30)] 3 ?_ (fun key => OW.sub (R := [(3, .int .i64 y3.1), (4, .pointer (some ⟨b16, 0, none⟩)), (5, .int .i64 y17.1), (6, .int .i64 y17.2), (7, .int .i64 y28), (8, .int .i64 y30), (68, .bool (decide (y17.1 ≤ y17.2)))]) ?_ ⟨rfl, rfl, rfl, rfl, rfl, rfl, rfl, trivial⟩)
          · refine ow_batch [.p] rfl ?_
            refine ow_cut [(82, .bool (((decide (y17.1 ≤ y17.2)) && (decide (y17.2 ≥ 0))) && ((IntKind.i64.wrap (y17.2 - y17.1)) == (IntKind.i64.wrap (y28 * (IntKind.i64.wrap (y28 - y30))))))), (3, .int .i64 y3.1), (4, .pointer (some ⟨b16, 0, none⟩)), (7, .int .i64 y28), (8, .int .i64 y30)] 10 ?_ (fun key => OW.sub (R := [(3, .int .i64 y3.1), (4, .pointer (some ⟨b16, 0, none⟩)), (5, .int .i64 y17.1), (6, .int .i64 y17.2), (7, .int .i64 y28), (8, .int .i64 y30), (72, .bool ((decide (y17.1 ≤ y17.2)) && (decide (y17.2 ≥ 0))))]) ?_ ⟨rfl, rfl, rfl, rfl, rfl, rfl, rfl, trivial⟩)
            · refine ow_batch [.p] rfl ?_
              refine ow_cut [(87, .bool ((((decide (y17.1 ≤ y17.2)) && (decide (y17.2 ≥ 0))) && ((IntKind.i64.wrap (y17.2 - y17.1)) == (IntKind.i64.wrap (y28 * (IntKind.i64.wrap (y28 - y30)))))) && (decide (y30 ≤ y28)))), (3, .int .i64 y3.1), (4, .pointer (some ⟨b16, 0, none⟩)), (8, .int .i64 y30)] 4 ?_ (fun key => OW.sub (R := [(3, .int .i64 y3.1), (4, .pointer (some ⟨b16, 0, none⟩)), (7, .int .i64 y28), (8, .int .i64 y30), (83, .bool (((decide (y17.1 ≤ y17.2)) && (decide (y17.2 ≥ 0))) && ((IntKind.i64.wrap (y17.2 - y17.1)) == (IntKind.i64.wrap (y28 * (IntKind.i64.wrap (y28 - y30)))))))]) ?_ ⟨rfl, rfl, rfl, rfl, rfl, trivial⟩)
              · refine ow_batch [.p] rfl ?_
                obtain ⟨u56, hu60, H⟩ := of_bind H
                refine ow_cut [(94, .bool u56)] 6 ?_ (fun key => OW.sub (R := [(3, .int .i64 y3.1), (4, .pointer (some ⟨b16, 0, none⟩)), (8, .int .i64 y30), (88, .bool ((((decide (y17.1 ≤ y17.2)) && (decide (y17.2 ≥ 0))) && ((IntKind.i64.wrap (y17.2 - y17.1)) == (IntKind.i64.wrap (y28 * (IntKind.i64.wrap (y28 - y30)))))) && (decide (y30 ≤ y28))))]) ?_ ⟨rfl, rfl, rfl, rfl, trivial⟩)
                · refine ow_batch [.p] rfl ?_
                  refine ow_nil ?_
                  refine x_qs ?_
                  refine c_ret ?_
                  exact x_retR (rs := [.tmp 2]) (vs := [.bool u56]) rfl ⟨rfl, trivial⟩ (fun w' hw' => by
                      obtain rfl := of_some H
                      exact ⟨rfl, hw'.ext⟩)
                · clear H
                  have H := hu60
                  clear hu60
                  generalize ((((decide (y17.1 ≤ y17.2)) && (decide (y17.2 ≥ 0))) && ((IntKind.i64.wrap (y17.2 - y17.1)) == (IntKind.i64.wrap (y28 * (IntKind.i64.wrap (y28 - y30)))))) && (decide (y30 ≤ y28))) = t59 at H ⊢
                  cases t59
                  · have H := of_if_f rfl H
                    refine ow_batch [.p, .p, .p, .p, .p, .p] rfl ?_
                    obtain rfl := of_some H
                    exact OW.sub key ⟨rfl, trivial⟩
                  · have H := of_if_t rfl H
                    refine ow_batch [.p] rfl ?_
                    refine ow_r rfl (dstOk_lt rfl) (ry_box (off := 0) (ds := [.slice a8 y3.2.Table_.length c10, .slice a12 y3.2.Last_.length c14]) rfl rfl ty30 (boxIn (i := 0) rfl) rfl rfl) ?_
                    obtain ⟨y57, h58, H⟩ := of_bind H
                    refine ow_q rfl rfl (dstOk_lt rfl) (qy_call rfl fn17 rfl (fun w1 hw1 => impl_LastRight_ok w1 (cs1 := [.slice a8 y3.2.Table_.length c10, .slice a12 y3.2.Last_.length c14]) h58 (rdm_Timpl_Score (x := y3.2) (c0 := [.slice a8 y3.2.Table_.length c10]) (c1 := [.slice a12 y3.2.Last_.length c14]) (rds_own (r := 1) rfl w1 hw1) (rds_own (r := 2) rfl w1 hw1)))) (fun _ _ => trivial) ?_
                    refine ow_batch [.p, .p] rfl ?_
                    refine ow_batch [.p] rfl ?_
                    obtain rfl := of_some H
                    exact OW.sub key ⟨rfl, trivial⟩
              · generalize (((decide (y17.1 ≤ y17.2)) && (decide (y17.2 ≥ 0))) && ((IntKind.i64.wrap (y17.2 - y17.1)) == (IntKind.i64.wrap (y28 * (IntKind.i64.wrap (y28 - y30)))))) = t55 at key ⊢
                cases t55
                · refine ow_batch [.p, .p, .p, .p] rfl ?_
                  exact OW.sub key ⟨rfl, rfl, rfl, rfl, trivial⟩
                · refine ow_batch [.p, .p, .p] rfl ?_
                  refine ow_batch [.p] rfl ?_
                  exact OW.sub key ⟨rfl, rfl, rfl, rfl, trivial⟩
            · generalize ((decide (y17.1 ≤ y17.2)) && (decide (y17.2 ≥ 0))) = t53 at key ⊢
              cases t53
              · refine ow_batch [.p, .p, .p, .p, .p, .p, .p, .p, .p, .p] rfl ?_
                exact OW.sub key ⟨rfl, rfl, rfl, rfl, rfl, trivial⟩
              · refine ow_batch [.p, .p, .p, .p, .p, .p, .p, .p, .p] rfl ?_
                refine ow_batch [.p] rfl ?_
                exact OW.sub key ⟨rfl, rfl, rfl, rfl, rfl, trivial⟩
          · generalize (decide (y17.1 ≤ y17.2)) = t51 at key ⊢
            cases t51
            · refine ow_batch [.p, .p, .p] rfl ?_
              exact OW.sub key ⟨rfl, rfl, rfl, rfl, rfl, rfl, rfl, trivial⟩
            · refine ow_batch [.p, .p] rfl ?_
              refine ow_batch [.p] rfl ?_
              exact OW.sub key ⟨rfl, rfl, rfl, rfl, rfl, rfl, rfl, trivial⟩

end Go.Vk
