/- The code does what the functions of data say. Printed by program. -/
import Derived.Test.YtddoligbabahbaaGreatWWaysOfA
namespace Go.Vk
open Go.Proofs Go.RowKit
set_option maxHeartbeats 4000000 in
set_option maxRecDepth 100000 in
theorem spec_StatsTotal_ok (w : World) {p0 : Timpl_Schema} {p1 : Timpl_Stats} {cs0 : List Value} {cs1 : List Value} {r : Int} (H : spec_StatsTotal p0 p1 = some r)  (g0 : (eTimpl_Schema).rd w [] p0 cs0) (g1 : (eTimpl_Stats).rd w [] p1 cs1) :
    Calls Tryz.prog 158 #[.agg cs0.toArray, .agg cs1.toArray] w (fun en w' => en = .returned (.int .i64 r) ∧ Ext [] w w') := by
  obtain ⟨c10, c11, rfl, g12, g13⟩ := rdo_Timpl_Schema g0
  obtain ⟨a14, c15, rfl⟩ := rd_sl1 g12
  obtain ⟨a16, c17, rfl⟩ := rd_sl1 g13
  obtain ⟨c18, c19, rfl, g20, g21⟩ := rdo_Timpl_Stats g1
  obtain ⟨a22, c23, rfl⟩ := rd_sl1 g20
  obtain ⟨a24, c25, rfl⟩ := rd_sl1 g21
  unfold spec_StatsTotal at H
  refine f_enter (vs := [.agg #[.slice a14 p0.Attrs_.length c15, .slice a16 p0.Classes_.length c17], .agg #[.slice a22 p1.Totals_.length c23, .slice a24 p1.Cells_.length c25]]) Tryz.func158 rfl Tryz.ntmps158 rfl (St.init w []) ?_
  refine c_seq ?_
  refine c_reg ?_
  refine ow_box (cs := [.slice a14 p0.Attrs_.length c15, .slice a16 p0.Classes_.length c17]) rfl rfl rfl rfl rfl rfl (fun _ => kp) (fun b26 => ?_)
  refine ow_box (cs := [.slice a22 p1.Totals_.length c23, .slice a24 p1.Cells_.length c25]) rfl rfl rfl rfl rfl rfl (fun _ => kp) (fun b27 => ?_)
  refine ow_batch [.p] rfl ?_
  refine ow_nil ?_
  refine x_qs ?_
  refine c_seq ?_
  refine c_seq ?_
  refine c_reg ?_
  refine ow_r rfl (dstOk_lt rfl) (ry_box (off := 0) (ds := [.slice a14 p0.Attrs_.length c15, .slice a16 p0.Classes_.length c17]) rfl rfl ty35 (boxIn (i := 0) rfl) rfl rfl) ?_
  refine ow_r rfl (dstOk_lt rfl) (ry_box (off := 0) (ds := [.slice a22 p1.Totals_.length c23, .slice a24 p1.Cells_.length c25]) rfl rfl ty62 (boxIn (i := 1) rfl) rfl rfl) ?_
  obtain ⟨y28, h29, H⟩ := of_bind H
  refine ow_q rfl rfl (dstOk_lt rfl) (qy_call rfl fn157 rfl (fun w1 hw1 => spec_StatsOk_ok w1 (cs0 := [.slice a14 p0.Attrs_.length c15, .slice a16 p0.Classes_.length c17]) (cs1 := [.slice a22 p1.Totals_.length c23, .slice a24 p1.Cells_.length c25]) h29 (rdm_Timpl_Schema (x := p0) (c0 := [.slice a14 p0.Attrs_.length c15]) (c1 := [.slice a16 p0.Classes_.length c17]) (rds_bor g12 w1 hw1) (rds_bor g13 w1 hw1)) (rdm_Timpl_Stats (x := p1) (c0 := [.slice a22 p1.Totals_.length c23]) (c1 := [.slice a24 p1.Cells_.length c25]) (rds_bor g20 w1 hw1) (rds_bor g21 w1 hw1)))) (fun _ _ => trivial) ?_
  refine ow_batch [.p] rfl ?_
  refine ow_nil ?_
  refine x_qs ?_
  refine c_if rfl (fun hb => ?_) (fun hb => ?_)
  · have H := of_if_t hb H
    refine c_seq ?_
    refine c_reg ?_
    refine ow_batch [.p] rfl ?_
    refine ow_nil ?_
    refine x_qs ?_
    refine c_ret ?_
    refine x_qs_ret ?_
    exact x_retR (rs := [.tmp 4]) (vs := [.int .i64 0]) rfl ⟨rfl, trivial⟩ (fun w' hw' => by
        obtain rfl := of_some H
        exact ⟨rfl, hw'.ext⟩)
  · have H := of_if_f hb H
    refine c_skip ?_
    refine x_qs ?_
    refine c_seq ?_
    refine c_reg ?_
    refine ow_batch [.p] rfl ?_
    refine ow_nil ?_
    refine x_qs ?_
    refine c_seq ?_
    refine c_seq ?_
    refine c_reg ?_
    refine ow_batch [.p] rfl ?_
    refine ow_nil ?_
    refine x_qs ?_
    refine c_block ?_
    refine CW.at (loopI2 (fun (i35 : Int) (i36 : Int) => St w [] [Res.box b27 62 [.slice a22 p1.Totals_.length c23, .slice a24 p1.Cells_.length c25]]) (fun (i35 : Int) (i36 : Int) => [(3, .pointer (some ⟨b27, 0, none⟩)), (5, .int .i64 i35), (6, .int .i64 i36)]) (fun kk => fun (i35 : Int) (i36 : Int) => spec_StatsTotal_L1 p1 kk i35 i36 = some r) (fun _ _ H => ?_) (fun k1 ihk1 i35 i36 H => ?_) Fuel (0) (0) (H)) (fun _ h => St.sel [1] rfl rfl h) ⟨rfl, rfl, rfl,  trivial⟩
    · unfold spec_StatsTotal_L1 at H
      exact absurd H (by simp)
    · unfold spec_StatsTotal_L1 at H
      refine c_seq ?_
      refine c_seq ?_
      refine c_reg ?_
      refine ow_batch [.p, .fa 62 0 0 fa62_0] rfl ?_
      refine ow_r rfl (dstOk_lt rfl) (ry_box1 (off := 0) rfl rfl ty59 (boxIn (i := 0) rfl) rfl) ?_
      refine ow_batch [.lenS 59 3 sl59, .p] rfl ?_
      refine ow_nil ?_
      refine x_qs ?_
      refine c_if rfl (fun hb => ?_) (fun hb => ?_)
      · have H := of_if_t hb H
        refine c_skip ?_
        refine x_qs ?_
        refine c_seq ?_
        refine c_block ?_
        refine c_reg ?_
        refine ow_batch [.p, .fa 62 0 0 fa62_0] rfl ?_
        refine ow_r rfl (dstOk_lt rfl) (ry_box1 (off := 0) rfl rfl ty59 (boxIn (i := 0) rfl) rfl) ?_
        refine ow_batch [.p] rfl ?_
        obtain ⟨e41, h42, H⟩ := of_bind H
        refine ow_ixE (e := eVal (Value.int .i64) (fun _ => rfl)) (xs := p1.Totals_) (j := i36) rfl rfl rfl rfl rfl sl59 ty3 rfl (fun w1 hw1 => rds_bor g20 w1 hw1) h42 (by rw [Nat.mul_one]) ?_
        refine ow_r rfl (dstOk_lt rfl) (ry_load1 rfl rfl ty3 (at_elV (fun w1 hw1 => rds_bor g20 w1 hw1) h42)) ?_
        refine ow_batch [.p, .p] rfl ?_
        refine ow_nil ?_
        refine x_qb ?_
        refine x_qs ?_
        refine c_reg ?_
        refine ow_batch [.p, .p, .p] rfl ?_
        refine ow_nil ?_
        exact x_ql (RW.at (ihk1 (IntKind.i64.wrap (i35 + e41)) (IntKind.i64.wrap (i36 + 1)) (H)) (fun _ h => St.sel [0] rfl rfl h) ⟨rfl, rfl, rfl, trivial⟩)
      · have H := of_if_f hb H
        refine c_exit ?_
        refine x_qs_exit ?_
        refine x_ql_exit ?_
        refine x_qb_here ?_
        refine x_qs ?_
        refine c_seq ?_
        refine c_reg ?_
        refine ow_batch [.p, .p] rfl ?_
        refine ow_nil ?_
        refine x_qs ?_
        refine c_ret ?_
        exact x_retR (rs := [.tmp 4]) (vs := [.int .i64 i35]) rfl ⟨rfl, trivial⟩ (fun w' hw' => by
            obtain rfl := of_some H
            exact ⟨rfl, hw'.ext⟩)
set_option maxHeartbeats 4000000 in
set_option maxRecDepth 100000 in
theorem spec_l19Leaf_ok (w : World) {p0 : Timpl_Schema} {p1 : Timpl_Node} {cs0 : List Value} {cs1 : List Value} {r : Bool} (H : spec_l19Leaf p0 p1 = some r)  (g0 : (eTimpl_Schema).rd w [] p0 cs0) (g1 : (eTimpl_Node).rd w [] p1 cs1) :
    Calls Tryz.prog 123 #[.agg cs0.toArray, .agg cs1.toArray] w (fun en w' => en = .returned (.bool r) ∧ Ext [] w w') := by
  obtain ⟨c10, c11, rfl, g12, g13⟩ := rdo_Timpl_Schema g0
  obtain ⟨a14, c15, rfl⟩ := rd_sl1 g12
  obtain ⟨a16, c17, rfl⟩ := rd_sl1 g13
  obtain ⟨c18, c19, c20, c21, c22, c23, c24, c25, c26, c27, rfl, g28, g29, g30, g31, g32, g33, g34, g35, g36, g37⟩ := rdo_Timpl_Node g1
  obtain rfl : c18 = [.bool p1.Leaf_] := g28
  obtain rfl : c19 = [.int .i64 p1.Fork_.Attr_, .int .i64 p1.Fork_.At_] := g29
  obtain ⟨a38, c39, rfl⟩ := rd_sl1 g30
  obtain rfl : c21 = [.int .i64 p1.Miss_] := g31
  obtain ⟨c40, c41, rfl, g42, g43⟩ := rdo_Timpl_Stats g32
  obtain ⟨a44, c45, rfl⟩ := rd_sl1 g42
  obtain ⟨a46, c47, rfl⟩ := rd_sl1 g43
  obtain rfl : c23 = [.int .i64 p1.Since_] := g33
  obtain ⟨a48, c49, rfl⟩ := rd_sl1 g34
  obtain rfl : c25 = [.int .i64 p1.Depth_] := g35
  obtain rfl : c26 = [.int .i64 p1.Up_] := g36
  obtain rfl : c27 = [.int .i64 p1.Born_] := g37
  unfold spec_l19Leaf at H
  refine f_enter (vs := [.agg #[.slice a14 p0.Attrs_.length c15, .slice a16 p0.Classes_.length c17], .agg #[.bool p1.Leaf_, .int .i64 p1.Fork_.Attr_, .int .i64 p1.Fork_.At_, .slice a38 p1.Kids_.length c39, .int .i64 p1.Miss_, .slice a44 p1.Stats_.Totals_.length c45, .slice a46 p1.Stats_.Cells_.length c47, .int .i64 p1.Since_, .slice a48 p1.Attrs_.length c49, .int .i64 p1.Depth_, .int .i64 p1.Up_, .int .i64 p1.Born_]]) Tryz.func123 rfl Tryz.ntmps123 rfl (St.init w []) ?_
  refine c_seq ?_
  refine c_reg ?_
  refine ow_box (cs := [.slice a14 p0.Attrs_.length c15, .slice a16 p0.Classes_.length c17]) rfl rfl rfl rfl rfl rfl (fun _ => kp) (fun b50 => ?_)
  refine ow_box (cs := [.bool p1.Leaf_, .int .i64 p1.Fork_.Attr_, .int .i64 p1.Fork_.At_, .slice a38 p1.Kids_.length c39, .int .i64 p1.Miss_, .slice a44 p1.Stats_.Totals_.length c45, .slice a46 p1.Stats_.Cells_.length c47, .int .i64 p1.Since_, .slice a48 p1.Attrs_.length c49, .int .i64 p1.Depth_, .int .i64 p1.Up_, .int .i64 p1.Born_]) rfl rfl rfl rfl rfl rfl (fun _ => kp) (fun b51 => ?_)
  refine ow_batch [.p] rfl ?_
  refine ow_nil ?_
  refine x_qs ?_
  refine c_seq ?_
  refine c_seq ?_
  refine c_reg ?_
  refine ow_batch [.fa 118 1 1 fa118_1] rfl ?_
  refine ow_r rfl (dstOk_lt rfl) (ry_box (off := 1) (ds := [.int .i64 p1.Fork_.Attr_, .int .i64 p1.Fork_.At_]) rfl rfl ty116 (boxIn (i := 1) rfl) rfl rfl) ?_
  refine ow_r rfl (dstOk_lt rfl) (ry_build2 [] [.int .i64 0, .int .i64 0] rfl rfl ty116 fs116 rfl trivial rfl) ?_
  refine ow_r rfl (dstOk_lt rfl) (ry_sneq (xs := [.int .i64 p1.Fork_.Attr_, .int .i64 p1.Fork_.At_]) (ys := [.int .i64 0, .int .i64 0]) rfl rfl rfl (se116 p1.Fork_.Attr_ 0 p1.Fork_.At_ 0)) ?_
  refine ow_batch [.p] rfl ?_
  refine ow_cut [(14, .bool ((!(p1.Fork_.Attr_ == 0 && (p1.Fork_.At_ == 0 && true))) || (decide ((p1.Kids_.length : Int) > 0)))), (2, .pointer (some ⟨b50, 0, none⟩)), (3, .pointer (some ⟨b51, 0, none⟩))] 5 ?_ (fun key => OW.sub (R := [(2, .pointer (some ⟨b50, 0, none⟩)), (3, .pointer (some ⟨b51, 0, none⟩)), (9, .bool (!(p1.Fork_.Attr_ == 0 && (p1.Fork_.At_ == 0 && true))))]) ?_ ⟨rfl, rfl, rfl, trivial⟩)
  · refine ow_batch [.p] rfl ?_
    refine ow_cut [(19, .bool (((!(p1.Fork_.Attr_ == 0 && (p1.Fork_.At_ == 0 && true))) || (decide ((p1.Kids_.length : Int) > 0))) || (p1.Miss_ != 0))), (2, .pointer (some ⟨b50, 0, none⟩)), (3, .pointer (some ⟨b51, 0, none⟩))] 4 ?_ (fun key => OW.sub (R := [(2, .pointer (some ⟨b50, 0, none⟩)), (3, .pointer (some ⟨b51, 0, none⟩)), (15, .bool ((!(p1.Fork_.Attr_ == 0 && (p1.Fork_.At_ == 0 && true))) || (decide ((p1.Kids_.length : Int) > 0))))]) ?_ ⟨rfl, rfl, rfl, trivial⟩)
    · refine ow_batch [.p] rfl ?_
      obtain ⟨u56, hu60, H⟩ := of_bind H
      refine ow_cut [(26, .bool u56), (2, .pointer (some ⟨b50, 0, none⟩)), (3, .pointer (some ⟨b51, 0, none⟩))] 6 ?_ (fun key => OW.sub (R := [(2, .pointer (some ⟨b50, 0, none⟩)), (3, .pointer (some ⟨b51, 0, none⟩)), (20, .bool (((!(p1.Fork_.Attr_ == 0 && (p1.Fork_.At_ == 0 && true))) || (decide ((p1.Kids_.length : Int) > 0))) || (p1.Miss_ != 0)))]) ?_ ⟨rfl, rfl, rfl, trivial⟩)
      · refine ow_batch [.p] rfl ?_
        obtain ⟨u61, hu65, H⟩ := of_bind H
        refine ow_cut [(33, .bool u61), (2, .pointer (some ⟨b50, 0, none⟩)), (3, .pointer (some ⟨b51, 0, none⟩))] 6 ?_ (fun key => OW.sub (R := [(2, .pointer (some ⟨b50, 0, none⟩)), (3, .pointer (some ⟨b51, 0, none⟩)), (27, .bool u56)]) ?_ ⟨rfl, rfl, rfl, trivial⟩)
        · refine ow_nil ?_
          refine x_qs ?_
          refine c_if rfl (fun hb => ?_) (fun hb => ?_)
          · have H := of_if_t hb H
            refine c_seq ?_
            refine c_reg ?_
            refine ow_batch [.p] rfl ?_
            refine ow_nil ?_
            refine x_qs ?_
            refine c_ret ?_
            refine x_qs_ret ?_
            exact x_retR (rs := [.tmp 4]) (vs := [.bool false]) rfl ⟨rfl, trivial⟩ (fun w' hw' => by
                obtain rfl := of_some H
                exact ⟨rfl, hw'.ext⟩)
          · have H := of_if_f hb H
            refine c_skip ?_
            refine x_qs ?_
            refine c_seq ?_
            refine c_seq ?_
            refine c_reg ?_
            refine ow_batch [.fa 118 4 5 fa118_4, .fa 62 1 1 fa62_1] rfl ?_
            refine ow_r rfl (dstOk_lt rfl) (ry_box1 (off := 6) rfl rfl ty60 (boxIn (i := 1) rfl) rfl) ?_
            refine ow_batch [.lenS 60 59 sl60, .p] rfl ?_
            refine ow_nil ?_
            refine x_qs ?_
            refine c_if rfl (fun hb => ?_) (fun hb => ?_)
            · have H := of_if_t hb H
              refine c_seq ?_
              refine c_reg ?_
              refine ow_batch [.fa 118 5 7 fa118_5] rfl ?_
              refine ow_r rfl (dstOk_lt rfl) (ry_box1 (off := 7) rfl rfl ty3 (boxIn (i := 1) rfl) rfl) ?_
              refine ow_batch [.p, .p] rfl ?_
              refine ow_nil ?_
              refine x_qs ?_
              refine c_ret ?_
              refine x_qs_ret ?_
              exact x_retR (rs := [.tmp 4]) (vs := [.bool (p1.Since_ == 0)]) rfl ⟨rfl, trivial⟩ (fun w' hw' => by
                  obtain rfl := of_some H
                  exact ⟨rfl, hw'.ext⟩)
            · have H := of_if_f hb H
              refine c_skip ?_
              refine x_qs ?_
              refine c_seq ?_
              refine c_regQ mixed (by kernel_rfl) ?_
              refine ow_batch [.fa 118 5 7 fa118_5] rfl ?_
              refine ow_r rfl (dstOk_lt rfl) (ry_box1 (off := 7) rfl rfl ty3 (boxIn (i := 1) rfl) rfl) ?_
              refine ow_r rfl (dstOk_lt rfl) (ry_box (off := 0) (ds := [.slice a14 p0.Attrs_.length c15, .slice a16 p0.Classes_.length c17]) rfl rfl ty35 (boxIn (i := 0) rfl) rfl rfl) ?_
              refine ow_batch [.fa 118 4 5 fa118_4] rfl ?_
              refine ow_r rfl (dstOk_lt rfl) (ry_box (off := 5) (ds := [.slice a44 p1.Stats_.Totals_.length c45, .slice a46 p1.Stats_.Cells_.length c47]) rfl rfl ty62 (boxIn (i := 1) rfl) rfl rfl) ?_
              obtain ⟨y66, h67, H⟩ := of_bind H
              refine ow_q rfl rfl (dstOk_lt rfl) (qy_call rfl fn158 rfl (fun w1 hw1 => spec_StatsTotal_ok w1 (cs0 := [.slice a14 p0.Attrs_.length c15, .slice a16 p0.Classes_.length c17]) (cs1 := [.slice a44 p1.Stats_.Totals_.length c45, .slice a46 p1.Stats_.Cells_.length c47]) h67 (rdm_Timpl_Schema (x := p0) (c0 := [.slice a14 p0.Attrs_.length c15]) (c1 := [.slice a16 p0.Classes_.length c17]) (rds_bor g12 w1 hw1) (rds_bor g13 w1 hw1)) (rdm_Timpl_Stats (x := p1.Stats_) (c0 := [.slice a44 p1.Stats_.Totals_.length c45]) (c1 := [.slice a46 p1.Stats_.Cells_.length c47]) (rds_bor g42 w1 hw1) (rds_bor g43 w1 hw1)))) (fun _ _ => trivial) ?_
              obtain ⟨y68, h69, H⟩ := of_bind H
              refine ow_q rfl rfl (dstOk_lt rfl) (qy_call rfl fn88 rfl (fun w1 hw1 => spec_l1In_ok w1  h69)) (fun _ _ => trivial) ?_
              refine ow_batch [.p] rfl ?_
              refine ow_nilQ ?_
              refine x_qs ?_
              refine c_ret ?_
              exact x_retR (rs := [.tmp 4]) (vs := [.bool y68]) rfl ⟨rfl, trivial⟩ (fun w' hw' => by
                  obtain rfl := of_some H
                  exact ⟨rfl, hw'.ext⟩)
        · clear H
          have H := hu65
          clear hu65
          generalize u56 = t64 at H key ⊢
          cases t64
          · have H := of_if_f rfl H
            refine ow_r rfl (dstOk_lt rfl) (ry_box (off := 0) (ds := [.slice a14 p0.Attrs_.length c15, .slice a16 p0.Classes_.length c17]) rfl rfl ty35 (boxIn (i := 0) rfl) rfl rfl) ?_
            refine ow_batch [.fa 118 6 8 fa118_6] rfl ?_
            refine ow_r rfl (dstOk_lt rfl) (ry_box1 (off := 8) rfl rfl ty59 (boxIn (i := 1) rfl) rfl) ?_
            obtain ⟨y62, h63, H⟩ := of_bind H
            refine ow_q rfl rfl (dstOk_lt rfl) (qy_call rfl fn194 rfl (fun w1 hw1 => spec_AttrsOk_ok w1 (cs0 := [.slice a14 p0.Attrs_.length c15, .slice a16 p0.Classes_.length c17]) h63 (rdm_Timpl_Schema (x := p0) (c0 := [.slice a14 p0.Attrs_.length c15]) (c1 := [.slice a16 p0.Classes_.length c17]) (rds_bor g12 w1 hw1) (rds_bor g13 w1 hw1)) (rds_bor g34 w1 hw1))) (fun _ _ => trivial) ?_
            refine ow_batch [.p] rfl ?_
            refine ow_batch [.p] rfl ?_
            obtain rfl := of_some H
            exact OW.sub key ⟨rfl, rfl, rfl, trivial⟩
          · have H := of_if_t rfl H
            refine ow_batch [.p, .p, .p, .p, .p, .p] rfl ?_
            obtain rfl := of_some H
            exact OW.sub key ⟨rfl, rfl, rfl, trivial⟩
      · clear H
        have H := hu60
        clear hu60
        generalize (((!(p1.Fork_.Attr_ == 0 && (p1.Fork_.At_ == 0 && true))) || (decide ((p1.Kids_.length : Int) > 0))) || (p1.Miss_ != 0)) = t59 at H key ⊢
        cases t59
        · have H := of_if_f rfl H
          refine ow_r rfl (dstOk_lt rfl) (ry_box (off := 0) (ds := [.slice a14 p0.Attrs_.length c15, .slice a16 p0.Classes_.length c17]) rfl rfl ty35 (boxIn (i := 0) rfl) rfl rfl) ?_
          refine ow_batch [.fa 118 4 5 fa118_4] rfl ?_
          refine ow_r rfl (dstOk_lt rfl) (ry_box (off := 5) (ds := [.slice a44 p1.Stats_.Totals_.length c45, .slice a46 p1.Stats_.Cells_.length c47]) rfl rfl ty62 (boxIn (i := 1) rfl) rfl rfl) ?_
          obtain ⟨y57, h58, H⟩ := of_bind H
          refine ow_q rfl rfl (dstOk_lt rfl) (qy_call rfl fn157 rfl (fun w1 hw1 => spec_StatsOk_ok w1 (cs0 := [.slice a14 p0.Attrs_.length c15, .slice a16 p0.Classes_.length c17]) (cs1 := [.slice a44 p1.Stats_.Totals_.length c45, .slice a46 p1.Stats_.Cells_.length c47]) h58 (rdm_Timpl_Schema (x := p0) (c0 := [.slice a14 p0.Attrs_.length c15]) (c1 := [.slice a16 p0.Classes_.length c17]) (rds_bor g12 w1 hw1) (rds_bor g13 w1 hw1)) (rdm_Timpl_Stats (x := p1.Stats_) (c0 := [.slice a44 p1.Stats_.Totals_.length c45]) (c1 := [.slice a46 p1.Stats_.Cells_.length c47]) (rds_bor g42 w1 hw1) (rds_bor g43 w1 hw1)))) (fun _ _ => trivial) ?_
          refine ow_batch [.p] rfl ?_
          refine ow_batch [.p] rfl ?_
          obtain rfl := of_some H
          exact OW.sub key ⟨rfl, rfl, rfl, trivial⟩
        · have H := of_if_t rfl H
          refine ow_batch [.p, .p, .p, .p, .p, .p] rfl ?_
          obtain rfl := of_some H
          exact OW.sub key ⟨rfl, rfl, rfl, trivial⟩
    · generalize ((!(p1.Fork_.Attr_ == 0 && (p1.Fork_.At_ == 0 && true))) || (decide ((p1.Kids_.length : Int) > 0))) = t55 at key ⊢
      cases t55
      · refine ow_batch [.fa 118 3 4 fa118_3] rfl ?_
        refine ow_r rfl (dstOk_lt rfl) (ry_box1 (off := 4) rfl rfl ty3 (boxIn (i := 1) rfl) rfl) ?_
        refine ow_batch [.p] rfl ?_
        refine ow_batch [.p] rfl ?_
        exact OW.sub key ⟨rfl, rfl, rfl, trivial⟩
      · refine ow_batch [.p, .p, .p, .p] rfl ?_
        exact OW.sub key ⟨rfl, rfl, rfl, trivial⟩
  · generalize (!(p1.Fork_.Attr_ == 0 && (p1.Fork_.At_ == 0 && true))) = t53 at key ⊢
    cases t53
    · refine ow_batch [.fa 118 2 3 fa118_2] rfl ?_
      refine ow_r rfl (dstOk_lt rfl) (ry_box1 (off := 3) rfl rfl ty59 (boxIn (i := 1) rfl) rfl) ?_
      refine ow_batch [.lenS 59 3 sl59, .p] rfl ?_
      refine ow_batch [.p] rfl ?_
      exact OW.sub key ⟨rfl, rfl, rfl, trivial⟩
    · refine ow_batch [.p, .p, .p, .p, .p] rfl ?_
      exact OW.sub key ⟨rfl, rfl, rfl, trivial⟩
set_option maxHeartbeats 4000000 in
set_option maxRecDepth 100000 in
theorem spec_ForkOk_ok (w : World) {p0 : Timpl_Schema} {p1 : Timpl_Fork} {cs0 : List Value} {r : Bool} (H : spec_ForkOk p0 p1 = some r)  (g0 : (eTimpl_Schema).rd w [] p0 cs0) :
    Calls Tryz.prog 195 #[.agg cs0.toArray, .agg #[.int .i64 p1.Attr_, .int .i64 p1.At_]] w (fun en w' => en = .returned (.bool r) ∧ Ext [] w w') := by
  obtain ⟨c10, c11, rfl, g12, g13⟩ := rdo_Timpl_Schema g0
  obtain ⟨a14, c15, rfl⟩ := rd_sl1 g12
  obtain ⟨a16, c17, rfl⟩ := rd_sl1 g13
  unfold spec_ForkOk at H
  refine f_enter (vs := [.agg #[.slice a14 p0.Attrs_.length c15, .slice a16 p0.Classes_.length c17], .agg #[.int .i64 p1.Attr_, .int .i64 p1.At_]]) Tryz.func195 rfl Tryz.ntmps195 rfl (St.init w []) ?_
  refine c_seq ?_
  refine c_reg ?_
  refine ow_box (cs := [.slice a14 p0.Attrs_.length c15, .slice a16 p0.Classes_.length c17]) rfl rfl rfl rfl rfl rfl (fun _ => kp) (fun b18 => ?_)
  refine ow_box (cs := [.int .i64 p1.Attr_, .int .i64 p1.At_]) rfl rfl rfl rfl rfl rfl (fun _ => kp) (fun b19 => ?_)
  refine ow_batch [.p] rfl ?_
  refine ow_nil ?_
  refine x_qs ?_
  refine c_seq ?_
  refine c_seq ?_
  refine c_reg ?_
  refine ow_r rfl (dstOk_lt rfl) (ry_box (off := 0) (ds := [.slice a14 p0.Attrs_.length c15, .slice a16 p0.Classes_.length c17]) rfl rfl ty35 (boxIn (i := 0) rfl) rfl rfl) ?_
  obtain ⟨y20, h21, H⟩ := of_bind H
  refine ow_q rfl rfl (dstOk_lt rfl) (qy_call rfl fn122 rfl (fun w1 hw1 => spec_SchemaOk_ok w1 (cs0 := [.slice a14 p0.Attrs_.length c15, .slice a16 p0.Classes_.length c17]) h21 (rdm_Timpl_Schema (x := p0) (c0 := [.slice a14 p0.Attrs_.length c15]) (c1 := [.slice a16 p0.Classes_.length c17]) (rds_bor g12 w1 hw1) (rds_bor g13 w1 hw1)))) (fun _ _ => trivial) ?_
  refine ow_batch [.p, .p] rfl ?_
  obtain ⟨u22, hu26, H⟩ := of_bind H
  refine ow_cut [(17, .bool u22), (2, .pointer (some ⟨b18, 0, none⟩)), (3, .pointer (some ⟨b19, 0, none⟩))] 9 ?_ (fun key => OW.sub (R := [(2, .pointer (some ⟨b18, 0, none⟩)), (3, .pointer (some ⟨b19, 0, none⟩)), (8, .bool (!y20))]) ?_ ⟨rfl, rfl, rfl, trivial⟩)
  · refine ow_nil ?_
    refine x_qs ?_
    refine c_if rfl (fun hb => ?_) (fun hb => ?_)
    · have H := of_if_t hb H
      refine c_seq ?_
      refine c_reg ?_
      refine ow_batch [.p] rfl ?_
      refine ow_nil ?_
      refine x_qs ?_
      refine c_ret ?_
      refine x_qs_ret ?_
      exact x_retR (rs := [.tmp 4]) (vs := [.bool false]) rfl ⟨rfl, trivial⟩ (fun w' hw' => by
          obtain rfl := of_some H
          exact ⟨rfl, hw'.ext⟩)
    · have H := of_if_f hb H
      refine c_skip ?_
      refine x_qs ?_
      refine c_seq ?_
      refine c_seq ?_
      refine c_reg ?_
      refine ow_batch [.fa 35 0 0 fa35_0] rfl ?_
      refine ow_r rfl (dstOk_lt rfl) (ry_box1 (off := 0) rfl rfl ty33 (boxIn (i := 0) rfl) rfl) ?_
      refine ow_batch [.fa 116 0 0 fa116_0] rfl ?_
      refine ow_r rfl (dstOk_lt rfl) (ry_box1 (off := 0) rfl rfl ty3 (boxIn (i := 1) rfl) rfl) ?_
      obtain ⟨e27, h28, H⟩ := of_bind H
      refine ow_ixB rfl rfl rfl rfl rfl sl33 ty114 rfl g12 h28 (fun q31 c32 hd29 hA30 => ?_)
      obtain ⟨c33, c34, c35, rfl, g36, g37, g38⟩ := rdo_Timpl_Attr hd29
      obtain rfl : c33 = [vS e27.Name_] := g36
      obtain ⟨a39, c40, rfl⟩ := rd_sl1 g37
      obtain ⟨a41, c42, rfl⟩ := rd_sl1 g38
      refine ow_batch [.fa 114 1 1 fa114_1] rfl ?_
      refine ow_r rfl (dstOk_lt rfl) (ry_load1 rfl rfl ty59 (at_bor bor (at_K hA30 1 1))) ?_
      refine ow_batch [.lenS 59 3 sl59, .p] rfl ?_
      refine ow_nil ?_
      refine x_qs ?_
      refine c_if rfl (fun hb => ?_) (fun hb => ?_)
      · have H := of_if_t hb H
        refine c_seq ?_
        refine c_regQ mixed (by kernel_rfl) ?_
        refine ow_batch [.fa 116 1 1 fa116_1] rfl ?_
        refine ow_r rfl (dstOk_lt rfl) (ry_box1 (off := 1) rfl rfl ty3 (boxIn (i := 1) rfl) rfl) ?_
        refine ow_batch [.fa 35 0 0 fa35_0] rfl ?_
        refine ow_r rfl (dstOk_lt rfl) (ry_box1 (off := 0) rfl rfl ty33 (boxIn (i := 0) rfl) rfl) ?_
        refine ow_batch [.fa 116 0 0 fa116_0] rfl ?_
        refine ow_r rfl (dstOk_lt rfl) (ry_box1 (off := 0) rfl rfl ty3 (boxIn (i := 1) rfl) rfl) ?_
        obtain ⟨e43, h44, H⟩ := of_bind H
        refine ow_ixB rfl rfl rfl rfl rfl sl33 ty114 rfl g12 h44 (fun q47 c48 hd45 hA46 => ?_)
        obtain ⟨c49, c50, c51, rfl, g52, g53, g54⟩ := rdo_Timpl_Attr hd45
        obtain rfl : c49 = [vS e43.Name_] := g52
        obtain ⟨a55, c56, rfl⟩ := rd_sl1 g53
        obtain ⟨a57, c58, rfl⟩ := rd_sl1 g54
        refine ow_r rfl (dstOk_lt rfl) (ry_load (cs := [vS e43.Name_, .slice a55 e43.Cuts_.length c56, .slice a57 e43.Values_.length c58]) rfl rfl ty114 (at_bor bor hA46) rfl) ?_
        obtain ⟨y59, h60, H⟩ := of_bind H
        refine ow_q rfl rfl (dstOk_lt rfl) (qy_call rfl fn128 rfl (fun w1 hw1 => spec_Bins_ok w1 (cs0 := [vS e43.Name_, .slice a55 e43.Cuts_.length c56, .slice a57 e43.Values_.length c58]) h60 (rdm_Timpl_Attr (x := e43) (c0 := [vS e43.Name_]) (c1 := [.slice a55 e43.Cuts_.length c56]) (c2 := [.slice a57 e43.Values_.length c58]) rfl (rds_bor g53 w1 hw1) (rds_bor g54 w1 hw1)))) (fun _ _ => trivial) ?_
        refine ow_batch [.p] rfl ?_
        obtain ⟨y61, h62, H⟩ := of_bind H
        refine ow_q rfl rfl (dstOk_lt rfl) (qy_call rfl fn88 rfl (fun w1 hw1 => spec_l1In_ok w1  h62)) (fun _ _ => trivial) ?_
        refine ow_batch [.p] rfl ?_
        refine ow_nilQ ?_
        refine x_qs ?_
        refine c_ret ?_
        refine x_qs_ret ?_
        exact x_retR (rs := [.tmp 4]) (vs := [.bool y61]) rfl ⟨rfl, trivial⟩ (fun w' hw' => by
            obtain rfl := of_some H
            exact ⟨rfl, hw'.ext⟩)
      · have H := of_if_f hb H
        refine c_skip ?_
        refine x_qs ?_
        refine c_seq ?_
        refine c_regQ mixed (by kernel_rfl) ?_
        refine ow_batch [.fa 116 1 1 fa116_1] rfl ?_
        refine ow_r rfl (dstOk_lt rfl) (ry_box1 (off := 1) rfl rfl ty3 (boxIn (i := 1) rfl) rfl) ?_
        refine ow_batch [.fa 35 0 0 fa35_0] rfl ?_
        refine ow_r rfl (dstOk_lt rfl) (ry_box1 (off := 0) rfl rfl ty33 (boxIn (i := 0) rfl) rfl) ?_
        refine ow_batch [.fa 116 0 0 fa116_0] rfl ?_
        refine ow_r rfl (dstOk_lt rfl) (ry_box1 (off := 0) rfl rfl ty3 (boxIn (i := 1) rfl) rfl) ?_
        obtain ⟨e63, h64, H⟩ := of_bind H
        refine ow_ixB rfl rfl rfl rfl rfl sl33 ty114 rfl g12 h64 (fun q67 c68 hd65 hA66 => ?_)
        obtain ⟨c69, c70, c71, rfl, g72, g73, g74⟩ := rdo_Timpl_Attr hd65
        obtain rfl : c69 = [vS e63.Name_] := g72
        obtain ⟨a75, c76, rfl⟩ := rd_sl1 g73
        obtain ⟨a77, c78, rfl⟩ := rd_sl1 g74
        refine ow_r rfl (dstOk_lt rfl) (ry_load (cs := [vS e63.Name_, .slice a75 e63.Cuts_.length c76, .slice a77 e63.Values_.length c78]) rfl rfl ty114 (at_bor bor hA66) rfl) ?_
        obtain ⟨y79, h80, H⟩ := of_bind H
        refine ow_q rfl rfl (dstOk_lt rfl) (qy_call rfl fn128 rfl (fun w1 hw1 => spec_Bins_ok w1 (cs0 := [vS e63.Name_, .slice a75 e63.Cuts_.length c76, .slice a77 e63.Values_.length c78]) h80 (rdm_Timpl_Attr (x := e63) (c0 := [vS e63.Name_]) (c1 := [.slice a75 e63.Cuts_.length c76]) (c2 := [.slice a77 e63.Values_.length c78]) rfl (rds_bor g73 w1 hw1) (rds_bor g74 w1 hw1)))) (fun _ _ => trivial) ?_
        refine ow_batch [.p] rfl ?_
        obtain ⟨y81, h82, H⟩ := of_bind H
        refine ow_q rfl rfl (dstOk_lt rfl) (qy_call rfl fn88 rfl (fun w1 hw1 => spec_l1In_ok w1  h82)) (fun _ _ => trivial) ?_
        refine ow_batch [.p] rfl ?_
        refine ow_nilQ ?_
        refine x_qs ?_
        refine c_ret ?_
        exact x_retR (rs := [.tmp 4]) (vs := [.bool y81]) rfl ⟨rfl, trivial⟩ (fun w' hw' => by
            obtain rfl := of_some H
            exact ⟨rfl, hw'.ext⟩)
  · clear H
    have H := hu26
    clear hu26
    generalize (!y20) = t25 at H key ⊢
    cases t25
    · have H := of_if_f rfl H
      refine ow_batch [.fa 116 0 0 fa116_0] rfl ?_
      refine ow_r rfl (dstOk_lt rfl) (ry_box1 (off := 0) rfl rfl ty3 (boxIn (i := 1) rfl) rfl) ?_
      refine ow_batch [.fa 35 0 0 fa35_0] rfl ?_
      refine ow_r rfl (dstOk_lt rfl) (ry_box1 (off := 0) rfl rfl ty33 (boxIn (i := 0) rfl) rfl) ?_
      refine ow_batch [.lenS 33 114 sl33, .p] rfl ?_
      obtain ⟨y23, h24, H⟩ := of_bind H
      refine ow_q rfl rfl (dstOk_lt rfl) (qy_call rfl fn88 rfl (fun w1 hw1 => spec_l1In_ok w1  h24)) (fun _ _ => trivial) ?_
      refine ow_batch [.p] rfl ?_
      refine ow_batch [.p] rfl ?_
      obtain rfl := of_some H
      exact OW.sub key ⟨rfl, rfl, rfl, trivial⟩
    · have H := of_if_t rfl H
      refine ow_batch [.p, .p, .p, .p, .p, .p, .p, .p, .p] rfl ?_
      obtain rfl := of_some H
      exact OW.sub key ⟨rfl, rfl, rfl, trivial⟩
set_option maxHeartbeats 4000000 in
set_option maxRecDepth 100000 in
theorem spec_Branches_ok (w : World) {p0 : Timpl_Schema} {p1 : Timpl_Fork} {cs0 : List Value} {r : Int} (H : spec_Branches p0 p1 = some r)  (g0 : (eTimpl_Schema).rd w [] p0 cs0) :
    Calls Tryz.prog 196 #[.agg cs0.toArray, .agg #[.int .i64 p1.Attr_, .int .i64 p1.At_]] w (fun en w' => en = .returned (.int .i64 r) ∧ Ext [] w w') := by
  obtain ⟨c10, c11, rfl, g12, g13⟩ := rdo_Timpl_Schema g0
  obtain ⟨a14, c15, rfl⟩ := rd_sl1 g12
  obtain ⟨a16, c17, rfl⟩ := rd_sl1 g13
  unfold spec_Branches at H
  refine f_enter (vs := [.agg #[.slice a14 p0.Attrs_.length c15, .slice a16 p0.Classes_.length c17], .agg #[.int .i64 p1.Attr_, .int .i64 p1.At_]]) Tryz.func196 rfl Tryz.ntmps196 rfl (St.init w []) ?_
  refine c_seq ?_
  refine c_reg ?_
  refine ow_box (cs := [.slice a14 p0.Attrs_.length c15, .slice a16 p0.Classes_.length c17]) rfl rfl rfl rfl rfl rfl (fun _ => kp) (fun b18 => ?_)
  refine ow_box (cs := [.int .i64 p1.Attr_, .int .i64 p1.At_]) rfl rfl rfl rfl rfl rfl (fun _ => kp) (fun b19 => ?_)
  refine ow_batch [.p] rfl ?_
  refine ow_nil ?_
  refine x_qs ?_
  refine c_seq ?_
  refine c_seq ?_
  refine c_reg ?_
  refine ow_r rfl (dstOk_lt rfl) (ry_box (off := 0) (ds := [.slice a14 p0.Attrs_.length c15, .slice a16 p0.Classes_.length c17]) rfl rfl ty35 (boxIn (i := 0) rfl) rfl rfl) ?_
  refine ow_r rfl (dstOk_lt rfl) (ry_box (off := 0) (ds := [.int .i64 p1.Attr_, .int .i64 p1.At_]) rfl rfl ty116 (boxIn (i := 1) rfl) rfl rfl) ?_
  obtain ⟨y20, h21, H⟩ := of_bind H
  refine ow_q rfl rfl (dstOk_lt rfl) (qy_call rfl fn195 rfl (fun w1 hw1 => spec_ForkOk_ok w1 (p1 := p1) (cs0 := [.slice a14 p0.Attrs_.length c15, .slice a16 p0.Classes_.length c17]) h21 (rdm_Timpl_Schema (x := p0) (c0 := [.slice a14 p0.Attrs_.length c15]) (c1 := [.slice a16 p0.Classes_.length c17]) (rds_bor g12 w1 hw1) (rds_bor g13 w1 hw1)))) (fun _ _ => trivial) ?_
  refine ow_batch [.p] rfl ?_
  refine ow_nil ?_
  refine x_qs ?_
  refine c_if rfl (fun hb => ?_) (fun hb => ?_)
  · have H := of_if_t hb H
    refine c_seq ?_
    refine c_reg ?_
    refine ow_batch [.p] rfl ?_
    refine ow_nil ?_
    refine x_qs ?_
    refine c_ret ?_
    refine x_qs_ret ?_
    exact x_retR (rs := [.tmp 4]) (vs := [.int .i64 0]) rfl ⟨rfl, trivial⟩ (fun w' hw' => by
        obtain rfl := of_some H
        exact ⟨rfl, hw'.ext⟩)
  · have H := of_if_f hb H
    refine c_skip ?_
    refine x_qs ?_
    refine c_seq ?_
    refine c_seq ?_
    refine c_reg ?_
    refine ow_batch [.fa 116 1 1 fa116_1] rfl ?_
    refine ow_r rfl (dstOk_lt rfl) (ry_box1 (off := 1) rfl rfl ty3 (boxIn (i := 1) rfl) rfl) ?_
    refine ow_batch [.p] rfl ?_
    refine ow_nil ?_
    refine x_qs ?_
    refine c_if rfl (fun hb => ?_) (fun hb => ?_)
    · have H := of_if_t hb H
      refine c_seq ?_
      refine c_reg ?_
      refine ow_batch [.fa 35 0 0 fa35_0] rfl ?_
      refine ow_r rfl (dstOk_lt rfl) (ry_box1 (off := 0) rfl rfl ty33 (boxIn (i := 0) rfl) rfl) ?_
      refine ow_batch [.fa 116 0 0 fa116_0] rfl ?_
      refine ow_r rfl (dstOk_lt rfl) (ry_box1 (off := 0) rfl rfl ty3 (boxIn (i := 1) rfl) rfl) ?_
      obtain ⟨e22, h23, H⟩ := of_bind H
      refine ow_ixB rfl rfl rfl rfl rfl sl33 ty114 rfl g12 h23 (fun q26 c27 hd24 hA25 => ?_)
      obtain ⟨c28, c29, c30, rfl, g31, g32, g33⟩ := rdo_Timpl_Attr hd24
      obtain rfl : c28 = [vS e22.Name_] := g31
      obtain ⟨a34, c35, rfl⟩ := rd_sl1 g32
      obtain ⟨a36, c37, rfl⟩ := rd_sl1 g33
      refine ow_r rfl (dstOk_lt rfl) (ry_load (cs := [vS e22.Name_, .slice a34 e22.Cuts_.length c35, .slice a36 e22.Values_.length c37]) rfl rfl ty114 (at_bor bor hA25) rfl) ?_
      obtain ⟨y38, h39, H⟩ := of_bind H
      refine ow_q rfl rfl (dstOk_lt rfl) (qy_call rfl fn128 rfl (fun w1 hw1 => spec_Bins_ok w1 (cs0 := [vS e22.Name_, .slice a34 e22.Cuts_.length c35, .slice a36 e22.Values_.length c37]) h39 (rdm_Timpl_Attr (x := e22) (c0 := [vS e22.Name_]) (c1 := [.slice a34 e22.Cuts_.length c35]) (c2 := [.slice a36 e22.Values_.length c37]) rfl (rds_bor g32 w1 hw1) (rds_bor g33 w1 hw1)))) (fun _ _ => trivial) ?_
      refine ow_batch [.p] rfl ?_
      refine ow_nil ?_
      refine x_qs ?_
      refine c_ret ?_
      refine x_qs_ret ?_
      exact x_retR (rs := [.tmp 4]) (vs := [.int .i64 y38]) rfl ⟨rfl, trivial⟩ (fun w' hw' => by
          obtain rfl := of_some H
          exact ⟨rfl, hw'.ext⟩)
    · have H := of_if_f hb H
      refine c_skip ?_
      refine x_qs ?_
      refine c_seq ?_
      refine c_reg ?_
      refine ow_batch [.p] rfl ?_
      refine ow_nil ?_
      refine x_qs ?_
      refine c_ret ?_
      exact x_retR (rs := [.tmp 4]) (vs := [.int .i64 2]) rfl ⟨rfl, trivial⟩ (fun w' hw' => by
          obtain rfl := of_some H
          exact ⟨rfl, hw'.ext⟩)
set_option maxHeartbeats 4000000 in
set_option maxRecDepth 100000 in
theorem spec_l19Split_ok (w : World) {p0 : Timpl_Schema} {p1 : Timpl_Tree} {p2 : Int} {cs0 : List Value} {cs1 : List Value} {r : Bool} (H : spec_l19Split p0 p1 p2 = some r)  (g0 : (eTimpl_Schema).rd w [] p0 cs0) (g1 : (eTimpl_Tree).rd w [] p1 cs1) :
    Calls Tryz.prog 124 #[.agg cs0.toArray, .agg cs1.toArray, .int .i64 p2] w (fun en w' => en = .returned (.bool r) ∧ Ext [] w w') := by
  obtain ⟨c10, c11, rfl, g12, g13⟩ := rdo_Timpl_Schema g0
  obtain ⟨a14, c15, rfl⟩ := rd_sl1 g12
  obtain ⟨a16, c17, rfl⟩ := rd_sl1 g13
  obtain ⟨c18, c19, rfl, g20, g21⟩ := rdo_Timpl_Tree g1
  obtain ⟨a22, c23, rfl⟩ := rd_sl1 g20
  obtain rfl : c19 = [.int .i64 p1.Seen_] := g21
  unfold spec_l19Split at H
  refine f_enter (vs := [.agg #[.slice a14 p0.Attrs_.length c15, .slice a16 p0.Classes_.length c17], .agg #[.slice a22 p1.Nodes_.length c23, .int .i64 p1.Seen_], .int .i64 p2]) Tryz.func124 rfl Tryz.ntmps124 rfl (St.init w []) ?_
  refine c_seq ?_
  refine c_reg ?_
  refine ow_box (cs := [.slice a14 p0.Attrs_.length c15, .slice a16 p0.Classes_.length c17]) rfl rfl rfl rfl rfl rfl (fun _ => kp) (fun b24 => ?_)
  refine ow_box (cs := [.slice a22 p1.Nodes_.length c23, .int .i64 p1.Seen_]) rfl rfl rfl rfl rfl rfl (fun _ => kp) (fun b25 => ?_)
  refine ow_batch [.p] rfl ?_
  refine ow_nil ?_
  refine x_qs ?_
  refine c_seq ?_
  refine c_reg ?_
  refine ow_batch [.fa 39 0 0 fa39_0] rfl ?_
  refine ow_r rfl (dstOk_lt rfl) (ry_box1 (off := 0) rfl rfl ty37 (boxIn (i := 1) rfl) rfl) ?_
  refine ow_batch [.p] rfl ?_
  obtain ⟨e26, h27, H⟩ := of_bind H
  refine ow_ixB rfl rfl rfl rfl rfl sl37 ty118 rfl g20 h27 (fun q30 c31 hd28 hA29 => ?_)
  obtain ⟨c32, c33, c34, c35, c36, c37, c38, c39, c40, c41, rfl, g42, g43, g44, g45, g46, g47, g48, g49, g50, g51⟩ := rdo_Timpl_Node hd28
  obtain rfl : c32 = [.bool e26.Leaf_] := g42
  obtain rfl : c33 = [.int .i64 e26.Fork_.Attr_, .int .i64 e26.Fork_.At_] := g43
  obtain ⟨a52, c53, rfl⟩ := rd_sl1 g44
  obtain rfl : c35 = [.int .i64 e26.Miss_] := g45
  obtain ⟨c54, c55, rfl, g56, g57⟩ := rdo_Timpl_Stats g46
  obtain ⟨a58, c59, rfl⟩ := rd_sl1 g56
  obtain ⟨a60, c61, rfl⟩ := rd_sl1 g57
  obtain rfl : c37 = [.int .i64 e26.Since_] := g47
  obtain ⟨a62, c63, rfl⟩ := rd_sl1 g48
  obtain rfl : c39 = [.int .i64 e26.Depth_] := g49
  obtain rfl : c40 = [.int .i64 e26.Up_] := g50
  obtain rfl : c41 = [.int .i64 e26.Born_] := g51
  refine ow_r rfl (dstOk_lt rfl) (ry_load (cs := [.bool e26.Leaf_, .int .i64 e26.Fork_.Attr_, .int .i64 e26.Fork_.At_, .slice a52 e26.Kids_.length c53, .int .i64 e26.Miss_, .slice a58 e26.Stats_.Totals_.length c59, .slice a60 e26.Stats_.Cells_.length c61, .int .i64 e26.Since_, .slice a62 e26.Attrs_.length c63, .int .i64 e26.Depth_, .int .i64 e26.Up_, .int .i64 e26.Born_]) rfl rfl ty118 (at_bor bor hA29) rfl) ?_
  refine ow_alloc rfl rfl rfl rfl ty118 (fun _ => kp) (fun b64 => ?_)
  refine ow_storeC (off := 0) [.bool e26.Leaf_, .int .i64 e26.Fork_.Attr_, .int .i64 e26.Fork_.At_, .slice a52 e26.Kids_.length c53, .int .i64 e26.Miss_, .slice a58 e26.Stats_.Totals_.length c59, .slice a60 e26.Stats_.Cells_.length c61, .int .i64 e26.Since_, .slice a62 e26.Attrs_.length c63, .int .i64 e26.Depth_, .int .i64 e26.Up_, .int .i64 e26.Born_] [_, _, _, _, _, _, _, _, _, _, _, _] (i := 2) rfl rfl rfl rfl rfl rfl ty118 rfl rfl (by intro u hu; simp only [List.mem_cons, List.not_mem_nil, or_false] at hu; rcases hu with rfl | rfl | rfl | rfl | rfl | rfl | rfl | rfl | rfl | rfl | rfl | rfl <;> rfl) rfl rfl rfl kp ?_
  refine ow_nil ?_
  refine x_qs ?_
  refine c_seq ?_
  refine c_seq ?_
  refine c_regQ mixed (by kernel_rfl) ?_
  refine ow_r rfl (dstOk_lt rfl) (ry_box (off := 0) (ds := [.slice a14 p0.Attrs_.length c15, .slice a16 p0.Classes_.length c17]) rfl rfl ty35 (boxIn (i := 0) rfl) rfl rfl) ?_
  refine ow_batch [.fa 118 1 1 fa118_1] rfl ?_
  refine ow_r rfl (dstOk_lt rfl) (ry_box (off := 1) (ds := [.int .i64 e26.Fork_.Attr_, .int .i64 e26.Fork_.At_]) rfl rfl ty116 (boxIn (i := 2) rfl) rfl rfl) ?_
  obtain ⟨y65, h66, H⟩ := of_bind H
  refine ow_q rfl rfl (dstOk_lt rfl) (qy_call rfl fn195 rfl (fun w1 hw1 => spec_ForkOk_ok w1 (p1 := e26.Fork_) (cs0 := [.slice a14 p0.Attrs_.length c15, .slice a16 p0.Classes_.length c17]) h66 (rdm_Timpl_Schema (x := p0) (c0 := [.slice a14 p0.Attrs_.length c15]) (c1 := [.slice a16 p0.Classes_.length c17]) (rds_bor g12 w1 hw1) (rds_bor g13 w1 hw1)))) (fun _ _ => trivial) ?_
  refine ow_batch [.p, .p] rfl ?_
  obtain ⟨u67, hu71, H⟩ := of_bind H
  refine ow_cut [(28, .bool u67), (2, .int .i64 p2), (3, .pointer (some ⟨b24, 0, none⟩)), (4, .pointer (some ⟨b25, 0, none⟩)), (7, .pointer (some ⟨b64, 0, none⟩))] 9 ?_ (fun key => OW.sub (R := [(2, .int .i64 p2), (3, .pointer (some ⟨b24, 0, none⟩)), (4, .pointer (some ⟨b25, 0, none⟩)), (7, .pointer (some ⟨b64, 0, none⟩)), (19, .bool (!y65))]) ?_ ⟨rfl, rfl, rfl, rfl, rfl, trivial⟩)
  · refine ow_batch [.p] rfl ?_
    obtain ⟨u72, hu76, H⟩ := of_bind H
    refine ow_cut [(38, .bool u72), (2, .int .i64 p2), (3, .pointer (some ⟨b24, 0, none⟩)), (4, .pointer (some ⟨b25, 0, none⟩)), (7, .pointer (some ⟨b64, 0, none⟩))] 9 ?_ (fun key => OW.sub (R := [(2, .int .i64 p2), (3, .pointer (some ⟨b24, 0, none⟩)), (4, .pointer (some ⟨b25, 0, none⟩)), (7, .pointer (some ⟨b64, 0, none⟩)), (29, .bool u67)]) ?_ ⟨rfl, rfl, rfl, rfl, rfl, trivial⟩)
    · refine ow_batch [.p] rfl ?_
      obtain ⟨u77, hu81, H⟩ := of_bind H
      refine ow_cut [(45, .bool u77), (2, .int .i64 p2), (3, .pointer (some ⟨b24, 0, none⟩)), (4, .pointer (some ⟨b25, 0, none⟩)), (7, .pointer (some ⟨b64, 0, none⟩))] 6 ?_ (fun key => OW.sub (R := [(2, .int .i64 p2), (3, .pointer (some ⟨b24, 0, none⟩)), (4, .pointer (some ⟨b25, 0, none⟩)), (7, .pointer (some ⟨b64, 0, none⟩)), (39, .bool u72)]) ?_ ⟨rfl, rfl, rfl, rfl, rfl, trivial⟩)
      · refine ow_batch [.p] rfl ?_
        refine ow_cut [(52, .bool (u77 || (decide ((e26.Stats_.Cells_.length : Int) > 0)))), (2, .int .i64 p2), (3, .pointer (some ⟨b24, 0, none⟩)), (4, .pointer (some ⟨b25, 0, none⟩)), (7, .pointer (some ⟨b64, 0, none⟩))] 6 ?_ (fun key => OW.sub (R := [(2, .int .i64 p2), (3, .pointer (some ⟨b24, 0, none⟩)), (4, .pointer (some ⟨b25, 0, none⟩)), (7, .pointer (some ⟨b64, 0, none⟩)), (46, .bool u77)]) ?_ ⟨rfl, rfl, rfl, rfl, rfl, trivial⟩)
        · refine ow_batch [.p] rfl ?_
          refine ow_cut [(57, .bool ((u77 || (decide ((e26.Stats_.Cells_.length : Int) > 0))) || (e26.Since_ != 0))), (2, .int .i64 p2), (3, .pointer (some ⟨b24, 0, none⟩)), (4, .pointer (some ⟨b25, 0, none⟩)), (7, .pointer (some ⟨b64, 0, none⟩))] 4 ?_ (fun key => OW.sub (R := [(2, .int .i64 p2), (3, .pointer (some ⟨b24, 0, none⟩)), (4, .pointer (some ⟨b25, 0, none⟩)), (7, .pointer (some ⟨b64, 0, none⟩)), (53, .bool (u77 || (decide ((e26.Stats_.Cells_.length : Int) > 0))))]) ?_ ⟨rfl, rfl, rfl, rfl, rfl, trivial⟩)
          · refine ow_batch [.p] rfl ?_
            obtain ⟨u86, hu90, H⟩ := of_bind H
            refine ow_cut [(64, .bool u86), (2, .int .i64 p2), (4, .pointer (some ⟨b25, 0, none⟩)), (7, .pointer (some ⟨b64, 0, none⟩))] 6 ?_ (fun key => OW.sub (R := [(2, .int .i64 p2), (3, .pointer (some ⟨b24, 0, none⟩)), (4, .pointer (some ⟨b25, 0, none⟩)), (7, .pointer (some ⟨b64, 0, none⟩)), (58, .bool ((u77 || (decide ((e26.Stats_.Cells_.length : Int) > 0))) || (e26.Since_ != 0)))]) ?_ ⟨rfl, rfl, rfl, rfl, rfl, trivial⟩)
            · refine ow_nilQ ?_
              refine x_qs ?_
              refine c_if rfl (fun hb => ?_) (fun hb => ?_)
              · have H := of_if_t hb H
                refine c_seq ?_
                refine c_reg ?_
                refine ow_batch [.p] rfl ?_
                refine ow_nil ?_
                refine x_qs ?_
                refine c_ret ?_
                refine x_qs_ret ?_
                exact x_retR (rs := [.tmp 6]) (vs := [.bool false]) rfl ⟨rfl, trivial⟩ (fun w' hw' => by
                    obtain rfl := of_some H
                    exact ⟨rfl, hw'.ext⟩)
              · have H := of_if_f hb H
                refine c_skip ?_
                refine x_qs ?_
                refine c_seq ?_
                refine c_seq ?_
                refine c_reg ?_
                refine ow_batch [.p] rfl ?_
                refine ow_nil ?_
                refine x_qs ?_
                refine c_block ?_
                refine CW.at (loopI1 (fun (i149 : Int) => St w [] [Res.box b25 39 [.slice a22 p1.Nodes_.length c23, .int .i64 p1.Seen_], Res.box b64 118 [.bool e26.Leaf_, .int .i64 e26.Fork_.Attr_, .int .i64 e26.Fork_.At_, .slice a52 e26.Kids_.length c53, .int .i64 e26.Miss_, .slice a58 e26.Stats_.Totals_.length c59, .slice a60 e26.Stats_.Cells_.length c61, .int .i64 e26.Since_, .slice a62 e26.Attrs_.length c63, .int .i64 e26.Depth_, .int .i64 e26.Up_, .int .i64 e26.Born_]]) (fun (i149 : Int) => [(2, .int .i64 p2), (4, .pointer (some ⟨b25, 0, none⟩)), (7, .pointer (some ⟨b64, 0, none⟩)), (8, .int .i64 i149)]) (fun kk => fun (i149 : Int) => spec_l19Split_L1 e26 p2 p1 kk i149 = some r) (fun _ H => ?_) (fun k1 ihk1 i149 H => ?_) Fuel (0) (H)) (fun _ h => St.sel [1, 2] rfl rfl h) ⟨rfl, rfl, rfl, rfl,  trivial⟩
                · unfold spec_l19Split_L1 at H
                  exact absurd H (by simp)
                · unfold spec_l19Split_L1 at H
                  refine c_seq ?_
                  refine c_seq ?_
                  refine c_reg ?_
                  refine ow_batch [.p, .fa 118 2 3 fa118_2] rfl ?_
                  refine ow_r rfl (dstOk_lt rfl) (ry_box1 (off := 3) rfl rfl ty59 (boxIn (i := 1) rfl) rfl) ?_
                  refine ow_batch [.lenS 59 3 sl59, .p] rfl ?_
                  refine ow_nil ?_
                  refine x_qs ?_
                  refine c_if rfl (fun hb => ?_) (fun hb => ?_)
                  · have H := of_if_t hb H
                    refine c_skip ?_
                    refine x_qs ?_
                    refine c_seq ?_
                    refine c_block ?_
                    refine c_seq ?_
                    refine c_regQ mixed (by kernel_rfl) ?_
                    refine ow_batch [.fa 118 2 3 fa118_2] rfl ?_
                    refine ow_r rfl (dstOk_lt rfl) (ry_box1 (off := 3) rfl rfl ty59 (boxIn (i := 1) rfl) rfl) ?_
                    refine ow_batch [.p] rfl ?_
                    obtain ⟨e208, h209, H⟩ := of_bind H
                    refine ow_ixE (e := eVal (Value.int .i64) (fun _ => rfl)) (xs := e26.Kids_) (j := i149) rfl rfl rfl rfl rfl sl59 ty3 rfl (fun w1 hw1 => rds_bor g44 w1 hw1) h209 (by rw [Nat.mul_one]) ?_
                    refine ow_r rfl (dstOk_lt rfl) (ry_load1 rfl rfl ty3 (at_elV (fun w1 hw1 => rds_bor g44 w1 hw1) h209)) ?_
                    refine ow_batch [.p, .p, .fa 39 0 0 fa39_0] rfl ?_
                    refine ow_r rfl (dstOk_lt rfl) (ry_box1 (off := 0) rfl rfl ty37 (boxIn (i := 0) rfl) rfl) ?_
                    refine ow_batch [.lenS 37 118 sl37, .p] rfl ?_
                    obtain ⟨y210, h211, H⟩ := of_bind H
                    refine ow_q rfl rfl (dstOk_lt rfl) (qy_call rfl fn88 rfl (fun w1 hw1 => spec_l1In_ok w1  h211)) (fun _ _ => trivial) ?_
                    refine ow_batch [.p, .p] rfl ?_
                    obtain ⟨u212, hu254, H⟩ := of_bind H
                    refine ow_cut [(98, .bool u212), (2, .int .i64 p2), (4, .pointer (some ⟨b25, 0, none⟩)), (7, .pointer (some ⟨b64, 0, none⟩)), (8, .int .i64 i149)] 13 ?_ (fun key => OW.sub (R := [(2, .int .i64 p2), (4, .pointer (some ⟨b25, 0, none⟩)), (7, .pointer (some ⟨b64, 0, none⟩)), (8, .int .i64 i149), (85, .bool (!y210))]) ?_ ⟨rfl, rfl, rfl, rfl, rfl, trivial⟩)
                    · refine ow_batch [.p] rfl ?_
                      obtain ⟨u255, hu264, H⟩ := of_bind H
                      refine ow_cut [(116, .bool u255), (2, .int .i64 p2), (4, .pointer (some ⟨b25, 0, none⟩)), (7, .pointer (some ⟨b64, 0, none⟩)), (8, .int .i64 i149)] 17 ?_ (fun key => OW.sub (R := [(2, .int .i64 p2), (4, .pointer (some ⟨b25, 0, none⟩)), (7, .pointer (some ⟨b64, 0, none⟩)), (8, .int .i64 i149), (99, .bool u212)]) ?_ ⟨rfl, rfl, rfl, rfl, rfl, trivial⟩)
                      · refine ow_nilQ ?_
                        refine x_qs ?_
                        refine c_if rfl (fun hb => ?_) (fun hb => ?_)
                        · have H := of_if_t hb H
                          refine c_seq ?_
                          refine c_reg ?_
                          refine ow_batch [.p] rfl ?_
                          refine ow_nil ?_
                          refine x_qs ?_
                          refine c_ret ?_
                          refine x_qb_ret ?_
                          refine x_qs_ret ?_
                          refine x_ql_ret ?_
                          refine x_qb_ret ?_
                          refine x_qs_ret ?_
                          exact x_retR (rs := [.tmp 6]) (vs := [.bool false]) rfl ⟨rfl, trivial⟩ (fun w' hw' => by
                              obtain rfl := of_some H
                              exact ⟨rfl, hw'.ext⟩)
                        · have H := of_if_f hb H
                          refine c_skip ?_
                          refine x_qb ?_
                          refine x_qs ?_
                          refine c_reg ?_
                          refine ow_batch [.p, .p, .p] rfl ?_
                          refine ow_nil ?_
                          exact x_ql (RW.at (ihk1 (IntKind.i64.wrap (i149 + 1)) (H)) (fun _ h => St.sel [0, 1] rfl rfl h) ⟨rfl, rfl, rfl, rfl, trivial⟩)
                      · clear H
                        have H := hu264
                        clear hu264
                        generalize u212 = t263 at H key ⊢
                        cases t263
                        · have H := of_if_f rfl H
                          refine ow_batch [.p, .p, .p] rfl ?_
                          obtain ⟨u256, hu262, H⟩ := of_bind H
                          refine ow_cut [(115, .bool u256), (2, .int .i64 p2), (4, .pointer (some ⟨b25, 0, none⟩)), (7, .pointer (some ⟨b64, 0, none⟩)), (8, .int .i64 i149), (99, .bool false)] 13 ?_ (fun key => OW.sub (R := [(2, .int .i64 p2), (4, .pointer (some ⟨b25, 0, none⟩)), (7, .pointer (some ⟨b64, 0, none⟩)), (8, .int .i64 i149), (99, .bool false), (102, .bool (decide (i149 > 0)))]) ?_ ⟨rfl, rfl, rfl, rfl, rfl, rfl, trivial⟩)
                          · refine ow_batch [.p] rfl ?_
                            obtain rfl := of_some H
                            exact OW.sub key ⟨rfl, rfl, rfl, rfl, rfl, trivial⟩
                          · clear H
                            have H := hu262
                            clear hu262
                            generalize (decide (i149 > 0)) = t261 at H key ⊢
                            cases t261
                            · have H := of_if_f rfl H
                              refine ow_batch [.p, .p, .p, .p, .p, .p, .p, .p, .p, .p, .p, .p, .p] rfl ?_
                              obtain rfl := of_some H
                              exact OW.sub key ⟨rfl, rfl, rfl, rfl, rfl, rfl, trivial⟩
                            · have H := of_if_t rfl H
                              refine ow_batch [.fa 118 2 3 fa118_2] rfl ?_
                              refine ow_r rfl (dstOk_lt rfl) (ry_box1 (off := 3) rfl rfl ty59 (boxIn (i := 1) rfl) rfl) ?_
                              refine ow_batch [.p] rfl ?_
                              obtain ⟨e257, h258, H⟩ := of_bind H
                              refine ow_ixE (e := eVal (Value.int .i64) (fun _ => rfl)) (xs := e26.Kids_) (j := i149) rfl rfl rfl rfl rfl sl59 ty3 rfl (fun w1 hw1 => rds_bor g44 w1 hw1) h258 (by rw [Nat.mul_one]) ?_
                              refine ow_r rfl (dstOk_lt rfl) (ry_load1 rfl rfl ty3 (at_elV (fun w1 hw1 => rds_bor g44 w1 hw1) h258)) ?_
                              refine ow_batch [.fa 118 2 3 fa118_2] rfl ?_
                              refine ow_r rfl (dstOk_lt rfl) (ry_box1 (off := 3) rfl rfl ty59 (boxIn (i := 1) rfl) rfl) ?_
                              refine ow_batch [.p, .p] rfl ?_
                              obtain ⟨e259, h260, H⟩ := of_bind H
                              refine ow_ixE (e := eVal (Value.int .i64) (fun _ => rfl)) (xs := e26.Kids_) (j := IntKind.i64.wrap (i149 - 1)) rfl rfl rfl rfl rfl sl59 ty3 rfl (fun w1 hw1 => rds_bor g44 w1 hw1) h260 (by rw [Nat.mul_one]) ?_
                              refine ow_r rfl (dstOk_lt rfl) (ry_load1 rfl rfl ty3 (at_elV (fun w1 hw1 => rds_bor g44 w1 hw1) h260)) ?_
                              refine ow_batch [.p] rfl ?_
                              refine ow_batch [.p] rfl ?_
                              obtain rfl := of_some H
                              exact OW.sub key ⟨rfl, rfl, rfl, rfl, rfl, rfl, trivial⟩
                        · have H := of_if_t rfl H
                          refine ow_batch [.p, .p, .p, .p, .p, .p, .p, .p, .p, .p, .p, .p, .p, .p, .p, .p, .p] rfl ?_
                          obtain rfl := of_some H
                          exact OW.sub key ⟨rfl, rfl, rfl, rfl, rfl, trivial⟩
                    · clear H
                      have H := hu254
                      clear hu254
                      generalize (!y210) = t253 at H key ⊢
                      cases t253
                      · have H := of_if_f rfl H
                        refine ow_batch [.fa 39 0 0 fa39_0] rfl ?_
                        refine ow_r rfl (dstOk_lt rfl) (ry_box1 (off := 0) rfl rfl ty37 (boxIn (i := 0) rfl) rfl) ?_
                        refine ow_batch [.fa 118 2 3 fa118_2] rfl ?_
                        refine ow_r rfl (dstOk_lt rfl) (ry_box1 (off := 3) rfl rfl ty59 (boxIn (i := 1) rfl) rfl) ?_
                        refine ow_batch [.p] rfl ?_
                        obtain ⟨e213, h214, H⟩ := of_bind H
                        refine ow_ixE (e := eVal (Value.int .i64) (fun _ => rfl)) (xs := e26.Kids_) (j := i149) rfl rfl rfl rfl rfl sl59 ty3 rfl (fun w1 hw1 => rds_bor g44 w1 hw1) h214 (by rw [Nat.mul_one]) ?_
                        refine ow_r rfl (dstOk_lt rfl) (ry_load1 rfl rfl ty3 (at_elV (fun w1 hw1 => rds_bor g44 w1 hw1) h214)) ?_
                        obtain ⟨e215, h216, H⟩ := of_bind H
                        refine ow_ixB rfl rfl rfl rfl rfl sl37 ty118 rfl g20 h216 (fun q219 c220 hd217 hA218 => ?_)
                        obtain ⟨c221, c222, c223, c224, c225, c226, c227, c228, c229, c230, rfl, g231, g232, g233, g234, g235, g236, g237, g238, g239, g240⟩ := rdo_Timpl_Node hd217
                        obtain rfl : c221 = [.bool e215.Leaf_] := g231
                        obtain rfl : c222 = [.int .i64 e215.Fork_.Attr_, .int .i64 e215.Fork_.At_] := g232
                        obtain ⟨a241, c242, rfl⟩ := rd_sl1 g233
                        obtain rfl : c224 = [.int .i64 e215.Miss_] := g234
                        obtain ⟨c243, c244, rfl, g245, g246⟩ := rdo_Timpl_Stats g235
                        obtain ⟨a247, c248, rfl⟩ := rd_sl1 g245
                        obtain ⟨a249, c250, rfl⟩ := rd_sl1 g246
                        obtain rfl : c226 = [.int .i64 e215.Since_] := g236
                        obtain ⟨a251, c252, rfl⟩ := rd_sl1 g237
                        obtain rfl : c228 = [.int .i64 e215.Depth_] := g238
                        obtain rfl : c229 = [.int .i64 e215.Up_] := g239
                        obtain rfl : c230 = [.int .i64 e215.Born_] := g240
                        refine ow_batch [.fa 118 8 10 fa118_8] rfl ?_
                        refine ow_r rfl (dstOk_lt rfl) (ry_load1 rfl rfl ty3 (at_bor bor (at_K hA218 10 1))) ?_
                        refine ow_batch [.p, .p] rfl ?_
                        refine ow_batch [.p] rfl ?_
                        obtain rfl := of_some H
                        exact OW.sub key ⟨rfl, rfl, rfl, rfl, rfl, trivial⟩
                      · have H := of_if_t rfl H
                        refine ow_batch [.p, .p, .p, .p, .p, .p, .p, .p, .p, .p, .p, .p, .p] rfl ?_
                        obtain rfl := of_some H
                        exact OW.sub key ⟨rfl, rfl, rfl, rfl, rfl, trivial⟩
                  · have H := of_if_f hb H
                    refine c_exit ?_
                    refine x_qs_exit ?_
                    refine x_ql_exit ?_
                    refine x_qb_here ?_
                    refine x_qs ?_
                    refine c_seq ?_
                    refine c_reg ?_
                    refine ow_batch [.p] rfl ?_
                    refine ow_nil ?_
                    refine x_qs ?_
                    refine c_ret ?_
                    exact x_retR (rs := [.tmp 6]) (vs := [.bool true]) rfl ⟨rfl, trivial⟩ (fun w' hw' => by
                        obtain rfl := of_some H
                        exact ⟨rfl, hw'.ext⟩)
            · clear H
              have H := hu90
              clear hu90
              generalize ((u77 || (decide ((e26.Stats_.Cells_.length : Int) > 0))) || (e26.Since_ != 0)) = t89 at H key ⊢
              cases t89
              · have H := of_if_f rfl H
                refine ow_r rfl (dstOk_lt rfl) (ry_box (off := 0) (ds := [.slice a14 p0.Attrs_.length c15, .slice a16 p0.Classes_.length c17]) rfl rfl ty35 (boxIn (i := 0) rfl) rfl rfl) ?_
                refine ow_batch [.fa 118 6 8 fa118_6] rfl ?_
                refine ow_r rfl (dstOk_lt rfl) (ry_box1 (off := 8) rfl rfl ty59 (boxIn (i := 2) rfl) rfl) ?_
                obtain ⟨y87, h88, H⟩ := of_bind H
                refine ow_q rfl rfl (dstOk_lt rfl) (qy_call rfl fn194 rfl (fun w1 hw1 => spec_AttrsOk_ok w1 (cs0 := [.slice a14 p0.Attrs_.length c15, .slice a16 p0.Classes_.length c17]) h88 (rdm_Timpl_Schema (x := p0) (c0 := [.slice a14 p0.Attrs_.length c15]) (c1 := [.slice a16 p0.Classes_.length c17]) (rds_bor g12 w1 hw1) (rds_bor g13 w1 hw1)) (rds_bor g48 w1 hw1))) (fun _ _ => trivial) ?_
                refine ow_batch [.p] rfl ?_
                refine ow_batch [.p] rfl ?_
                obtain rfl := of_some H
                exact OW.sub key ⟨rfl, rfl, rfl, rfl, trivial⟩
              · have H := of_if_t rfl H
                refine ow_batch [.p, .p, .p, .p, .p, .p] rfl ?_
                obtain rfl := of_some H
                exact OW.sub key ⟨rfl, rfl, rfl, rfl, trivial⟩
          · generalize (u77 || (decide ((e26.Stats_.Cells_.length : Int) > 0))) = t85 at key ⊢
            cases t85
            · refine ow_batch [.fa 118 5 7 fa118_5] rfl ?_
              refine ow_r rfl (dstOk_lt rfl) (ry_box1 (off := 7) rfl rfl ty3 (boxIn (i := 2) rfl) rfl) ?_
              refine ow_batch [.p] rfl ?_
              refine ow_batch [.p] rfl ?_
              exact OW.sub key ⟨rfl, rfl, rfl, rfl, rfl, trivial⟩
            · refine ow_batch [.p, .p, .p, .p] rfl ?_
              exact OW.sub key ⟨rfl, rfl, rfl, rfl, rfl, trivial⟩
        · generalize u77 = t83 at key ⊢
          cases t83
          · refine ow_batch [.fa 118 4 5 fa118_4, .fa 62 1 1 fa62_1] rfl ?_
            refine ow_r rfl (dstOk_lt rfl) (ry_box1 (off := 6) rfl rfl ty60 (boxIn (i := 2) rfl) rfl) ?_
            refine ow_batch [.lenS 60 59 sl60, .p] rfl ?_
            refine ow_batch [.p] rfl ?_
            exact OW.sub key ⟨rfl, rfl, rfl, rfl, rfl, trivial⟩
          · refine ow_batch [.p, .p, .p, .p, .p, .p] rfl ?_
            exact OW.sub key ⟨rfl, rfl, rfl, rfl, rfl, trivial⟩
      · clear H
        have H := hu81
        clear hu81
        generalize u72 = t80 at H key ⊢
        cases t80
        · have H := of_if_f rfl H
          refine ow_r rfl (dstOk_lt rfl) (ry_box (off := 0) (ds := [.slice a14 p0.Attrs_.length c15, .slice a16 p0.Classes_.length c17]) rfl rfl ty35 (boxIn (i := 0) rfl) rfl rfl) ?_
          refine ow_batch [.fa 118 4 5 fa118_4] rfl ?_
          refine ow_r rfl (dstOk_lt rfl) (ry_box (off := 5) (ds := [.slice a58 e26.Stats_.Totals_.length c59, .slice a60 e26.Stats_.Cells_.length c61]) rfl rfl ty62 (boxIn (i := 2) rfl) rfl rfl) ?_
          obtain ⟨y78, h79, H⟩ := of_bind H
          refine ow_q rfl rfl (dstOk_lt rfl) (qy_call rfl fn157 rfl (fun w1 hw1 => spec_StatsOk_ok w1 (cs0 := [.slice a14 p0.Attrs_.length c15, .slice a16 p0.Classes_.length c17]) (cs1 := [.slice a58 e26.Stats_.Totals_.length c59, .slice a60 e26.Stats_.Cells_.length c61]) h79 (rdm_Timpl_Schema (x := p0) (c0 := [.slice a14 p0.Attrs_.length c15]) (c1 := [.slice a16 p0.Classes_.length c17]) (rds_bor g12 w1 hw1) (rds_bor g13 w1 hw1)) (rdm_Timpl_Stats (x := e26.Stats_) (c0 := [.slice a58 e26.Stats_.Totals_.length c59]) (c1 := [.slice a60 e26.Stats_.Cells_.length c61]) (rds_bor g56 w1 hw1) (rds_bor g57 w1 hw1)))) (fun _ _ => trivial) ?_
          refine ow_batch [.p] rfl ?_
          refine ow_batch [.p] rfl ?_
          obtain rfl := of_some H
          exact OW.sub key ⟨rfl, rfl, rfl, rfl, rfl, trivial⟩
        · have H := of_if_t rfl H
          refine ow_batch [.p, .p, .p, .p, .p, .p] rfl ?_
          obtain rfl := of_some H
          exact OW.sub key ⟨rfl, rfl, rfl, rfl, rfl, trivial⟩
    · clear H
      have H := hu76
      clear hu76
      generalize u67 = t75 at H key ⊢
      cases t75
      · have H := of_if_f rfl H
        refine ow_batch [.fa 118 3 4 fa118_3] rfl ?_
        refine ow_r rfl (dstOk_lt rfl) (ry_box1 (off := 4) rfl rfl ty3 (boxIn (i := 2) rfl) rfl) ?_
        refine ow_batch [.fa 118 2 3 fa118_2] rfl ?_
        refine ow_r rfl (dstOk_lt rfl) (ry_box1 (off := 3) rfl rfl ty59 (boxIn (i := 2) rfl) rfl) ?_
        refine ow_batch [.lenS 59 3 sl59, .p] rfl ?_
        obtain ⟨y73, h74, H⟩ := of_bind H
        refine ow_q rfl rfl (dstOk_lt rfl) (qy_call rfl fn88 rfl (fun w1 hw1 => spec_l1In_ok w1  h74)) (fun _ _ => trivial) ?_
        refine ow_batch [.p] rfl ?_
        refine ow_batch [.p] rfl ?_
        obtain rfl := of_some H
        exact OW.sub key ⟨rfl, rfl, rfl, rfl, rfl, trivial⟩
      · have H := of_if_t rfl H
        refine ow_batch [.p, .p, .p, .p, .p, .p, .p, .p, .p] rfl ?_
        obtain rfl := of_some H
        exact OW.sub key ⟨rfl, rfl, rfl, rfl, rfl, trivial⟩
  · clear H
    have H := hu71
    clear hu71
    generalize (!y65) = t70 at H key ⊢
    cases t70
    · have H := of_if_f rfl H
      refine ow_batch [.fa 118 2 3 fa118_2] rfl ?_
      refine ow_r rfl (dstOk_lt rfl) (ry_box1 (off := 3) rfl rfl ty59 (boxIn (i := 2) rfl) rfl) ?_
      refine ow_batch [.lenS 59 3 sl59] rfl ?_
      refine ow_r rfl (dstOk_lt rfl) (ry_box (off := 0) (ds := [.slice a14 p0.Attrs_.length c15, .slice a16 p0.Classes_.length c17]) rfl rfl ty35 (boxIn (i := 0) rfl) rfl rfl) ?_
      refine ow_batch [.fa 118 1 1 fa118_1] rfl ?_
      refine ow_r rfl (dstOk_lt rfl) (ry_box (off := 1) (ds := [.int .i64 e26.Fork_.Attr_, .int .i64 e26.Fork_.At_]) rfl rfl ty116 (boxIn (i := 2) rfl) rfl rfl) ?_
      obtain ⟨y68, h69, H⟩ := of_bind H
      refine ow_q rfl rfl (dstOk_lt rfl) (qy_call rfl fn196 rfl (fun w1 hw1 => spec_Branches_ok w1 (p1 := e26.Fork_) (cs0 := [.slice a14 p0.Attrs_.length c15, .slice a16 p0.Classes_.length c17]) h69 (rdm_Timpl_Schema (x := p0) (c0 := [.slice a14 p0.Attrs_.length c15]) (c1 := [.slice a16 p0.Classes_.length c17]) (rds_bor g12 w1 hw1) (rds_bor g13 w1 hw1)))) (fun _ _ => trivial) ?_
      refine ow_batch [.p] rfl ?_
      refine ow_batch [.p] rfl ?_
      obtain rfl := of_some H
      exact OW.sub key ⟨rfl, rfl, rfl, rfl, rfl, trivial⟩
    · have H := of_if_t rfl H
      refine ow_batch [.p, .p, .p, .p, .p, .p, .p, .p, .p] rfl ?_
      obtain rfl := of_some H
      exact OW.sub key ⟨rfl, rfl, rfl, rfl, rfl, trivial⟩
set_option maxHeartbeats 4000000 in
set_option maxRecDepth 100000 in
theorem spec_l19Among_ok (w : World) {p0 : List Int} {p1 : Int} {a_0 : Option Addr} {n_0 c_0 : Nat} {r : Bool} (H : spec_l19Among p0 p1 = some r)  (g0 : (eList (eVal (Value.int .i64) (fun _ => rfl)) 3).rd w [] p0 [.slice a_0 n_0 c_0]) :
    Calls Tryz.prog 125 #[.slice a_0 n_0 c_0, .int .i64 p1] w (fun en w' => en = .returned (.bool r) ∧ Ext [] w w') := by
  obtain rfl := rd_n g0
  unfold spec_l19Among at H
  refine f_enter (vs := [.slice a_0 p0.length c_0, .int .i64 p1]) Tryz.func125 rfl Tryz.ntmps125 rfl (St.init w []) ?_
  refine c_seq ?_
  refine c_reg ?_
  refine ow_batch [.p] rfl ?_
  refine ow_nil ?_
  refine x_qs ?_
  refine c_seq ?_
  refine c_seq ?_
  refine c_reg ?_
  refine ow_batch [.p] rfl ?_
  refine ow_nil ?_
  refine x_qs ?_
  refine c_block ?_
  refine CW.at (loopI1 (fun (i13 : Int) => St w [] []) (fun (i13 : Int) => [(0, .slice a_0 p0.length c_0), (1, .int .i64 p1), (5, .int .i64 i13)]) (fun kk => fun (i13 : Int) => spec_l19Among_L1 p0 p1 kk i13 = some r) (fun _ H => ?_) (fun k1 ihk1 i13 H => ?_) Fuel (0) (H)) (fun _ h => St.sel [] rfl rfl h) ⟨rfl, rfl, rfl,  trivial⟩
  · unfold spec_l19Among_L1 at H
    exact absurd H (by simp)
  · unfold spec_l19Among_L1 at H
    refine c_seq ?_
    refine c_seq ?_
    refine c_reg ?_
    refine ow_batch [.p, .p, .lenS 59 3 sl59, .p] rfl ?_
    refine ow_nil ?_
    refine x_qs ?_
    refine c_if rfl (fun hb => ?_) (fun hb => ?_)
    · have H := of_if_t hb H
      refine c_skip ?_
      refine x_qs ?_
      refine c_seq ?_
      refine c_block ?_
      refine c_seq ?_
      refine c_reg ?_
      refine ow_batch [.p, .p] rfl ?_
      obtain ⟨e18, h19, H⟩ := of_bind H
      refine ow_ixE (e := eVal (Value.int .i64) (fun _ => rfl)) (xs := p0) (j := i13) rfl rfl rfl rfl rfl sl59 ty3 rfl (fun w1 hw1 => rds_bor g0 w1 hw1) h19 (by rw [Nat.mul_one]) ?_
      refine ow_r rfl (dstOk_lt rfl) (ry_load1 rfl rfl ty3 (at_elV (fun w1 hw1 => rds_bor g0 w1 hw1) h19)) ?_
      refine ow_batch [.p, .p] rfl ?_
      refine ow_nil ?_
      refine x_qs ?_
      refine c_if rfl (fun hb => ?_) (fun hb => ?_)
      · have H := of_if_t hb H
        refine c_seq ?_
        refine c_reg ?_
        refine ow_batch [.p] rfl ?_
        refine ow_nil ?_
        refine x_qs ?_
        refine c_ret ?_
        refine x_qb_ret ?_
        refine x_qs_ret ?_
        refine x_ql_ret ?_
        refine x_qb_ret ?_
        refine x_qs_ret ?_
        exact x_retR (rs := [.tmp 4]) (vs := [.bool true]) rfl ⟨rfl, trivial⟩ (fun w' hw' => by
            obtain rfl := of_some H
            exact ⟨rfl, hw'.ext⟩)
      · have H := of_if_f hb H
        refine c_skip ?_
        refine x_qb ?_
        refine x_qs ?_
        refine c_reg ?_
        refine ow_batch [.p, .p, .p] rfl ?_
        refine ow_nil ?_
        exact x_ql (RW.at (ihk1 (IntKind.i64.wrap (i13 + 1)) (H)) (fun _ h => St.sel [] rfl rfl h) ⟨rfl, rfl, rfl, trivial⟩)
    · have H := of_if_f hb H
      refine c_exit ?_
      refine x_qs_exit ?_
      refine x_ql_exit ?_
      refine x_qb_here ?_
      refine x_qs ?_
      refine c_seq ?_
      refine c_reg ?_
      refine ow_batch [.p] rfl ?_
      refine ow_nil ?_
      refine x_qs ?_
      refine c_ret ?_
      exact x_retR (rs := [.tmp 4]) (vs := [.bool false]) rfl ⟨rfl, trivial⟩ (fun w' hw' => by
          obtain rfl := of_some H
          exact ⟨rfl, hw'.ext⟩)
set_option maxHeartbeats 4000000 in
set_option maxRecDepth 100000 in
theorem spec_TreeOk_ok (w : World) {p0 : Timpl_Schema} {p1 : Timpl_Tree} {cs0 : List Value} {cs1 : List Value} {r : Bool} (H : spec_TreeOk p0 p1 = some r)  (g0 : (eTimpl_Schema).rd w [] p0 cs0) (g1 : (eTimpl_Tree).rd w [] p1 cs1) :
    Calls Tryz.prog 52 #[.agg cs0.toArray, .agg cs1.toArray] w (fun en w' => en = .returned (.bool r) ∧ Ext [] w w') := by
  obtain ⟨c10, c11, rfl, g12, g13⟩ := rdo_Timpl_Schema g0
  obtain ⟨a14, c15, rfl⟩ := rd_sl1 g12
  obtain ⟨a16, c17, rfl⟩ := rd_sl1 g13
  obtain ⟨c18, c19, rfl, g20, g21⟩ := rdo_Timpl_Tree g1
  obtain ⟨a22, c23, rfl⟩ := rd_sl1 g20
  obtain rfl : c19 = [.int .i64 p1.Seen_] := g21
  unfold spec_TreeOk at H
  refine f_enter (vs := [.agg #[.slice a14 p0.Attrs_.length c15, .slice a16 p0.Classes_.length c17], .agg #[.slice a22 p1.Nodes_.length c23, .int .i64 p1.Seen_]]) Tryz.func52 rfl Tryz.ntmps52 rfl (St.init w []) ?_
  refine c_seq ?_
  refine c_reg ?_
  refine ow_box (cs := [.slice a14 p0.Attrs_.length c15, .slice a16 p0.Classes_.length c17]) rfl rfl rfl rfl rfl rfl (fun _ => kp) (fun b24 => ?_)
  refine ow_box (cs := [.slice a22 p1.Nodes_.length c23, .int .i64 p1.Seen_]) rfl rfl rfl rfl rfl rfl (fun _ => kp) (fun b25 => ?_)
  refine ow_batch [.p] rfl ?_
  refine ow_nil ?_
  refine x_qs ?_
  refine c_seq ?_
  refine c_seq ?_
  refine c_reg ?_
  refine ow_r rfl (dstOk_lt rfl) (ry_box (off := 0) (ds := [.slice a14 p0.Attrs_.length c15, .slice a16 p0.Classes_.length c17]) rfl rfl ty35 (boxIn (i := 0) rfl) rfl rfl) ?_
  obtain ⟨y26, h27, H⟩ := of_bind H
  refine ow_q rfl rfl (dstOk_lt rfl) (qy_call rfl fn122 rfl (fun w1 hw1 => spec_SchemaOk_ok w1 (cs0 := [.slice a14 p0.Attrs_.length c15, .slice a16 p0.Classes_.length c17]) h27 (rdm_Timpl_Schema (x := p0) (c0 := [.slice a14 p0.Attrs_.length c15]) (c1 := [.slice a16 p0.Classes_.length c17]) (rds_bor g12 w1 hw1) (rds_bor g13 w1 hw1)))) (fun _ _ => trivial) ?_
  refine ow_batch [.p, .p] rfl ?_
  obtain ⟨u28, hu32, H⟩ := of_bind H
  refine ow_cut [(17, .bool u28), (2, .pointer (some ⟨b24, 0, none⟩)), (3, .pointer (some ⟨b25, 0, none⟩))] 6 ?_ (fun key => OW.sub (R := [(2, .pointer (some ⟨b24, 0, none⟩)), (3, .pointer (some ⟨b25, 0, none⟩)), (11, .bool (!y26))]) ?_ ⟨rfl, rfl, rfl, trivial⟩)
  · refine ow_batch [.p] rfl ?_
    obtain ⟨u33, hu37, H⟩ := of_bind H
    refine ow_cut [(23, .bool u33), (2, .pointer (some ⟨b24, 0, none⟩)), (3, .pointer (some ⟨b25, 0, none⟩))] 5 ?_ (fun key => OW.sub (R := [(2, .pointer (some ⟨b24, 0, none⟩)), (3, .pointer (some ⟨b25, 0, none⟩)), (18, .bool u28)]) ?_ ⟨rfl, rfl, rfl, trivial⟩)
    · refine ow_nil ?_
      refine x_qs ?_
      refine c_if rfl (fun hb => ?_) (fun hb => ?_)
      · have H := of_if_t hb H
        refine c_seq ?_
        refine c_reg ?_
        refine ow_batch [.p] rfl ?_
        refine ow_nil ?_
        refine x_qs ?_
        refine c_ret ?_
        refine x_qs_ret ?_
        exact x_retR (rs := [.tmp 4]) (vs := [.bool false]) rfl ⟨rfl, trivial⟩ (fun w' hw' => by
            obtain rfl := of_some H
            exact ⟨rfl, hw'.ext⟩)
      · have H := of_if_f hb H
        refine c_skip ?_
        refine x_qs ?_
        refine c_seq ?_
        refine c_seq ?_
        refine c_reg ?_
        refine ow_batch [.p] rfl ?_
        refine ow_nil ?_
        refine x_qs ?_
        refine c_block ?_
        refine CW.at (loopI1 (fun (i152 : Int) => St w [] [Res.box b24 35 [.slice a14 p0.Attrs_.length c15, .slice a16 p0.Classes_.length c17], Res.box b25 39 [.slice a22 p1.Nodes_.length c23, .int .i64 p1.Seen_]]) (fun (i152 : Int) => [(2, .pointer (some ⟨b24, 0, none⟩)), (3, .pointer (some ⟨b25, 0, none⟩)), (5, .int .i64 i152)]) (fun kk => fun (i152 : Int) => spec_TreeOk_L1 p1 p0 kk i152 = some r) (fun _ H => ?_) (fun k1 ihk1 i152 H => ?_) Fuel (0) (H)) (fun _ h => St.sel [0, 1] rfl rfl h) ⟨rfl, rfl, rfl,  trivial⟩
        · unfold spec_TreeOk_L1 at H
          exact absurd H (by simp)
        · unfold spec_TreeOk_L1 at H
          refine c_seq ?_
          refine c_seq ?_
          refine c_reg ?_
          refine ow_batch [.p, .fa 39 0 0 fa39_0] rfl ?_
          refine ow_r rfl (dstOk_lt rfl) (ry_box1 (off := 0) rfl rfl ty37 (boxIn (i := 1) rfl) rfl) ?_
          refine ow_batch [.lenS 37 118 sl37, .p] rfl ?_
          refine ow_nil ?_
          refine x_qs ?_
          refine c_if rfl (fun hb => ?_) (fun hb => ?_)
          · have H := of_if_t hb H
            refine c_skip ?_
            refine x_qs ?_
            refine c_seq ?_
            refine c_block ?_
            refine c_seq ?_
            refine c_reg ?_
            refine ow_batch [.fa 39 0 0 fa39_0] rfl ?_
            refine ow_r rfl (dstOk_lt rfl) (ry_box1 (off := 0) rfl rfl ty37 (boxIn (i := 1) rfl) rfl) ?_
            refine ow_batch [.p] rfl ?_
            obtain ⟨e267, h268, H⟩ := of_bind H
            refine ow_ixB rfl rfl rfl rfl rfl sl37 ty118 rfl g20 h268 (fun q271 c272 hd269 hA270 => ?_)
            obtain ⟨c273, c274, c275, c276, c277, c278, c279, c280, c281, c282, rfl, g283, g284, g285, g286, g287, g288, g289, g290, g291, g292⟩ := rdo_Timpl_Node hd269
            obtain rfl : c273 = [.bool e267.Leaf_] := g283
            obtain rfl : c274 = [.int .i64 e267.Fork_.Attr_, .int .i64 e267.Fork_.At_] := g284
            obtain ⟨a293, c294, rfl⟩ := rd_sl1 g285
            obtain rfl : c276 = [.int .i64 e267.Miss_] := g286
            obtain ⟨c295, c296, rfl, g297, g298⟩ := rdo_Timpl_Stats g287
            obtain ⟨a299, c300, rfl⟩ := rd_sl1 g297
            obtain ⟨a301, c302, rfl⟩ := rd_sl1 g298
            obtain rfl : c278 = [.int .i64 e267.Since_] := g288
            obtain ⟨a303, c304, rfl⟩ := rd_sl1 g289
            obtain rfl : c280 = [.int .i64 e267.Depth_] := g290
            obtain rfl : c281 = [.int .i64 e267.Up_] := g291
            obtain rfl : c282 = [.int .i64 e267.Born_] := g292
            refine ow_r rfl (dstOk_lt rfl) (ry_load (cs := [.bool e267.Leaf_, .int .i64 e267.Fork_.Attr_, .int .i64 e267.Fork_.At_, .slice a293 e267.Kids_.length c294, .int .i64 e267.Miss_, .slice a299 e267.Stats_.Totals_.length c300, .slice a301 e267.Stats_.Cells_.length c302, .int .i64 e267.Since_, .slice a303 e267.Attrs_.length c304, .int .i64 e267.Depth_, .int .i64 e267.Up_, .int .i64 e267.Born_]) rfl rfl ty118 (at_bor bor hA270) rfl) ?_
            refine ow_alloc rfl rfl rfl rfl ty118 (fun _ => kp) (fun b305 => ?_)
            refine ow_storeC (off := 0) [.bool e267.Leaf_, .int .i64 e267.Fork_.Attr_, .int .i64 e267.Fork_.At_, .slice a293 e267.Kids_.length c294, .int .i64 e267.Miss_, .slice a299 e267.Stats_.Totals_.length c300, .slice a301 e267.Stats_.Cells_.length c302, .int .i64 e267.Since_, .slice a303 e267.Attrs_.length c304, .int .i64 e267.Depth_, .int .i64 e267.Up_, .int .i64 e267.Born_] [_, _, _, _, _, _, _, _, _, _, _, _] (i := 2) rfl rfl rfl rfl rfl rfl ty118 rfl rfl (by intro u hu; simp only [List.mem_cons, List.not_mem_nil, or_false] at hu; rcases hu with rfl | rfl | rfl | rfl | rfl | rfl | rfl | rfl | rfl | rfl | rfl | rfl <;> rfl) rfl rfl rfl kp ?_
            refine ow_nil ?_
            refine x_qs ?_
            refine c_seq ?_
            refine c_seq ?_
            refine c_reg ?_
            refine ow_batch [.fa 118 7 9 fa118_7] rfl ?_
            refine ow_r rfl (dstOk_lt rfl) (ry_box1 (off := 9) rfl rfl ty3 (boxIn (i := 2) rfl) rfl) ?_
            obtain ⟨y306, h307, H⟩ := of_bind H
            refine ow_q rfl rfl (dstOk_lt rfl) (qy_call rfl fn88 rfl (fun w1 hw1 => spec_l1In_ok w1  h307)) (fun _ _ => trivial) ?_
            refine ow_batch [.p, .p] rfl ?_
            obtain ⟨u308, hu312, H⟩ := of_bind H
            refine ow_cut [(47, .bool u308), (2, .pointer (some ⟨b24, 0, none⟩)), (3, .pointer (some ⟨b25, 0, none⟩)), (5, .int .i64 i152), (6, .pointer (some ⟨b305, 0, none⟩))] 7 ?_ (fun key => OW.sub (R := [(2, .pointer (some ⟨b24, 0, none⟩)), (3, .pointer (some ⟨b25, 0, none⟩)), (5, .int .i64 i152), (6, .pointer (some ⟨b305, 0, none⟩)), (40, .bool (!y306))]) ?_ ⟨rfl, rfl, rfl, rfl, rfl, trivial⟩)
            · refine ow_nil ?_
              refine x_qs ?_
              refine c_if rfl (fun hb => ?_) (fun hb => ?_)
              · have H := of_if_t hb H
                refine c_seq ?_
                refine c_reg ?_
                refine ow_batch [.p] rfl ?_
                refine ow_nil ?_
                refine x_qs ?_
                refine c_ret ?_
                refine x_qs_ret ?_
                refine x_qb_ret ?_
                refine x_qs_ret ?_
                refine x_ql_ret ?_
                refine x_qb_ret ?_
                refine x_qs_ret ?_
                exact x_retR (rs := [.tmp 4]) (vs := [.bool false]) rfl ⟨rfl, trivial⟩ (fun w' hw' => by
                    obtain rfl := of_some H
                    exact ⟨rfl, hw'.ext⟩)
              · have H := of_if_f hb H
                refine c_skip ?_
                refine x_qs ?_
                refine c_seq ?_
                refine c_seq ?_
                refine c_reg ?_
                refine ow_batch [.fa 118 0 0 fa118_0] rfl ?_
                refine ow_r rfl (dstOk_lt rfl) (ry_box1 (off := 0) rfl rfl ty4 (boxIn (i := 2) rfl) rfl) ?_
                refine ow_batch [.p] rfl ?_
                obtain ⟨u313, hu317, H⟩ := of_bind H
                refine ow_cut [(55, .bool u313), (2, .pointer (some ⟨b24, 0, none⟩)), (3, .pointer (some ⟨b25, 0, none⟩)), (5, .int .i64 i152), (6, .pointer (some ⟨b305, 0, none⟩))] 5 ?_ (fun key => OW.sub (R := [(2, .pointer (some ⟨b24, 0, none⟩)), (3, .pointer (some ⟨b25, 0, none⟩)), (5, .int .i64 i152), (6, .pointer (some ⟨b305, 0, none⟩)), (50, .bool e267.Leaf_)]) ?_ ⟨rfl, rfl, rfl, rfl, rfl, trivial⟩)
                · refine ow_batch [.p] rfl ?_
                  obtain ⟨u318, hu325, H⟩ := of_bind H
                  refine ow_cut [(67, .bool u318), (2, .pointer (some ⟨b24, 0, none⟩)), (3, .pointer (some ⟨b25, 0, none⟩)), (5, .int .i64 i152), (6, .pointer (some ⟨b305, 0, none⟩))] 11 ?_ (fun key => OW.sub (R := [(2, .pointer (some ⟨b24, 0, none⟩)), (3, .pointer (some ⟨b25, 0, none⟩)), (5, .int .i64 i152), (6, .pointer (some ⟨b305, 0, none⟩)), (56, .bool u313)]) ?_ ⟨rfl, rfl, rfl, rfl, rfl, trivial⟩)
                  · refine ow_nil ?_
                    refine x_qs ?_
                    refine c_if rfl (fun hb => ?_) (fun hb => ?_)
                    · have H := of_if_t hb H
                      refine c_seq ?_
                      refine c_reg ?_
                      refine ow_batch [.p] rfl ?_
                      refine ow_nil ?_
                      refine x_qs ?_
                      refine c_ret ?_
                      refine x_qs_ret ?_
                      refine x_qb_ret ?_
                      refine x_qs_ret ?_
                      refine x_ql_ret ?_
                      refine x_qb_ret ?_
                      refine x_qs_ret ?_
                      exact x_retR (rs := [.tmp 4]) (vs := [.bool false]) rfl ⟨rfl, trivial⟩ (fun w' hw' => by
                          obtain rfl := of_some H
                          exact ⟨rfl, hw'.ext⟩)
                    · have H := of_if_f hb H
                      refine c_skip ?_
                      refine x_qs ?_
                      refine c_seq ?_
                      refine c_seq ?_
                      refine c_reg ?_
                      refine ow_batch [.p, .p] rfl ?_
                      refine ow_nil ?_
                      refine x_qs ?_
                      refine c_if rfl (fun hb => ?_) (fun hb => ?_)
                      · have H := of_if_t hb H
                        refine c_seq ?_
                        refine c_seq ?_
                        refine c_reg ?_
                        refine ow_batch [.fa 118 8 10 fa118_8] rfl ?_
                        refine ow_r rfl (dstOk_lt rfl) (ry_box1 (off := 10) rfl rfl ty3 (boxIn (i := 2) rfl) rfl) ?_
                        refine ow_batch [.p, .p] rfl ?_
                        refine ow_cut [(77, .bool ((e267.Up_ != (-1)) || (e267.Depth_ != 0))), (2, .pointer (some ⟨b24, 0, none⟩)), (3, .pointer (some ⟨b25, 0, none⟩)), (5, .int .i64 i152), (6, .pointer (some ⟨b305, 0, none⟩))] 4 ?_ (fun key => OW.sub (R := [(2, .pointer (some ⟨b24, 0, none⟩)), (3, .pointer (some ⟨b25, 0, none⟩)), (5, .int .i64 i152), (6, .pointer (some ⟨b305, 0, none⟩)), (73, .bool (e267.Up_ != (-1)))]) ?_ ⟨rfl, rfl, rfl, rfl, rfl, trivial⟩)
                        · refine ow_batch [.p] rfl ?_
                          refine ow_cut [(82, .bool (((e267.Up_ != (-1)) || (e267.Depth_ != 0)) || (e267.Born_ != 0))), (2, .pointer (some ⟨b24, 0, none⟩)), (3, .pointer (some ⟨b25, 0, none⟩)), (5, .int .i64 i152)] 4 ?_ (fun key => OW.sub (R := [(2, .pointer (some ⟨b24, 0, none⟩)), (3, .pointer (some ⟨b25, 0, none⟩)), (5, .int .i64 i152), (6, .pointer (some ⟨b305, 0, none⟩)), (78, .bool ((e267.Up_ != (-1)) || (e267.Depth_ != 0)))]) ?_ ⟨rfl, rfl, rfl, rfl, rfl, trivial⟩)
                          · refine ow_nil ?_
                            refine x_qs ?_
                            refine c_if rfl (fun hb => ?_) (fun hb => ?_)
                            · have H := of_if_t hb H
                              refine c_seq ?_
                              refine c_reg ?_
                              refine ow_batch [.p] rfl ?_
                              refine ow_nil ?_
                              refine x_qs ?_
                              refine c_ret ?_
                              refine x_qs_ret ?_
                              refine x_qs_ret ?_
                              refine x_qb_ret ?_
                              refine x_qs_ret ?_
                              refine x_ql_ret ?_
                              refine x_qb_ret ?_
                              refine x_qs_ret ?_
                              exact x_retR (rs := [.tmp 4]) (vs := [.bool false]) rfl ⟨rfl, trivial⟩ (fun w' hw' => by
                                  obtain rfl := of_some H
                                  exact ⟨rfl, hw'.ext⟩)
                            · have H := of_if_f hb H
                              refine c_skip ?_
                              refine x_qs ?_
                              refine c_exit ?_
                              refine x_qs_exit ?_
                              refine x_qb_here ?_
                              refine x_qs ?_
                              refine c_reg ?_
                              refine ow_batch [.p, .p, .p] rfl ?_
                              refine ow_nil ?_
                              exact x_ql (RW.at (ihk1 (IntKind.i64.wrap (i152 + 1)) (H)) (fun _ h => St.sel [0, 1] rfl rfl h) ⟨rfl, rfl, rfl, trivial⟩)
                          · generalize ((e267.Up_ != (-1)) || (e267.Depth_ != 0)) = t329 at key ⊢
                            cases t329
                            · refine ow_batch [.fa 118 9 11 fa118_9] rfl ?_
                              refine ow_r rfl (dstOk_lt rfl) (ry_box1 (off := 11) rfl rfl ty3 (boxIn (i := 2) rfl) rfl) ?_
                              refine ow_batch [.p] rfl ?_
                              refine ow_batch [.p] rfl ?_
                              exact OW.sub key ⟨rfl, rfl, rfl, rfl, trivial⟩
                            · refine ow_batch [.p, .p, .p, .p] rfl ?_
                              exact OW.sub key ⟨rfl, rfl, rfl, rfl, trivial⟩
                        · generalize (e267.Up_ != (-1)) = t327 at key ⊢
                          cases t327
                          · refine ow_batch [.fa 118 7 9 fa118_7] rfl ?_
                            refine ow_r rfl (dstOk_lt rfl) (ry_box1 (off := 9) rfl rfl ty3 (boxIn (i := 2) rfl) rfl) ?_
                            refine ow_batch [.p] rfl ?_
                            refine ow_batch [.p] rfl ?_
                            exact OW.sub key ⟨rfl, rfl, rfl, rfl, rfl, trivial⟩
                          · refine ow_batch [.p, .p, .p, .p] rfl ?_
                            exact OW.sub key ⟨rfl, rfl, rfl, rfl, rfl, trivial⟩
                      · have H := of_if_f hb H
                        refine c_skip ?_
                        refine x_qs ?_
                        refine c_seq ?_
                        refine c_seq ?_
                        refine c_reg ?_
                        refine ow_batch [.fa 118 8 10 fa118_8] rfl ?_
                        refine ow_r rfl (dstOk_lt rfl) (ry_box1 (off := 10) rfl rfl ty3 (boxIn (i := 2) rfl) rfl) ?_
                        refine ow_batch [.p, .p] rfl ?_
                        obtain ⟨y330, h331, H⟩ := of_bind H
                        refine ow_q rfl rfl (dstOk_lt rfl) (qy_call rfl fn88 rfl (fun w1 hw1 => spec_l1In_ok w1  h331)) (fun _ _ => trivial) ?_
                        refine ow_batch [.p] rfl ?_
                        refine ow_nil ?_
                        refine x_qs ?_
                        refine c_if rfl (fun hb => ?_) (fun hb => ?_)
                        · have H := of_if_t hb H
                          refine c_seq ?_
                          refine c_reg ?_
                          refine ow_batch [.p] rfl ?_
                          refine ow_nil ?_
                          refine x_qs ?_
                          refine c_ret ?_
                          refine x_qs_ret ?_
                          refine x_qb_ret ?_
                          refine x_qs_ret ?_
                          refine x_ql_ret ?_
                          refine x_qb_ret ?_
                          refine x_qs_ret ?_
                          exact x_retR (rs := [.tmp 4]) (vs := [.bool false]) rfl ⟨rfl, trivial⟩ (fun w' hw' => by
                              obtain rfl := of_some H
                              exact ⟨rfl, hw'.ext⟩)
                        · have H := of_if_f hb H
                          refine c_skip ?_
                          refine x_qs ?_
                          refine c_seq ?_
                          refine c_reg ?_
                          refine ow_batch [.fa 39 0 0 fa39_0] rfl ?_
                          refine ow_r rfl (dstOk_lt rfl) (ry_box1 (off := 0) rfl rfl ty37 (boxIn (i := 1) rfl) rfl) ?_
                          refine ow_batch [.fa 118 8 10 fa118_8] rfl ?_
                          refine ow_r rfl (dstOk_lt rfl) (ry_box1 (off := 10) rfl rfl ty3 (boxIn (i := 2) rfl) rfl) ?_
                          obtain ⟨e332, h333, H⟩ := of_bind H
                          refine ow_ixB rfl rfl rfl rfl rfl sl37 ty118 rfl g20 h333 (fun q336 c337 hd334 hA335 => ?_)
                          obtain ⟨c338, c339, c340, c341, c342, c343, c344, c345, c346, c347, rfl, g348, g349, g350, g351, g352, g353, g354, g355, g356, g357⟩ := rdo_Timpl_Node hd334
                          obtain rfl : c338 = [.bool e332.Leaf_] := g348
                          obtain rfl : c339 = [.int .i64 e332.Fork_.Attr_, .int .i64 e332.Fork_.At_] := g349
                          obtain ⟨a358, c359, rfl⟩ := rd_sl1 g350
                          obtain rfl : c341 = [.int .i64 e332.Miss_] := g351
                          obtain ⟨c360, c361, rfl, g362, g363⟩ := rdo_Timpl_Stats g352
                          obtain ⟨a364, c365, rfl⟩ := rd_sl1 g362
                          obtain ⟨a366, c367, rfl⟩ := rd_sl1 g363
                          obtain rfl : c343 = [.int .i64 e332.Since_] := g353
                          obtain ⟨a368, c369, rfl⟩ := rd_sl1 g354
                          obtain rfl : c345 = [.int .i64 e332.Depth_] := g355
                          obtain rfl : c346 = [.int .i64 e332.Up_] := g356
                          obtain rfl : c347 = [.int .i64 e332.Born_] := g357
                          refine ow_r rfl (dstOk_lt rfl) (ry_load (cs := [.bool e332.Leaf_, .int .i64 e332.Fork_.Attr_, .int .i64 e332.Fork_.At_, .slice a358 e332.Kids_.length c359, .int .i64 e332.Miss_, .slice a364 e332.Stats_.Totals_.length c365, .slice a366 e332.Stats_.Cells_.length c367, .int .i64 e332.Since_, .slice a368 e332.Attrs_.length c369, .int .i64 e332.Depth_, .int .i64 e332.Up_, .int .i64 e332.Born_]) rfl rfl ty118 (at_bor bor hA335) rfl) ?_
                          refine ow_alloc rfl rfl rfl rfl ty118 (fun _ => kp) (fun b370 => ?_)
                          refine ow_storeC (off := 0) [.bool e332.Leaf_, .int .i64 e332.Fork_.Attr_, .int .i64 e332.Fork_.At_, .slice a358 e332.Kids_.length c359, .int .i64 e332.Miss_, .slice a364 e332.Stats_.Totals_.length c365, .slice a366 e332.Stats_.Cells_.length c367, .int .i64 e332.Since_, .slice a368 e332.Attrs_.length c369, .int .i64 e332.Depth_, .int .i64 e332.Up_, .int .i64 e332.Born_] [_, _, _, _, _, _, _, _, _, _, _, _] (i := 3) rfl rfl rfl rfl rfl rfl ty118 rfl rfl (by intro u hu; simp only [List.mem_cons, List.not_mem_nil, or_false] at hu; rcases hu with rfl | rfl | rfl | rfl | rfl | rfl | rfl | rfl | rfl | rfl | rfl | rfl <;> rfl) rfl rfl rfl kp ?_
                          refine ow_nil ?_
                          refine x_qs ?_
                          refine c_seq ?_
                          refine c_reg ?_
                          refine ow_batch [.fa 118 0 0 fa118_0] rfl ?_
                          refine ow_r rfl (dstOk_lt rfl) (ry_box1 (off := 0) rfl rfl ty4 (boxIn (i := 3) rfl) rfl) ?_
                          refine ow_batch [.p] rfl ?_
                          obtain ⟨u371, hu375, H⟩ := of_bind H
                          refine ow_cut [(103, .bool u371), (2, .pointer (some ⟨b24, 0, none⟩)), (3, .pointer (some ⟨b25, 0, none⟩)), (5, .int .i64 i152), (6, .pointer (some ⟨b305, 0, none⟩)), (7, .pointer (some ⟨b370, 0, none⟩))] 6 ?_ (fun key => OW.sub (R := [(2, .pointer (some ⟨b24, 0, none⟩)), (3, .pointer (some ⟨b25, 0, none⟩)), (5, .int .i64 i152), (6, .pointer (some ⟨b305, 0, none⟩)), (7, .pointer (some ⟨b370, 0, none⟩)), (97, .bool e332.Leaf_)]) ?_ ⟨rfl, rfl, rfl, rfl, rfl, rfl, trivial⟩)
                          · refine ow_batch [.p] rfl ?_
                            refine ow_cut [(111, .bool (u371 || ((IntKind.i64.wrap (e332.Depth_ + 1)) != e267.Depth_))), (2, .pointer (some ⟨b24, 0, none⟩)), (3, .pointer (some ⟨b25, 0, none⟩)), (5, .int .i64 i152), (6, .pointer (some ⟨b305, 0, none⟩)), (7, .pointer (some ⟨b370, 0, none⟩))] 7 ?_ (fun key => OW.sub (R := [(2, .pointer (some ⟨b24, 0, none⟩)), (3, .pointer (some ⟨b25, 0, none⟩)), (5, .int .i64 i152), (6, .pointer (some ⟨b305, 0, none⟩)), (7, .pointer (some ⟨b370, 0, none⟩)), (104, .bool u371)]) ?_ ⟨rfl, rfl, rfl, rfl, rfl, rfl, trivial⟩)
                            · refine ow_batch [.p] rfl ?_
                              refine ow_cut [(118, .bool ((u371 || ((IntKind.i64.wrap (e332.Depth_ + 1)) != e267.Depth_)) || (decide (e332.Born_ > e267.Born_)))), (2, .pointer (some ⟨b24, 0, none⟩)), (3, .pointer (some ⟨b25, 0, none⟩)), (5, .int .i64 i152)] 6 ?_ (fun key => OW.sub (R := [(2, .pointer (some ⟨b24, 0, none⟩)), (3, .pointer (some ⟨b25, 0, none⟩)), (5, .int .i64 i152), (6, .pointer (some ⟨b305, 0, none⟩)), (7, .pointer (some ⟨b370, 0, none⟩)), (112, .bool (u371 || ((IntKind.i64.wrap (e332.Depth_ + 1)) != e267.Depth_)))]) ?_ ⟨rfl, rfl, rfl, rfl, rfl, rfl, trivial⟩)
                              · refine ow_nil ?_
                                refine x_qs ?_
                                refine c_if rfl (fun hb => ?_) (fun hb => ?_)
                                · have H := of_if_t hb H
                                  refine c_seq ?_
                                  refine c_reg ?_
                                  refine ow_batch [.p] rfl ?_
                                  refine ow_nil ?_
                                  refine x_qs ?_
                                  refine c_ret ?_
                                  refine x_qb_ret ?_
                                  refine x_qs_ret ?_
                                  refine x_ql_ret ?_
                                  refine x_qb_ret ?_
                                  refine x_qs_ret ?_
                                  exact x_retR (rs := [.tmp 4]) (vs := [.bool false]) rfl ⟨rfl, trivial⟩ (fun w' hw' => by
                                      obtain rfl := of_some H
                                      exact ⟨rfl, hw'.ext⟩)
                                · have H := of_if_f hb H
                                  refine c_skip ?_
                                  refine x_qb ?_
                                  refine x_qs ?_
                                  refine c_reg ?_
                                  refine ow_batch [.p, .p, .p] rfl ?_
                                  refine ow_nil ?_
                                  exact x_ql (RW.at (ihk1 (IntKind.i64.wrap (i152 + 1)) (H)) (fun _ h => St.sel [0, 1] rfl rfl h) ⟨rfl, rfl, rfl, trivial⟩)
                              · generalize (u371 || ((IntKind.i64.wrap (e332.Depth_ + 1)) != e267.Depth_)) = t379 at key ⊢
                                cases t379
                                · refine ow_batch [.fa 118 9 11 fa118_9] rfl ?_
                                  refine ow_r rfl (dstOk_lt rfl) (ry_box1 (off := 11) rfl rfl ty3 (boxIn (i := 3) rfl) rfl) ?_
                                  refine ow_batch [.fa 118 9 11 fa118_9] rfl ?_
                                  refine ow_r rfl (dstOk_lt rfl) (ry_box1 (off := 11) rfl rfl ty3 (boxIn (i := 2) rfl) rfl) ?_
                                  refine ow_batch [.p] rfl ?_
                                  refine ow_batch [.p] rfl ?_
                                  exact OW.sub key ⟨rfl, rfl, rfl, rfl, trivial⟩
                                · refine ow_batch [.p, .p, .p, .p, .p, .p] rfl ?_
                                  exact OW.sub key ⟨rfl, rfl, rfl, rfl, trivial⟩
                            · generalize u371 = t377 at key ⊢
                              cases t377
                              · refine ow_batch [.fa 118 7 9 fa118_7] rfl ?_
                                refine ow_r rfl (dstOk_lt rfl) (ry_box1 (off := 9) rfl rfl ty3 (boxIn (i := 3) rfl) rfl) ?_
                                refine ow_batch [.p, .fa 118 7 9 fa118_7] rfl ?_
                                refine ow_r rfl (dstOk_lt rfl) (ry_box1 (off := 9) rfl rfl ty3 (boxIn (i := 2) rfl) rfl) ?_
                                refine ow_batch [.p] rfl ?_
                                refine ow_batch [.p] rfl ?_
                                exact OW.sub key ⟨rfl, rfl, rfl, rfl, rfl, rfl, trivial⟩
                              · refine ow_batch [.p, .p, .p, .p, .p, .p, .p] rfl ?_
                                exact OW.sub key ⟨rfl, rfl, rfl, rfl, rfl, rfl, trivial⟩
                          · clear H
                            have H := hu375
                            clear hu375
                            generalize e332.Leaf_ = t374 at H key ⊢
                            cases t374
                            · have H := of_if_f rfl H
                              refine ow_batch [.fa 118 2 3 fa118_2] rfl ?_
                              refine ow_r rfl (dstOk_lt rfl) (ry_box1 (off := 3) rfl rfl ty59 (boxIn (i := 3) rfl) rfl) ?_
                              refine ow_batch [.p] rfl ?_
                              obtain ⟨y372, h373, H⟩ := of_bind H
                              refine ow_q rfl rfl (dstOk_lt rfl) (qy_call rfl fn125 rfl (fun w1 hw1 => spec_l19Among_ok w1  h373 (rds_bor g350 w1 hw1))) (fun _ _ => trivial) ?_
                              refine ow_batch [.p] rfl ?_
                              refine ow_batch [.p] rfl ?_
                              obtain rfl := of_some H
                              exact OW.sub key ⟨rfl, rfl, rfl, rfl, rfl, rfl, trivial⟩
                            · have H := of_if_t rfl H
                              refine ow_batch [.p, .p, .p, .p, .p, .p] rfl ?_
                              obtain rfl := of_some H
                              exact OW.sub key ⟨rfl, rfl, rfl, rfl, rfl, rfl, trivial⟩
                  · clear H
                    have H := hu325
                    clear hu325
                    generalize u313 = t324 at H key ⊢
                    cases t324
                    · have H := of_if_f rfl H
                      refine ow_batch [.fa 118 0 0 fa118_0] rfl ?_
                      refine ow_r rfl (dstOk_lt rfl) (ry_box1 (off := 0) rfl rfl ty4 (boxIn (i := 2) rfl) rfl) ?_
                      refine ow_batch [.p, .p] rfl ?_
                      obtain ⟨u319, hu323, H⟩ := of_bind H
                      refine ow_cut [(66, .bool u319), (2, .pointer (some ⟨b24, 0, none⟩)), (3, .pointer (some ⟨b25, 0, none⟩)), (5, .int .i64 i152), (6, .pointer (some ⟨b305, 0, none⟩)), (56, .bool false)] 6 ?_ (fun key => OW.sub (R := [(2, .pointer (some ⟨b24, 0, none⟩)), (3, .pointer (some ⟨b25, 0, none⟩)), (5, .int .i64 i152), (6, .pointer (some ⟨b305, 0, none⟩)), (56, .bool false), (60, .bool (!e267.Leaf_))]) ?_ ⟨rfl, rfl, rfl, rfl, rfl, rfl, trivial⟩)
                      · refine ow_batch [.p] rfl ?_
                        obtain rfl := of_some H
                        exact OW.sub key ⟨rfl, rfl, rfl, rfl, rfl, trivial⟩
                      · clear H
                        have H := hu323
                        clear hu323
                        generalize (!e267.Leaf_) = t322 at H key ⊢
                        cases t322
                        · have H := of_if_f rfl H
                          refine ow_batch [.p, .p, .p, .p, .p, .p] rfl ?_
                          obtain rfl := of_some H
                          exact OW.sub key ⟨rfl, rfl, rfl, rfl, rfl, rfl, trivial⟩
                        · have H := of_if_t rfl H
                          refine ow_r rfl (dstOk_lt rfl) (ry_box (off := 0) (ds := [.slice a14 p0.Attrs_.length c15, .slice a16 p0.Classes_.length c17]) rfl rfl ty35 (boxIn (i := 0) rfl) rfl rfl) ?_
                          refine ow_r rfl (dstOk_lt rfl) (ry_box (off := 0) (ds := [.slice a22 p1.Nodes_.length c23, .int .i64 p1.Seen_]) rfl rfl ty39 (boxIn (i := 1) rfl) rfl rfl) ?_
                          refine ow_batch [.p] rfl ?_
                          obtain ⟨y320, h321, H⟩ := of_bind H
                          refine ow_q rfl rfl (dstOk_lt rfl) (qy_call rfl fn124 rfl (fun w1 hw1 => spec_l19Split_ok w1 (cs0 := [.slice a14 p0.Attrs_.length c15, .slice a16 p0.Classes_.length c17]) (cs1 := [.slice a22 p1.Nodes_.length c23, .int .i64 p1.Seen_]) h321 (rdm_Timpl_Schema (x := p0) (c0 := [.slice a14 p0.Attrs_.length c15]) (c1 := [.slice a16 p0.Classes_.length c17]) (rds_bor g12 w1 hw1) (rds_bor g13 w1 hw1)) (rdm_Timpl_Tree (x := p1) (c0 := [.slice a22 p1.Nodes_.length c23]) (c1 := [.int .i64 p1.Seen_]) (rds_bor g20 w1 hw1) rfl))) (fun _ _ => trivial) ?_
                          refine ow_batch [.p] rfl ?_
                          refine ow_batch [.p] rfl ?_
                          obtain rfl := of_some H
                          exact OW.sub key ⟨rfl, rfl, rfl, rfl, rfl, rfl, trivial⟩
                    · have H := of_if_t rfl H
                      refine ow_batch [.p, .p, .p, .p, .p, .p, .p, .p, .p, .p, .p] rfl ?_
                      obtain rfl := of_some H
                      exact OW.sub key ⟨rfl, rfl, rfl, rfl, rfl, trivial⟩
                · clear H
                  have H := hu317
                  clear hu317
                  generalize e267.Leaf_ = t316 at H key ⊢
                  cases t316
                  · have H := of_if_f rfl H
                    refine ow_batch [.p, .p, .p, .p, .p] rfl ?_
                    obtain rfl := of_some H
                    exact OW.sub key ⟨rfl, rfl, rfl, rfl, rfl, trivial⟩
                  · have H := of_if_t rfl H
                    refine ow_r rfl (dstOk_lt rfl) (ry_box (off := 0) (ds := [.slice a14 p0.Attrs_.length c15, .slice a16 p0.Classes_.length c17]) rfl rfl ty35 (boxIn (i := 0) rfl) rfl rfl) ?_
                    refine ow_r rfl (dstOk_lt rfl) (ry_box (off := 0) (ds := [.bool true, .int .i64 e267.Fork_.Attr_, .int .i64 e267.Fork_.At_, .slice a293 e267.Kids_.length c294, .int .i64 e267.Miss_, .slice a299 e267.Stats_.Totals_.length c300, .slice a301 e267.Stats_.Cells_.length c302, .int .i64 e267.Since_, .slice a303 e267.Attrs_.length c304, .int .i64 e267.Depth_, .int .i64 e267.Up_, .int .i64 e267.Born_]) rfl rfl ty118 (boxIn (i := 2) rfl) rfl rfl) ?_
                    obtain ⟨y314, h315, H⟩ := of_bind H
                    refine ow_q rfl rfl (dstOk_lt rfl) (qy_call rfl fn123 rfl (fun w1 hw1 => spec_l19Leaf_ok w1 (cs0 := [.slice a14 p0.Attrs_.length c15, .slice a16 p0.Classes_.length c17]) (cs1 := [.bool true, .int .i64 e267.Fork_.Attr_, .int .i64 e267.Fork_.At_, .slice a293 e267.Kids_.length c294, .int .i64 e267.Miss_, .slice a299 e267.Stats_.Totals_.length c300, .slice a301 e267.Stats_.Cells_.length c302, .int .i64 e267.Since_, .slice a303 e267.Attrs_.length c304, .int .i64 e267.Depth_, .int .i64 e267.Up_, .int .i64 e267.Born_]) h315 (rdm_Timpl_Schema (x := p0) (c0 := [.slice a14 p0.Attrs_.length c15]) (c1 := [.slice a16 p0.Classes_.length c17]) (rds_bor g12 w1 hw1) (rds_bor g13 w1 hw1)) (rdm_Timpl_Node (x := ({ e267 with Leaf_ := true })) (c0 := [.bool true]) (c1 := [.int .i64 e267.Fork_.Attr_, .int .i64 e267.Fork_.At_]) (c2 := [.slice a293 e267.Kids_.length c294]) (c3 := [.int .i64 e267.Miss_]) (c4 := [.slice a299 e267.Stats_.Totals_.length c300, .slice a301 e267.Stats_.Cells_.length c302]) (c5 := [.int .i64 e267.Since_]) (c6 := [.slice a303 e267.Attrs_.length c304]) (c7 := [.int .i64 e267.Depth_]) (c8 := [.int .i64 e267.Up_]) (c9 := [.int .i64 e267.Born_]) rfl rfl (rds_bor g285 w1 hw1) rfl (rdm_Timpl_Stats (x := e267.Stats_) (c0 := [.slice a299 e267.Stats_.Totals_.length c300]) (c1 := [.slice a301 e267.Stats_.Cells_.length c302]) (rds_bor g297 w1 hw1) (rds_bor g298 w1 hw1)) rfl (rds_bor g289 w1 hw1) rfl rfl rfl))) (fun _ _ => trivial) ?_
                    refine ow_batch [.p] rfl ?_
                    refine ow_batch [.p] rfl ?_
                    obtain rfl := of_some H
                    exact OW.sub key ⟨rfl, rfl, rfl, rfl, rfl, trivial⟩
            · clear H
              have H := hu312
              clear hu312
              generalize (!y306) = t311 at H key ⊢
              cases t311
              · have H := of_if_f rfl H
                refine ow_batch [.fa 118 9 11 fa118_9] rfl ?_
                refine ow_r rfl (dstOk_lt rfl) (ry_box1 (off := 11) rfl rfl ty3 (boxIn (i := 2) rfl) rfl) ?_
                refine ow_batch [.fa 39 1 1 fa39_1] rfl ?_
                refine ow_r rfl (dstOk_lt rfl) (ry_box1 (off := 1) rfl rfl ty3 (boxIn (i := 1) rfl) rfl) ?_
                obtain ⟨y309, h310, H⟩ := of_bind H
                refine ow_q rfl rfl (dstOk_lt rfl) (qy_call rfl fn88 rfl (fun w1 hw1 => spec_l1In_ok w1  h310)) (fun _ _ => trivial) ?_
                refine ow_batch [.p] rfl ?_
                refine ow_batch [.p] rfl ?_
                obtain rfl := of_some H
                exact OW.sub key ⟨rfl, rfl, rfl, rfl, rfl, trivial⟩
              · have H := of_if_t rfl H
                refine ow_batch [.p, .p, .p, .p, .p, .p, .p] rfl ?_
                obtain rfl := of_some H
                exact OW.sub key ⟨rfl, rfl, rfl, rfl, rfl, trivial⟩
          · have H := of_if_f hb H
            refine c_exit ?_
            refine x_qs_exit ?_
            refine x_ql_exit ?_
            refine x_qb_here ?_
            refine x_qs ?_
            refine c_seq ?_
            refine c_reg ?_
            refine ow_batch [.p] rfl ?_
            refine ow_nil ?_
            refine x_qs ?_
            refine c_ret ?_
            exact x_retR (rs := [.tmp 4]) (vs := [.bool true]) rfl ⟨rfl, trivial⟩ (fun w' hw' => by
                obtain rfl := of_some H
                exact ⟨rfl, hw'.ext⟩)
    · clear H
      have H := hu37
      clear hu37
      generalize u28 = t36 at H key ⊢
      cases t36
      · have H := of_if_f rfl H
        refine ow_batch [.fa 39 1 1 fa39_1] rfl ?_
        refine ow_r rfl (dstOk_lt rfl) (ry_box1 (off := 1) rfl rfl ty3 (boxIn (i := 1) rfl) rfl) ?_
        obtain ⟨y34, h35, H⟩ := of_bind H
        refine ow_q rfl rfl (dstOk_lt rfl) (qy_call rfl fn88 rfl (fun w1 hw1 => spec_l1In_ok w1  h35)) (fun _ _ => trivial) ?_
        refine ow_batch [.p] rfl ?_
        refine ow_batch [.p] rfl ?_
        obtain rfl := of_some H
        exact OW.sub key ⟨rfl, rfl, rfl, trivial⟩
      · have H := of_if_t rfl H
        refine ow_batch [.p, .p, .p, .p, .p] rfl ?_
        obtain rfl := of_some H
        exact OW.sub key ⟨rfl, rfl, rfl, trivial⟩
  · clear H
    have H := hu32
    clear hu32
    generalize (!y26) = t31 at H key ⊢
    cases t31
    · have H := of_if_f rfl H
      refine ow_batch [.fa 39 0 0 fa39_0] rfl ?_
      refine ow_r rfl (dstOk_lt rfl) (ry_box1 (off := 0) rfl rfl ty37 (boxIn (i := 1) rfl) rfl) ?_
      refine ow_batch [.lenS 37 118 sl37] rfl ?_
      obtain ⟨y29, h30, H⟩ := of_bind H
      refine ow_q rfl rfl (dstOk_lt rfl) (qy_call rfl fn88 rfl (fun w1 hw1 => spec_l1In_ok w1  h30)) (fun _ _ => trivial) ?_
      refine ow_batch [.p] rfl ?_
      refine ow_batch [.p] rfl ?_
      obtain rfl := of_some H
      exact OW.sub key ⟨rfl, rfl, rfl, trivial⟩
    · have H := of_if_t rfl H
      refine ow_batch [.p, .p, .p, .p, .p, .p] rfl ?_
      obtain rfl := of_some H
      exact OW.sub key ⟨rfl, rfl, rfl, trivial⟩
set_option maxHeartbeats 4000000 in
set_option maxRecDepth 100000 in
theorem spec_l1Bit_ok (w : World) {p0 : Bool}  {r : Int} (H : spec_l1Bit p0 = some r)   :
    Calls Tryz.prog 198 #[.bool p0] w (fun en w' => en = .returned (.int .i64 r) ∧ Ext [] w w') := by
  unfold spec_l1Bit at H
  refine f_enter (vs := [.bool p0]) Tryz.func198 rfl Tryz.ntmps198 rfl (St.init w []) ?_
  refine c_seq ?_
  refine c_reg ?_
  refine ow_batch [.p] rfl ?_
  refine ow_nil ?_
  refine x_qs ?_
  refine c_seq ?_
  refine c_seq ?_
  refine c_reg ?_
  refine ow_batch [.p] rfl ?_
  refine ow_nil ?_
  refine x_qs ?_
  refine c_if rfl (fun hb => ?_) (fun hb => ?_)
  · have H := of_if_t hb H
    refine c_seq ?_
    refine c_reg ?_
    refine ow_batch [.p] rfl ?_
    refine ow_nil ?_
    refine x_qs ?_
    refine c_ret ?_
    refine x_qs_ret ?_
    exact x_retR (rs := [.tmp 2]) (vs := [.int .i64 1]) rfl ⟨rfl, trivial⟩ (fun w' hw' => by
        obtain rfl := of_some H
        exact ⟨rfl, hw'.ext⟩)
  · have H := of_if_f hb H
    refine c_skip ?_
    refine x_qs ?_
    refine c_seq ?_
    refine c_reg ?_
    refine ow_batch [.p] rfl ?_
    refine ow_nil ?_
    refine x_qs ?_
    refine c_ret ?_
    exact x_retR (rs := [.tmp 2]) (vs := [.int .i64 0]) rfl ⟨rfl, trivial⟩ (fun w' hw' => by
        obtain rfl := of_some H
        exact ⟨rfl, hw'.ext⟩)
set_option maxHeartbeats 4000000 in
set_option maxRecDepth 100000 in
theorem spec_BranchOf_ok (w : World) {p0 : Timpl_Schema} {p1 : Timpl_Fork} {p2 : Int} {cs0 : List Value} {r : Int} (H : spec_BranchOf p0 p1 p2 = some r)  (g0 : (eTimpl_Schema).rd w [] p0 cs0) :
    Calls Tryz.prog 129 #[.agg cs0.toArray, .agg #[.int .i64 p1.Attr_, .int .i64 p1.At_], .int .i64 p2] w (fun en w' => en = .returned (.int .i64 r) ∧ Ext [] w w') := by
  obtain ⟨c10, c11, rfl, g12, g13⟩ := rdo_Timpl_Schema g0
  obtain ⟨a14, c15, rfl⟩ := rd_sl1 g12
  obtain ⟨a16, c17, rfl⟩ := rd_sl1 g13
  unfold spec_BranchOf at H
  refine f_enter (vs := [.agg #[.slice a14 p0.Attrs_.length c15, .slice a16 p0.Classes_.length c17], .agg #[.int .i64 p1.Attr_, .int .i64 p1.At_], .int .i64 p2]) Tryz.func129 rfl Tryz.ntmps129 rfl (St.init w []) ?_
  refine c_seq ?_
  refine c_reg ?_
  refine ow_box (cs := [.slice a14 p0.Attrs_.length c15, .slice a16 p0.Classes_.length c17]) rfl rfl rfl rfl rfl rfl (fun _ => kp) (fun b18 => ?_)
  refine ow_box (cs := [.int .i64 p1.Attr_, .int .i64 p1.At_]) rfl rfl rfl rfl rfl rfl (fun _ => kp) (fun b19 => ?_)
  refine ow_batch [.p] rfl ?_
  refine ow_nil ?_
  refine x_qs ?_
  refine c_seq ?_
  refine c_seq ?_
  refine c_reg ?_
  refine ow_r rfl (dstOk_lt rfl) (ry_box (off := 0) (ds := [.slice a14 p0.Attrs_.length c15, .slice a16 p0.Classes_.length c17]) rfl rfl ty35 (boxIn (i := 0) rfl) rfl rfl) ?_
  refine ow_r rfl (dstOk_lt rfl) (ry_box (off := 0) (ds := [.int .i64 p1.Attr_, .int .i64 p1.At_]) rfl rfl ty116 (boxIn (i := 1) rfl) rfl rfl) ?_
  obtain ⟨y20, h21, H⟩ := of_bind H
  refine ow_q rfl rfl (dstOk_lt rfl) (qy_call rfl fn195 rfl (fun w1 hw1 => spec_ForkOk_ok w1 (p1 := p1) (cs0 := [.slice a14 p0.Attrs_.length c15, .slice a16 p0.Classes_.length c17]) h21 (rdm_Timpl_Schema (x := p0) (c0 := [.slice a14 p0.Attrs_.length c15]) (c1 := [.slice a16 p0.Classes_.length c17]) (rds_bor g12 w1 hw1) (rds_bor g13 w1 hw1)))) (fun _ _ => trivial) ?_
  refine ow_batch [.p, .p] rfl ?_
  obtain ⟨u22, hu44, H⟩ := of_bind H
  refine ow_cut [(23, .bool u22), (2, .int .i64 p2), (3, .pointer (some ⟨b18, 0, none⟩)), (4, .pointer (some ⟨b19, 0, none⟩))] 12 ?_ (fun key => OW.sub (R := [(2, .int .i64 p2), (3, .pointer (some ⟨b18, 0, none⟩)), (4, .pointer (some ⟨b19, 0, none⟩)), (11, .bool (!y20))]) ?_ ⟨rfl, rfl, rfl, rfl, trivial⟩)
  · refine ow_nil ?_
    refine x_qs ?_
    refine c_if rfl (fun hb => ?_) (fun hb => ?_)
    · have H := of_if_t hb H
      refine c_seq ?_
      refine c_reg ?_
      refine ow_batch [.p] rfl ?_
      refine ow_nil ?_
      refine x_qs ?_
      refine c_ret ?_
      refine x_qs_ret ?_
      exact x_retR (rs := [.tmp 6]) (vs := [.int .i64 (-1)]) rfl ⟨rfl, trivial⟩ (fun w' hw' => by
          obtain rfl := of_some H
          exact ⟨rfl, hw'.ext⟩)
    · have H := of_if_f hb H
      refine c_skip ?_
      refine x_qs ?_
      refine c_seq ?_
      refine c_seq ?_
      refine c_reg ?_
      refine ow_batch [.fa 116 1 1 fa116_1] rfl ?_
      refine ow_r rfl (dstOk_lt rfl) (ry_box1 (off := 1) rfl rfl ty3 (boxIn (i := 1) rfl) rfl) ?_
      refine ow_batch [.p] rfl ?_
      refine ow_nil ?_
      refine x_qs ?_
      refine c_if rfl (fun hb => ?_) (fun hb => ?_)
      · have H := of_if_t hb H
        refine c_seq ?_
        refine c_reg ?_
        refine ow_batch [.p, .p] rfl ?_
        refine ow_nil ?_
        refine x_qs ?_
        refine c_ret ?_
        refine x_qs_ret ?_
        exact x_retR (rs := [.tmp 6]) (vs := [.int .i64 p2]) rfl ⟨rfl, trivial⟩ (fun w' hw' => by
            obtain rfl := of_some H
            exact ⟨rfl, hw'.ext⟩)
      · have H := of_if_f hb H
        refine c_skip ?_
        refine x_qs ?_
        refine c_seq ?_
        refine c_seq ?_
        refine c_reg ?_
        refine ow_batch [.fa 35 0 0 fa35_0] rfl ?_
        refine ow_r rfl (dstOk_lt rfl) (ry_box1 (off := 0) rfl rfl ty33 (boxIn (i := 0) rfl) rfl) ?_
        refine ow_batch [.fa 116 0 0 fa116_0] rfl ?_
        refine ow_r rfl (dstOk_lt rfl) (ry_box1 (off := 0) rfl rfl ty3 (boxIn (i := 1) rfl) rfl) ?_
        obtain ⟨e45, h46, H⟩ := of_bind H
        refine ow_ixB rfl rfl rfl rfl rfl sl33 ty114 rfl g12 h46 (fun q49 c50 hd47 hA48 => ?_)
        obtain ⟨c51, c52, c53, rfl, g54, g55, g56⟩ := rdo_Timpl_Attr hd47
        obtain rfl : c51 = [vS e45.Name_] := g54
        obtain ⟨a57, c58, rfl⟩ := rd_sl1 g55
        obtain ⟨a59, c60, rfl⟩ := rd_sl1 g56
        refine ow_batch [.fa 114 1 1 fa114_1] rfl ?_
        refine ow_r rfl (dstOk_lt rfl) (ry_load1 rfl rfl ty59 (at_bor bor (at_K hA48 1 1))) ?_
        refine ow_batch [.lenS 59 3 sl59, .p] rfl ?_
        refine ow_nil ?_
        refine x_qs ?_
        refine c_if rfl (fun hb => ?_) (fun hb => ?_)
        · have H := of_if_t hb H
          refine c_seq ?_
          refine c_reg ?_
          refine ow_batch [.p, .fa 116 1 1 fa116_1] rfl ?_
          refine ow_r rfl (dstOk_lt rfl) (ry_box1 (off := 1) rfl rfl ty3 (boxIn (i := 1) rfl) rfl) ?_
          refine ow_batch [.p] rfl ?_
          obtain ⟨y61, h62, H⟩ := of_bind H
          refine ow_q rfl rfl (dstOk_lt rfl) (qy_call rfl fn198 rfl (fun w1 hw1 => spec_l1Bit_ok w1  h62)) (fun _ _ => trivial) ?_
          refine ow_batch [.p] rfl ?_
          refine ow_nil ?_
          refine x_qs ?_
          refine c_ret ?_
          refine x_qs_ret ?_
          exact x_retR (rs := [.tmp 6]) (vs := [.int .i64 y61]) rfl ⟨rfl, trivial⟩ (fun w' hw' => by
              obtain rfl := of_some H
              exact ⟨rfl, hw'.ext⟩)
        · have H := of_if_f hb H
          refine c_skip ?_
          refine x_qs ?_
          refine c_seq ?_
          refine c_reg ?_
          refine ow_batch [.p, .fa 116 1 1 fa116_1] rfl ?_
          refine ow_r rfl (dstOk_lt rfl) (ry_box1 (off := 1) rfl rfl ty3 (boxIn (i := 1) rfl) rfl) ?_
          refine ow_batch [.p] rfl ?_
          obtain ⟨y63, h64, H⟩ := of_bind H
          refine ow_q rfl rfl (dstOk_lt rfl) (qy_call rfl fn198 rfl (fun w1 hw1 => spec_l1Bit_ok w1  h64)) (fun _ _ => trivial) ?_
          refine ow_batch [.p] rfl ?_
          refine ow_nil ?_
          refine x_qs ?_
          refine c_ret ?_
          exact x_retR (rs := [.tmp 6]) (vs := [.int .i64 y63]) rfl ⟨rfl, trivial⟩ (fun w' hw' => by
              obtain rfl := of_some H
              exact ⟨rfl, hw'.ext⟩)
  · clear H
    have H := hu44
    clear hu44
    generalize (!y20) = t43 at H key ⊢
    cases t43
    · have H := of_if_f rfl H
      refine ow_batch [.p, .fa 35 0 0 fa35_0] rfl ?_
      refine ow_r rfl (dstOk_lt rfl) (ry_box1 (off := 0) rfl rfl ty33 (boxIn (i := 0) rfl) rfl) ?_
      refine ow_batch [.fa 116 0 0 fa116_0] rfl ?_
      refine ow_r rfl (dstOk_lt rfl) (ry_box1 (off := 0) rfl rfl ty3 (boxIn (i := 1) rfl) rfl) ?_
      obtain ⟨e23, h24, H⟩ := of_bind H
      refine ow_ixB rfl rfl rfl rfl rfl sl33 ty114 rfl g12 h24 (fun q27 c28 hd25 hA26 => ?_)
      obtain ⟨c29, c30, c31, rfl, g32, g33, g34⟩ := rdo_Timpl_Attr hd25
      obtain rfl : c29 = [vS e23.Name_] := g32
      obtain ⟨a35, c36, rfl⟩ := rd_sl1 g33
      obtain ⟨a37, c38, rfl⟩ := rd_sl1 g34
      refine ow_r rfl (dstOk_lt rfl) (ry_load (cs := [vS e23.Name_, .slice a35 e23.Cuts_.length c36, .slice a37 e23.Values_.length c38]) rfl rfl ty114 (at_bor bor hA26) rfl) ?_
      obtain ⟨y39, h40, H⟩ := of_bind H
      refine ow_q rfl rfl (dstOk_lt rfl) (qy_call rfl fn128 rfl (fun w1 hw1 => spec_Bins_ok w1 (cs0 := [vS e23.Name_, .slice a35 e23.Cuts_.length c36, .slice a37 e23.Values_.length c38]) h40 (rdm_Timpl_Attr (x := e23) (c0 := [vS e23.Name_]) (c1 := [.slice a35 e23.Cuts_.length c36]) (c2 := [.slice a37 e23.Values_.length c38]) rfl (rds_bor g33 w1 hw1) (rds_bor g34 w1 hw1)))) (fun _ _ => trivial) ?_
      refine ow_batch [.p] rfl ?_
      obtain ⟨y41, h42, H⟩ := of_bind H
      refine ow_q rfl rfl (dstOk_lt rfl) (qy_call rfl fn88 rfl (fun w1 hw1 => spec_l1In_ok w1  h42)) (fun _ _ => trivial) ?_
      refine ow_batch [.p] rfl ?_
      refine ow_batch [.p] rfl ?_
      obtain rfl := of_some H
      exact OW.sub key ⟨rfl, rfl, rfl, rfl, trivial⟩
    · have H := of_if_t rfl H
      refine ow_batch [.p, .p, .p, .p, .p, .p, .p, .p, .p, .p, .p, .p] rfl ?_
      obtain rfl := of_some H
      exact OW.sub key ⟨rfl, rfl, rfl, rfl, trivial⟩
set_option maxHeartbeats 4000000 in
set_option maxRecDepth 100000 in
theorem impl_within_ok (w : World) {p0 : Int} {p1 : Int} {p2 : Int}  {r : Bool} (H : impl_within p0 p1 p2 = some r)   :
    Calls Tryz.prog 91 #[.int .i64 p0, .int .i64 p1, .int .i64 p2] w (fun en w' => en = .returned (.bool r) ∧ Ext [] w w') := by
  unfold impl_within at H
  refine f_enter (vs := [.int .i64 p0, .int .i64 p1, .int .i64 p2]) Tryz.func91 rfl Tryz.ntmps91 rfl (St.init w []) ?_
  refine c_seq ?_
  refine c_reg ?_
  refine ow_batch [.p] rfl ?_
  refine ow_nil ?_
  refine x_qs ?_
  refine c_seq ?_
  refine c_reg ?_
  refine ow_batch [.p, .p, .p, .p] rfl ?_
  refine ow_cut [(14, .bool ((decide (p0 ≥ p1)) && (decide (p0 ≤ p2)))), (6, .bool false)] 4 ?_ (fun key => OW.sub (R := [(0, .int .i64 p0), (2, .int .i64 p2), (6, .bool false), (10, .bool (decide (p0 ≥ p1)))]) ?_ ⟨rfl, rfl, rfl, rfl, trivial⟩)
  · refine ow_batch [.p] rfl ?_
    refine ow_nil ?_
    refine x_qs ?_
    refine c_ret ?_
    exact x_retR (rs := [.tmp 6]) (vs := [.bool ((decide (p0 ≥ p1)) && (decide (p0 ≤ p2)))]) rfl ⟨rfl, trivial⟩ (fun w' hw' => by
        obtain rfl := of_some H
        exact ⟨rfl, hw'.ext⟩)
  · generalize (decide (p0 ≥ p1)) = t11 at key ⊢
    cases t11
    · refine ow_batch [.p, .p, .p, .p] rfl ?_
      exact OW.sub key ⟨rfl, rfl, trivial⟩
    · refine ow_batch [.p, .p, .p] rfl ?_
      refine ow_batch [.p] rfl ?_
      exact OW.sub key ⟨rfl, rfl, trivial⟩
set_option maxHeartbeats 4000000 in
set_option maxRecDepth 100000 in
theorem impl_WordOk_ok (w : World) {p0 : List UInt8}  {r : Bool} (H : impl_WordOk p0 = some r)   :
    Calls Tryz.prog 209 #[vS p0] w (fun en w' => en = .returned (.bool r) ∧ Ext [] w w') := by
  unfold impl_WordOk at H
  refine f_enter (vs := [vS p0]) Tryz.func209 rfl Tryz.ntmps209 rfl (St.init w []) ?_
  refine c_seq ?_
  refine c_reg ?_
  refine ow_batch [.p] rfl ?_
  refine ow_nil ?_
  refine x_qs ?_
  refine c_seq ?_
  refine c_seq ?_
  refine c_reg ?_
  refine ow_batch [.p, .lenT 9 st9] rfl ?_
  obtain ⟨y10, h11, H⟩ := of_bind H
  refine ow_q rfl rfl (dstOk_lt rfl) (qy_call rfl fn91 rfl (fun w1 hw1 => impl_within_ok w1  h11)) (fun _ _ => trivial) ?_
  refine ow_batch [.p] rfl ?_
  refine ow_nil ?_
  refine x_qs ?_
  refine c_if rfl (fun hb => ?_) (fun hb => ?_)
  · have H := of_if_t hb H
    refine c_seq ?_
    refine c_reg ?_
    refine ow_batch [.p] rfl ?_
    refine ow_nil ?_
    refine x_qs ?_
    refine c_ret ?_
    refine x_qs_ret ?_
    exact x_retR (rs := [.tmp 2]) (vs := [.bool false]) rfl ⟨rfl, trivial⟩ (fun w' hw' => by
        obtain rfl := of_some H
        exact ⟨rfl, hw'.ext⟩)
  · have H := of_if_f hb H
    refine c_skip ?_
    refine x_qs ?_
    refine c_seq ?_
    refine c_seq ?_
    refine c_reg ?_
    refine ow_batch [.p, .lenT 9 st9, .p] rfl ?_
    refine ow_nil ?_
    refine x_qs ?_
    refine c_block ?_
    refine CW.at (loopI1 (fun (i20 : Int) => St w [] []) (fun (i20 : Int) => [(0, vS p0), (9, .int .i64 (p0.length : Int)), (10, .int .i64 i20)]) (fun kk => fun (i20 : Int) => impl_WordOk_L1 p0 kk i20 = some r) (fun _ H => ?_) (fun k1 ihk1 i20 H => ?_) Fuel (0) (H)) (fun _ h => St.sel [] rfl rfl h) ⟨rfl, rfl, rfl,  trivial⟩
    · unfold impl_WordOk_L1 at H
      exact absurd H (by simp)
    · unfold impl_WordOk_L1 at H
      refine c_seq ?_
      refine c_reg ?_
      refine ow_batch [.p] rfl ?_
      refine ow_nil ?_
      refine x_qs ?_
      refine c_seq ?_
      refine c_if rfl (fun hb => ?_) (fun hb => ?_)
      · have H := of_if_t hb H
        refine c_skip ?_
        refine x_qs ?_
        refine c_seq ?_
        refine c_block ?_
        refine c_seq ?_
        refine c_reg ?_
        refine ow_batch [.p, .p] rfl ?_
        refine ow_nil ?_
        refine x_qs ?_
        refine c_seq ?_
        refine c_reg ?_
        refine ow_batch [.p, .p] rfl ?_
        obtain ⟨b29, h30, H⟩ := of_bind H
        refine ow_r rfl (dstOk_lt rfl) (ry_sidx (s := p0) rfl rfl rfl st9 h30) ?_
        refine ow_batch [.p, .p] rfl ?_
        obtain ⟨u31, hu35, H⟩ := of_bind H
        refine ow_cut [(22, .bool u31), (0, vS p0), (9, .int .i64 (p0.length : Int)), (10, .int .i64 i20)] 5 ?_ (fun key => OW.sub (R := [(0, vS p0), (3, .int .i64 i20), (9, .int .i64 (p0.length : Int)), (10, .int .i64 i20), (17, .bool (decide ((b29.toNat : Int) < 97)))]) ?_ ⟨rfl, rfl, rfl, rfl, rfl, trivial⟩)
        · refine ow_nil ?_
          refine x_qs ?_
          refine c_if rfl (fun hb => ?_) (fun hb => ?_)
          · have H := of_if_t hb H
            refine c_seq ?_
            refine c_reg ?_
            refine ow_batch [.p] rfl ?_
            refine ow_nil ?_
            refine x_qs ?_
            refine c_ret ?_
            refine x_qb_ret ?_
            refine x_qs_ret ?_
            refine x_ql_ret ?_
            refine x_qb_ret ?_
            refine x_qs_ret ?_
            exact x_retR (rs := [.tmp 2]) (vs := [.bool false]) rfl ⟨rfl, trivial⟩ (fun w' hw' => by
                obtain rfl := of_some H
                exact ⟨rfl, hw'.ext⟩)
          · have H := of_if_f hb H
            refine c_skip ?_
            refine x_qb ?_
            refine x_qs ?_
            refine c_reg ?_
            refine ow_batch [.p, .p] rfl ?_
            refine ow_nil ?_
            exact x_ql (RW.at (ihk1 (IntKind.i64.wrap (i20 + 1)) (H)) (fun _ h => St.sel [] rfl rfl h) ⟨rfl, rfl, rfl, trivial⟩)
        · clear H
          have H := hu35
          clear hu35
          generalize (decide ((b29.toNat : Int) < 97)) = t34 at H key ⊢
          cases t34
          · have H := of_if_f rfl H
            refine ow_batch [.p, .p] rfl ?_
            obtain ⟨b32, h33, H⟩ := of_bind H
            refine ow_r rfl (dstOk_lt rfl) (ry_sidx (s := p0) rfl rfl rfl st9 h33) ?_
            refine ow_batch [.p] rfl ?_
            refine ow_batch [.p] rfl ?_
            obtain rfl := of_some H
            exact OW.sub key ⟨rfl, rfl, rfl, rfl, trivial⟩
          · have H := of_if_t rfl H
            refine ow_batch [.p, .p, .p, .p, .p] rfl ?_
            obtain rfl := of_some H
            exact OW.sub key ⟨rfl, rfl, rfl, rfl, trivial⟩
      · have H := of_if_f hb H
        refine c_exit ?_
        refine x_qs_exit ?_
        refine x_ql_exit ?_
        refine x_qb_here ?_
        refine x_qs ?_
        refine c_seq ?_
        refine c_reg ?_
        refine ow_batch [.p] rfl ?_
        refine ow_nil ?_
        refine x_qs ?_
        refine c_ret ?_
        exact x_retR (rs := [.tmp 2]) (vs := [.bool true]) rfl ⟨rfl, trivial⟩ (fun w' hw' => by
            obtain rfl := of_some H
            exact ⟨rfl, hw'.ext⟩)
set_option maxHeartbeats 4000000 in
set_option maxRecDepth 100000 in
theorem lib_slices_Index___string_string__ok (w : World) {p0 : List (List UInt8)} {p1 : List UInt8} {a_0 : Option Addr} {n_0 c_0 : Nat} {r : Int} (H : lib_slices_Index___string_string_ p0 p1 = some r)  (g0 : (eList (eStr) 9).rd w [] p0 [.slice a_0 n_0 c_0]) :
    Calls Tryz.prog 259 #[.slice a_0 n_0 c_0, vS p1] w (fun en w' => en = .returned (.int .i64 r) ∧ Ext [] w w') := by
  obtain rfl := rd_n g0
  unfold lib_slices_Index___string_string_ at H
  refine f_enter (vs := [.slice a_0 p0.length c_0, vS p1]) Tryz.func259 rfl Tryz.ntmps259 rfl (St.init w []) ?_
  refine c_seq ?_
  refine c_reg ?_
  refine ow_batch [.p] rfl ?_
  refine ow_nil ?_
  refine x_qs ?_
  refine c_seq ?_
  refine c_seq ?_
  refine c_reg ?_
  refine ow_batch [.p, .lenS 23 9 sl23, .p] rfl ?_
  refine ow_nil ?_
  refine x_qs ?_
  refine c_block ?_
  refine CW.at (loopI1 (fun (i13 : Int) => St w [] []) (fun (i13 : Int) => [(0, .slice a_0 p0.length c_0), (1, vS p1), (7, .int .i64 (p0.length : Int)), (8, .int .i64 i13)]) (fun kk => fun (i13 : Int) => lib_slices_Index___string_string__L1 p0 p1 kk i13 = some r) (fun _ H => ?_) (fun k1 ihk1 i13 H => ?_) Fuel (0) (H)) (fun _ h => St.sel [] rfl rfl h) ⟨rfl, rfl, rfl, rfl,  trivial⟩
  · unfold lib_slices_Index___string_string__L1 at H
    exact absurd H (by simp)
  · unfold lib_slices_Index___string_string__L1 at H
    refine c_seq ?_
    refine c_reg ?_
    refine ow_batch [.p] rfl ?_
    refine ow_nil ?_
    refine x_qs ?_
    refine c_seq ?_
    refine c_if rfl (fun hb => ?_) (fun hb => ?_)
    · have H := of_if_t hb H
      refine c_skip ?_
      refine x_qs ?_
      refine c_seq ?_
      refine c_block ?_
      refine c_seq ?_
      refine c_reg ?_
      refine ow_batch [.p, .p] rfl ?_
      refine ow_nil ?_
      refine x_qs ?_
      refine c_seq ?_
      refine c_reg ?_
      refine ow_batch [.p, .p, .p] rfl ?_
      obtain ⟨e18, h19, H⟩ := of_bind H
      refine ow_ixE (e := eStr) (xs := p0) (j := i13) rfl rfl rfl rfl rfl sl23 ty9 rfl (fun w1 hw1 => rds_bor g0 w1 hw1) h19 (by rw [Nat.mul_one]) ?_
      refine ow_r rfl (dstOk_lt rfl) (ry_load1 rfl rfl ty9 (at_elV (fun w1 hw1 => rds_bor g0 w1 hw1) h19)) ?_
      refine ow_batch [.p] rfl ?_
      refine ow_nil ?_
      refine x_qs ?_
      refine c_if rfl (fun hb => ?_) (fun hb => ?_)
      · have H := of_if_t hb H
        refine c_seq ?_
        refine c_reg ?_
        refine ow_batch [.p, .p] rfl ?_
        refine ow_nil ?_
        refine x_qs ?_
        refine c_ret ?_
        refine x_qb_ret ?_
        refine x_qs_ret ?_
        refine x_ql_ret ?_
        refine x_qb_ret ?_
        refine x_qs_ret ?_
        exact x_retR (rs := [.tmp 4]) (vs := [.int .i64 i13]) rfl ⟨rfl, trivial⟩ (fun w' hw' => by
            obtain rfl := of_some H
            exact ⟨rfl, hw'.ext⟩)
      · have H := of_if_f hb H
        refine c_skip ?_
        refine x_qb ?_
        refine x_qs ?_
        refine c_reg ?_
        refine ow_batch [.p, .p] rfl ?_
        refine ow_nil ?_
        exact x_ql (RW.at (ihk1 (IntKind.i64.wrap (i13 + 1)) (H)) (fun _ h => St.sel [] rfl rfl h) ⟨rfl, rfl, rfl, rfl, trivial⟩)
    · have H := of_if_f hb H
      refine c_exit ?_
      refine x_qs_exit ?_
      refine x_ql_exit ?_
      refine x_qb_here ?_
      refine x_qs ?_
      refine c_seq ?_
      refine c_reg ?_
      refine ow_batch [.p] rfl ?_
      refine ow_nil ?_
      refine x_qs ?_
      refine c_ret ?_
      exact x_retR (rs := [.tmp 4]) (vs := [.int .i64 (-1)]) rfl ⟨rfl, trivial⟩ (fun w' hw' => by
          obtain rfl := of_some H
          exact ⟨rfl, hw'.ext⟩)
set_option maxHeartbeats 4000000 in
set_option maxRecDepth 100000 in
theorem lib_slices_Contains___string_string__ok (w : World) {p0 : List (List UInt8)} {p1 : List UInt8} {a_0 : Option Addr} {n_0 c_0 : Nat} {r : Bool} (H : lib_slices_Contains___string_string_ p0 p1 = some r)  (g0 : (eList (eStr) 9).rd w [] p0 [.slice a_0 n_0 c_0]) :
    Calls Tryz.prog 239 #[.slice a_0 n_0 c_0, vS p1] w (fun en w' => en = .returned (.bool r) ∧ Ext [] w w') := by
  obtain rfl := rd_n g0
  unfold lib_slices_Contains___string_string_ at H
  refine f_enter (vs := [.slice a_0 p0.length c_0, vS p1]) Tryz.func239 rfl Tryz.ntmps239 rfl (St.init w []) ?_
  refine c_seq ?_
  refine c_reg ?_
  refine ow_batch [.p] rfl ?_
  refine ow_nil ?_
  refine x_qs ?_
  refine c_seq ?_
  refine c_reg ?_
  refine ow_batch [.p, .p] rfl ?_
  obtain ⟨y10, h11, H⟩ := of_bind H
  refine ow_q rfl rfl (dstOk_lt rfl) (qy_call rfl fn259 rfl (fun w1 hw1 => lib_slices_Index___string_string__ok w1  h11 (rds_bor g0 w1 hw1))) (fun _ _ => trivial) ?_
  refine ow_batch [.p, .p] rfl ?_
  refine ow_nil ?_
  refine x_qs ?_
  refine c_ret ?_
  exact x_retR (rs := [.tmp 4]) (vs := [.bool (decide (y10 ≥ 0))]) rfl ⟨rfl, trivial⟩ (fun w' hw' => by
      obtain rfl := of_some H
      exact ⟨rfl, hw'.ext⟩)
set_option maxHeartbeats 4000000 in
set_option maxRecDepth 100000 in
theorem impl_distinctWords_ok (w : World) {p0 : List (List UInt8)} {a_0 : Option Addr} {n_0 c_0 : Nat} {r : Bool} (H : impl_distinctWords p0 = some r)  (g0 : (eList (eStr) 9).rd w [] p0 [.slice a_0 n_0 c_0]) :
    Calls Tryz.prog 202 #[.slice a_0 n_0 c_0] w (fun en w' => en = .returned (.bool r) ∧ Ext [] w w') := by
  obtain rfl := rd_n g0
  unfold impl_distinctWords at H
  refine f_enter (vs := [.slice a_0 p0.length c_0]) Tryz.func202 rfl Tryz.ntmps202 rfl (St.init w []) ?_
  refine c_seq ?_
  refine c_reg ?_
  refine ow_batch [.p] rfl ?_
  refine ow_nil ?_
  refine x_qs ?_
  refine c_seq ?_
  refine c_seq ?_
  refine c_reg ?_
  refine ow_batch [.p, .lenS 23 9 sl23, .p] rfl ?_
  refine ow_nil ?_
  refine x_qs ?_
  refine c_block ?_
  refine CW.at (loopI1 (fun (i26 : Int) => St w [] []) (fun (i26 : Int) => [(0, .slice a_0 p0.length c_0), (5, .slice a_0 p0.length c_0), (6, .int .i64 (p0.length : Int)), (7, .int .i64 i26)]) (fun kk => fun (i26 : Int) => impl_distinctWords_L1 p0 kk i26 = some r) (fun _ H => ?_) (fun k1 ihk1 i26 H => ?_) Fuel (0) (H)) (fun _ h => St.sel [] rfl rfl h) ⟨rfl, rfl, rfl, rfl,  trivial⟩
  · unfold impl_distinctWords_L1 at H
    exact absurd H (by simp)
  · unfold impl_distinctWords_L1 at H
    refine c_seq ?_
    refine c_reg ?_
    refine ow_batch [.p] rfl ?_
    refine ow_nil ?_
    refine x_qs ?_
    refine c_seq ?_
    refine c_if rfl (fun hb => ?_) (fun hb => ?_)
    · have H := of_if_t hb H
      refine c_skip ?_
      refine x_qs ?_
      refine c_seq ?_
      refine c_block ?_
      refine c_seq ?_
      refine c_reg ?_
      refine ow_batch [.p] rfl ?_
      obtain ⟨e43, h44, H⟩ := of_bind H
      refine ow_ixE (e := eStr) (xs := p0) (j := i26) rfl rfl rfl rfl rfl sl23 ty9 rfl (fun w1 hw1 => rds_bor g0 w1 hw1) h44 (by rw [Nat.mul_one]) ?_
      refine ow_r rfl (dstOk_lt rfl) (ry_load1 rfl rfl ty9 (at_elV (fun w1 hw1 => rds_bor g0 w1 hw1) h44)) ?_
      refine ow_batch [.p, .p] rfl ?_
      refine ow_nil ?_
      refine x_qs ?_
      refine c_seq ?_
      refine c_reg ?_
      refine ow_batch [.p] rfl ?_
      obtain ⟨y45, h46, H⟩ := of_bind H
      refine ow_q rfl rfl (dstOk_lt rfl) (qy_call rfl fn209 rfl (fun w1 hw1 => impl_WordOk_ok w1  h46)) (fun _ _ => trivial) ?_
      refine ow_batch [.p, .p] rfl ?_
      obtain ⟨u47, hu57, H⟩ := of_bind H
      refine ow_cut [(21, .bool u47), (0, .slice a_0 p0.length c_0), (5, .slice a_0 p0.length c_0), (6, .int .i64 (p0.length : Int)), (7, .int .i64 i26)] 6 ?_ (fun key => OW.sub (R := [(0, .slice a_0 p0.length c_0), (3, .int .i64 i26), (4, vS e43), (5, .slice a_0 p0.length c_0), (6, .int .i64 (p0.length : Int)), (7, .int .i64 i26), (15, .bool (!y45))]) ?_ ⟨rfl, rfl, rfl, rfl, rfl, rfl, rfl, trivial⟩)
      · refine ow_nil ?_
        refine x_qs ?_
        refine c_if rfl (fun hb => ?_) (fun hb => ?_)
        · have H := of_if_t hb H
          refine c_seq ?_
          refine c_reg ?_
          refine ow_batch [.p] rfl ?_
          refine ow_nil ?_
          refine x_qs ?_
          refine c_ret ?_
          refine x_qb_ret ?_
          refine x_qs_ret ?_
          refine x_ql_ret ?_
          refine x_qb_ret ?_
          refine x_qs_ret ?_
          exact x_retR (rs := [.tmp 2]) (vs := [.bool false]) rfl ⟨rfl, trivial⟩ (fun w' hw' => by
              obtain rfl := of_some H
              exact ⟨rfl, hw'.ext⟩)
        · have H := of_if_f hb H
          refine c_skip ?_
          refine x_qb ?_
          refine x_qs ?_
          refine c_reg ?_
          refine ow_batch [.p, .p] rfl ?_
          refine ow_nil ?_
          exact x_ql (RW.at (ihk1 (IntKind.i64.wrap (i26 + 1)) (H)) (fun _ h => St.sel [] rfl rfl h) ⟨rfl, rfl, rfl, rfl, trivial⟩)
      · clear H
        have H := hu57
        clear hu57
        generalize (!y45) = t56 at H key ⊢
        cases t56
        · have H := of_if_f rfl H
          refine ow_batch [.p, .p] rfl ?_
          obtain ⟨l48, h49, H⟩ := of_bind H
          refine ow_lsub rfl rfl rfl rfl sl23 ty9 rfl rfl rfl h49 g0 (fun v51 h50 => ?_)
          obtain ⟨a52, c53, rfl⟩ := rd_sl h50
          refine ow_batch [.p] rfl ?_
          obtain ⟨y54, h55, H⟩ := of_bind H
          refine ow_q rfl rfl (dstOk_lt rfl) (qy_call rfl fn239 rfl (fun w1 hw1 => lib_slices_Contains___string_string__ok w1  h55 (rds_bor h50 w1 hw1))) (fun _ _ => trivial) ?_
          refine ow_batch [.p] rfl ?_
          obtain rfl := of_some H
          exact OW.sub key ⟨rfl, rfl, rfl, rfl, rfl, trivial⟩
        · have H := of_if_t rfl H
          refine ow_batch [.p, .p, .p, .p, .p, .p] rfl ?_
          obtain rfl := of_some H
          exact OW.sub key ⟨rfl, rfl, rfl, rfl, rfl, trivial⟩
    · have H := of_if_f hb H
      refine c_exit ?_
      refine x_qs_exit ?_
      refine x_ql_exit ?_
      refine x_qb_here ?_
      refine x_qs ?_
      refine c_seq ?_
      refine c_reg ?_
      refine ow_batch [.p] rfl ?_
      refine ow_nil ?_
      refine x_qs ?_
      refine c_ret ?_
      exact x_retR (rs := [.tmp 2]) (vs := [.bool true]) rfl ⟨rfl, trivial⟩ (fun w' hw' => by
          obtain rfl := of_some H
          exact ⟨rfl, hw'.ext⟩)
set_option maxHeartbeats 4000000 in
set_option maxRecDepth 100000 in
theorem impl_ascending_ok (w : World) {p0 : List Int} {a_0 : Option Addr} {n_0 c_0 : Nat} {r : Bool} (H : impl_ascending p0 = some r)  (g0 : (eList (eVal (Value.int .i64) (fun _ => rfl)) 3).rd w [] p0 [.slice a_0 n_0 c_0]) :
    Calls Tryz.prog 207 #[.slice a_0 n_0 c_0] w (fun en w' => en = .returned (.bool r) ∧ Ext [] w w') := by
  obtain rfl := rd_n g0
  unfold impl_ascending at H
  refine f_enter (vs := [.slice a_0 p0.length c_0]) Tryz.func207 rfl Tryz.ntmps207 rfl (St.init w []) ?_
  refine c_seq ?_
  refine c_reg ?_
  refine ow_batch [.p] rfl ?_
  refine ow_nil ?_
  refine x_qs ?_
  refine c_seq ?_
  refine c_seq ?_
  refine c_reg ?_
  refine ow_batch [.p] rfl ?_
  refine ow_nil ?_
  refine x_qs ?_
  refine c_block ?_
  refine CW.at (loopI1 (fun (i15 : Int) => St w [] []) (fun (i15 : Int) => [(0, .slice a_0 p0.length c_0), (3, .int .i64 i15)]) (fun kk => fun (i15 : Int) => impl_ascending_L1 p0 kk i15 = some r) (fun _ H => ?_) (fun k1 ihk1 i15 H => ?_) Fuel (1) (H)) (fun _ h => St.sel [] rfl rfl h) ⟨rfl, rfl,  trivial⟩
  · unfold impl_ascending_L1 at H
    exact absurd H (by simp)
  · unfold impl_ascending_L1 at H
    refine c_seq ?_
    refine c_seq ?_
    refine c_reg ?_
    refine ow_batch [.p, .p, .lenS 59 3 sl59, .p] rfl ?_
    refine ow_nil ?_
    refine x_qs ?_
    refine c_if rfl (fun hb => ?_) (fun hb => ?_)
    · have H := of_if_t hb H
      refine c_skip ?_
      refine x_qs ?_
      refine c_seq ?_
      refine c_block ?_
      refine c_seq ?_
      refine c_regQ mixed (by kernel_rfl) ?_
      refine ow_batch [.p, .p] rfl ?_
      obtain ⟨e21, h22, H⟩ := of_bind H
      refine ow_ixE (e := eVal (Value.int .i64) (fun _ => rfl)) (xs := p0) (j := i15) rfl rfl rfl rfl rfl sl59 ty3 rfl (fun w1 hw1 => rds_bor g0 w1 hw1) h22 (by rw [Nat.mul_one]) ?_
      refine ow_r rfl (dstOk_lt rfl) (ry_load1 rfl rfl ty3 (at_elV (fun w1 hw1 => rds_bor g0 w1 hw1) h22)) ?_
      refine ow_batch [.p, .p, .p] rfl ?_
      obtain ⟨e23, h24, H⟩ := of_bind H
      refine ow_ixE (e := eVal (Value.int .i64) (fun _ => rfl)) (xs := p0) (j := IntKind.i64.wrap (i15 - 1)) rfl rfl rfl rfl rfl sl59 ty3 rfl (fun w1 hw1 => rds_bor g0 w1 hw1) h24 (by rw [Nat.mul_one]) ?_
      refine ow_r rfl (dstOk_lt rfl) (ry_load1 rfl rfl ty3 (at_elV (fun w1 hw1 => rds_bor g0 w1 hw1) h24)) ?_
      refine ow_batch [.p] rfl ?_
      refine ow_nilQ ?_
      refine x_qs ?_
      refine c_if rfl (fun hb => ?_) (fun hb => ?_)
      · have H := of_if_t hb H
        refine c_seq ?_
        refine c_reg ?_
        refine ow_batch [.p] rfl ?_
        refine ow_nil ?_
        refine x_qs ?_
        refine c_ret ?_
        refine x_qb_ret ?_
        refine x_qs_ret ?_
        refine x_ql_ret ?_
        refine x_qb_ret ?_
        refine x_qs_ret ?_
        exact x_retR (rs := [.tmp 2]) (vs := [.bool false]) rfl ⟨rfl, trivial⟩ (fun w' hw' => by
            obtain rfl := of_some H
            exact ⟨rfl, hw'.ext⟩)
      · have H := of_if_f hb H
        refine c_skip ?_
        refine x_qb ?_
        refine x_qs ?_
        refine c_reg ?_
        refine ow_batch [.p, .p, .p] rfl ?_
        refine ow_nil ?_
        exact x_ql (RW.at (ihk1 (IntKind.i64.wrap (i15 + 1)) (H)) (fun _ h => St.sel [] rfl rfl h) ⟨rfl, rfl, trivial⟩)
    · have H := of_if_f hb H
      refine c_exit ?_
      refine x_qs_exit ?_
      refine x_ql_exit ?_
      refine x_qb_here ?_
      refine x_qs ?_
      refine c_seq ?_
      refine c_reg ?_
      refine ow_batch [.p] rfl ?_
      refine ow_nil ?_
      refine x_qs ?_
      refine c_ret ?_
      exact x_retR (rs := [.tmp 2]) (vs := [.bool true]) rfl ⟨rfl, trivial⟩ (fun w' hw' => by
          obtain rfl := of_some H
          exact ⟨rfl, hw'.ext⟩)
set_option maxHeartbeats 4000000 in
set_option maxRecDepth 100000 in
theorem impl_isCut_ok (w : World) {p0 : Int}  {r : Bool} (H : impl_isCut p0 = some r)   :
    Calls Tryz.prog 242 #[.int .i64 p0] w (fun en w' => en = .returned (.bool r) ∧ Ext [] w w') := by
  unfold impl_isCut at H
  refine f_enter (vs := [.int .i64 p0]) Tryz.func242 rfl Tryz.ntmps242 rfl (St.init w []) ?_
  refine c_seq ?_
  refine c_reg ?_
  refine ow_batch [.p] rfl ?_
  refine ow_nil ?_
  refine x_qs ?_
  refine c_seq ?_
  refine c_reg ?_
  refine ow_batch [.p] rfl ?_
  obtain ⟨y10, h11, H⟩ := of_bind H
  refine ow_q rfl rfl (dstOk_lt rfl) (qy_call rfl fn91 rfl (fun w1 hw1 => impl_within_ok w1  h11)) (fun _ _ => trivial) ?_
  refine ow_batch [.p] rfl ?_
  refine ow_nil ?_
  refine x_qs ?_
  refine c_ret ?_
  exact x_retR (rs := [.tmp 2]) (vs := [.bool y10]) rfl ⟨rfl, trivial⟩ (fun w' hw' => by
      obtain rfl := of_some H
      exact ⟨rfl, hw'.ext⟩)
set_option maxHeartbeats 4000000 in
set_option maxRecDepth 100000 in
theorem impl_CutsOk_1_ok (w : World) {p0 : Int}  {r : Bool} (H : impl_CutsOk_1 p0 = some r)   :
    Calls Tryz.prog 241 #[.int .i64 p0] w (fun en w' => en = .returned (.bool r) ∧ Ext [] w w') := by
  unfold impl_CutsOk_1 at H
  refine f_enter (vs := [.int .i64 p0]) Tryz.func241 rfl Tryz.ntmps241 rfl (St.init w []) ?_
  refine c_seq ?_
  refine c_reg ?_
  refine ow_batch [.p] rfl ?_
  refine ow_nil ?_
  refine x_qs ?_
  refine c_seq ?_
  refine c_reg ?_
  refine ow_batch [.p] rfl ?_
  obtain ⟨y10, h11, H⟩ := of_bind H
  refine ow_q rfl rfl (dstOk_lt rfl) (qy_call rfl fn242 rfl (fun w1 hw1 => impl_isCut_ok w1  h11)) (fun _ _ => trivial) ?_
  refine ow_batch [.p, .p] rfl ?_
  refine ow_nil ?_
  refine x_qs ?_
  refine c_ret ?_
  exact x_retR (rs := [.tmp 2]) (vs := [.bool (!y10)]) rfl ⟨rfl, trivial⟩ (fun w' hw' => by
      obtain rfl := of_some H
      exact ⟨rfl, hw'.ext⟩)
set_option maxHeartbeats 4000000 in
set_option maxRecDepth 100000 in
theorem lib_slices_IndexFunc___int_int___impl_CutsOk_1_ok (w : World) {p0 : List Int} {a_0 : Option Addr} {n_0 c_0 : Nat} {r : Int} (H : lib_slices_IndexFunc___int_int___impl_CutsOk_1 p0 = some r)  (g0 : (eList (eVal (Value.int .i64) (fun _ => rfl)) 3).rd w [] p0 [.slice a_0 n_0 c_0]) :
    Calls Tryz.prog 238 #[.slice a_0 n_0 c_0, .func (.func 241) #[] #[]] w (fun en w' => en = .returned (.int .i64 r) ∧ Ext [] w w') := by
  obtain rfl := rd_n g0
  unfold lib_slices_IndexFunc___int_int___impl_CutsOk_1 at H
  refine f_enter (vs := [.slice a_0 p0.length c_0, .func (.func 241) #[] #[]]) Tryz.func238 rfl Tryz.ntmps238 rfl (St.init w []) ?_
  refine c_seq ?_
  refine c_reg ?_
  refine ow_batch [.p] rfl ?_
  refine ow_nil ?_
  refine x_qs ?_
  refine c_seq ?_
  refine c_seq ?_
  refine c_reg ?_
  refine ow_batch [.p, .lenS 59 3 sl59, .p] rfl ?_
  refine ow_nil ?_
  refine x_qs ?_
  refine c_block ?_
  refine CW.at (loopI1 (fun (i15 : Int) => St w [] []) (fun (i15 : Int) => [(0, .slice a_0 p0.length c_0), (1, .func (.func 241) #[] #[]), (7, .int .i64 (p0.length : Int)), (8, .int .i64 i15)]) (fun kk => fun (i15 : Int) => lib_slices_IndexFunc___int_int___impl_CutsOk_1_L1 p0 kk i15 = some r) (fun _ H => ?_) (fun k1 ihk1 i15 H => ?_) Fuel (0) (H)) (fun _ h => St.sel [] rfl rfl h) ⟨rfl, rfl, rfl, rfl,  trivial⟩
  · unfold lib_slices_IndexFunc___int_int___impl_CutsOk_1_L1 at H
    exact absurd H (by simp)
  · unfold lib_slices_IndexFunc___int_int___impl_CutsOk_1_L1 at H
    refine c_seq ?_
    refine c_reg ?_
    refine ow_batch [.p] rfl ?_
    refine ow_nil ?_
    refine x_qs ?_
    refine c_seq ?_
    refine c_if rfl (fun hb => ?_) (fun hb => ?_)
    · have H := of_if_t hb H
      refine c_skip ?_
      refine x_qs ?_
      refine c_seq ?_
      refine c_block ?_
      refine c_seq ?_
      refine c_reg ?_
      refine ow_batch [.p, .p] rfl ?_
      refine ow_nil ?_
      refine x_qs ?_
      refine c_seq ?_
      refine c_reg ?_
      refine ow_batch [.p, .p, .p] rfl ?_
      obtain ⟨e21, h22, H⟩ := of_bind H
      refine ow_ixE (e := eVal (Value.int .i64) (fun _ => rfl)) (xs := p0) (j := i15) rfl rfl rfl rfl rfl sl59 ty3 rfl (fun w1 hw1 => rds_bor g0 w1 hw1) h22 (by rw [Nat.mul_one]) ?_
      refine ow_r rfl (dstOk_lt rfl) (ry_load1 rfl rfl ty3 (at_elV (fun w1 hw1 => rds_bor g0 w1 hw1) h22)) ?_
      obtain ⟨y23, h24, H⟩ := of_bind H
      refine ow_q rfl rfl (dstOk_lt rfl) (qy_callV (cap := []) rfl fn241 rfl rfl (fun w1 hw1 => impl_CutsOk_1_ok w1  h24)) (fun _ _ => trivial) ?_
      refine ow_nil ?_
      refine x_qs ?_
      refine c_if rfl (fun hb => ?_) (fun hb => ?_)
      · have H := of_if_t hb H
        refine c_seq ?_
        refine c_reg ?_
        refine ow_batch [.p, .p] rfl ?_
        refine ow_nil ?_
        refine x_qs ?_
        refine c_ret ?_
        refine x_qb_ret ?_
        refine x_qs_ret ?_
        refine x_ql_ret ?_
        refine x_qb_ret ?_
        refine x_qs_ret ?_
        exact x_retR (rs := [.tmp 4]) (vs := [.int .i64 i15]) rfl ⟨rfl, trivial⟩ (fun w' hw' => by
            obtain rfl := of_some H
            exact ⟨rfl, hw'.ext⟩)
      · have H := of_if_f hb H
        refine c_skip ?_
        refine x_qb ?_
        refine x_qs ?_
        refine c_reg ?_
        refine ow_batch [.p, .p] rfl ?_
        refine ow_nil ?_
        exact x_ql (RW.at (ihk1 (IntKind.i64.wrap (i15 + 1)) (H)) (fun _ h => St.sel [] rfl rfl h) ⟨rfl, rfl, rfl, rfl, trivial⟩)
    · have H := of_if_f hb H
      refine c_exit ?_
      refine x_qs_exit ?_
      refine x_ql_exit ?_
      refine x_qb_here ?_
      refine x_qs ?_
      refine c_seq ?_
      refine c_reg ?_
      refine ow_batch [.p] rfl ?_
      refine ow_nil ?_
      refine x_qs ?_
      refine c_ret ?_
      exact x_retR (rs := [.tmp 4]) (vs := [.int .i64 (-1)]) rfl ⟨rfl, trivial⟩ (fun w' hw' => by
          obtain rfl := of_some H
          exact ⟨rfl, hw'.ext⟩)
set_option maxHeartbeats 4000000 in
set_option maxRecDepth 100000 in
theorem lib_slices_ContainsFunc___int_int___impl_CutsOk_1_ok (w : World) {p0 : List Int} {a_0 : Option Addr} {n_0 c_0 : Nat} {r : Bool} (H : lib_slices_ContainsFunc___int_int___impl_CutsOk_1 p0 = some r)  (g0 : (eList (eVal (Value.int .i64) (fun _ => rfl)) 3).rd w [] p0 [.slice a_0 n_0 c_0]) :
    Calls Tryz.prog 188 #[.slice a_0 n_0 c_0, .func (.func 241) #[] #[]] w (fun en w' => en = .returned (.bool r) ∧ Ext [] w w') := by
  obtain rfl := rd_n g0
  unfold lib_slices_ContainsFunc___int_int___impl_CutsOk_1 at H
  refine f_enter (vs := [.slice a_0 p0.length c_0, .func (.func 241) #[] #[]]) Tryz.func188 rfl Tryz.ntmps188 rfl (St.init w []) ?_
  refine c_seq ?_
  refine c_reg ?_
  refine ow_batch [.p] rfl ?_
  refine ow_nil ?_
  refine x_qs ?_
  refine c_seq ?_
  refine c_reg ?_
  refine ow_batch [.p, .p] rfl ?_
  obtain ⟨y10, h11, H⟩ := of_bind H
  refine ow_q rfl rfl (dstOk_lt rfl) (qy_call rfl fn238 rfl (fun w1 hw1 => lib_slices_IndexFunc___int_int___impl_CutsOk_1_ok w1  h11 (rds_bor g0 w1 hw1))) (fun _ _ => trivial) ?_
  refine ow_batch [.p, .p] rfl ?_
  refine ow_nil ?_
  refine x_qs ?_
  refine c_ret ?_
  exact x_retR (rs := [.tmp 4]) (vs := [.bool (decide (y10 ≥ 0))]) rfl ⟨rfl, trivial⟩ (fun w' hw' => by
      obtain rfl := of_some H
      exact ⟨rfl, hw'.ext⟩)
set_option maxHeartbeats 4000000 in
set_option maxRecDepth 100000 in
theorem impl_CutsOk_ok (w : World) {p0 : List Int} {a_0 : Option Addr} {n_0 c_0 : Nat} {r : Bool} (H : impl_CutsOk p0 = some r)  (g0 : (eList (eVal (Value.int .i64) (fun _ => rfl)) 3).rd w [] p0 [.slice a_0 n_0 c_0]) :
    Calls Tryz.prog 210 #[.slice a_0 n_0 c_0] w (fun en w' => en = .returned (.bool r) ∧ Ext [] w w') := by
  obtain rfl := rd_n g0
  unfold impl_CutsOk at H
  refine f_enter (vs := [.slice a_0 p0.length c_0]) Tryz.func210 rfl Tryz.ntmps210 rfl (St.init w []) ?_
  refine c_seq ?_
  refine c_reg ?_
  refine ow_batch [.p] rfl ?_
  refine ow_nil ?_
  refine x_qs ?_
  refine c_seq ?_
  refine c_reg ?_
  refine ow_batch [.p, .lenS 59 3 sl59] rfl ?_
  obtain ⟨y10, h11, H⟩ := of_bind H
  refine ow_q rfl rfl (dstOk_lt rfl) (qy_call rfl fn91 rfl (fun w1 hw1 => impl_within_ok w1  h11)) (fun _ _ => trivial) ?_
  refine ow_batch [.p] rfl ?_
  obtain ⟨u12, hu16, H⟩ := of_bind H
  refine ow_cut [(9, .bool u12), (0, .slice a_0 p0.length c_0), (2, .bool false)] 3 ?_ (fun key => OW.sub (R := [(0, .slice a_0 p0.length c_0), (2, .bool false), (6, .bool y10)]) ?_ ⟨rfl, rfl, rfl, trivial⟩)
  · refine ow_batch [.p] rfl ?_
    obtain ⟨u17, hu21, H⟩ := of_bind H
    refine ow_cut [(14, .bool u17), (2, .bool false)] 4 ?_ (fun key => OW.sub (R := [(0, .slice a_0 p0.length c_0), (2, .bool false), (10, .bool u12)]) ?_ ⟨rfl, rfl, rfl, trivial⟩)
    · refine ow_batch [.p] rfl ?_
      refine ow_nil ?_
      refine x_qs ?_
      refine c_ret ?_
      exact x_retR (rs := [.tmp 2]) (vs := [.bool u17]) rfl ⟨rfl, trivial⟩ (fun w' hw' => by
          obtain rfl := of_some H
          exact ⟨rfl, hw'.ext⟩)
    · clear H
      have H := hu21
      clear hu21
      generalize u12 = t20 at H key ⊢
      cases t20
      · have H := of_if_f rfl H
        refine ow_batch [.p, .p, .p, .p] rfl ?_
        obtain rfl := of_some H
        exact OW.sub key ⟨rfl, rfl, trivial⟩
      · have H := of_if_t rfl H
        refine ow_batch [.p] rfl ?_
        obtain ⟨y18, h19, H⟩ := of_bind H
        refine ow_q rfl rfl (dstOk_lt rfl) (qy_call rfl fn188 rfl (fun w1 hw1 => lib_slices_ContainsFunc___int_int___impl_CutsOk_1_ok w1  h19 (rds_bor g0 w1 hw1))) (fun _ _ => trivial) ?_
        refine ow_batch [.p] rfl ?_
        refine ow_batch [.p] rfl ?_
        obtain rfl := of_some H
        exact OW.sub key ⟨rfl, rfl, trivial⟩
  · clear H
    have H := hu16
    clear hu16
    generalize y10 = t15 at H key ⊢
    cases t15
    · have H := of_if_f rfl H
      refine ow_batch [.p, .p, .p] rfl ?_
      obtain rfl := of_some H
      exact OW.sub key ⟨rfl, rfl, rfl, trivial⟩
    · have H := of_if_t rfl H
      refine ow_batch [.p] rfl ?_
      obtain ⟨y13, h14, H⟩ := of_bind H
      refine ow_q rfl rfl (dstOk_lt rfl) (qy_call rfl fn207 rfl (fun w1 hw1 => impl_ascending_ok w1  h14 (rds_bor g0 w1 hw1))) (fun _ _ => trivial) ?_
      refine ow_batch [.p] rfl ?_
      obtain rfl := of_some H
      exact OW.sub key ⟨rfl, rfl, rfl, trivial⟩
set_option maxHeartbeats 4000000 in
set_option maxRecDepth 100000 in
theorem impl_AttrOk_ok (w : World) {p0 : Timpl_Attr} {cs0 : List Value} {r : Bool} (H : impl_AttrOk p0 = some r)  (g0 : (eTimpl_Attr).rd w [] p0 cs0) :
    Calls Tryz.prog 137 #[.agg cs0.toArray] w (fun en w' => en = .returned (.bool r) ∧ Ext [] w w') := by
  obtain ⟨c10, c11, c12, rfl, g13, g14, g15⟩ := rdo_Timpl_Attr g0
  obtain rfl : c10 = [vS p0.Name_] := g13
  obtain ⟨a16, c17, rfl⟩ := rd_sl1 g14
  obtain ⟨a18, c19, rfl⟩ := rd_sl1 g15
  unfold impl_AttrOk at H
  refine f_enter (vs := [.agg #[vS p0.Name_, .slice a16 p0.Cuts_.length c17, .slice a18 p0.Values_.length c19]]) Tryz.func137 rfl Tryz.ntmps137 rfl (St.init w []) ?_
  refine c_seq ?_
  refine c_reg ?_
  refine ow_box (cs := [vS p0.Name_, .slice a16 p0.Cuts_.length c17, .slice a18 p0.Values_.length c19]) rfl rfl rfl rfl rfl rfl (fun _ => kp) (fun b20 => ?_)
  refine ow_batch [.p] rfl ?_
  refine ow_nil ?_
  refine x_qs ?_
  refine c_seq ?_
  refine c_seq ?_
  refine c_reg ?_
  refine ow_batch [.fa 114 0 0 fa114_0] rfl ?_
  refine ow_r rfl (dstOk_lt rfl) (ry_box1 (off := 0) rfl rfl ty9 (boxIn (i := 0) rfl) rfl) ?_
  obtain ⟨y21, h22, H⟩ := of_bind H
  refine ow_q rfl rfl (dstOk_lt rfl) (qy_call rfl fn209 rfl (fun w1 hw1 => impl_WordOk_ok w1  h22)) (fun _ _ => trivial) ?_
  refine ow_batch [.p] rfl ?_
  refine ow_nil ?_
  refine x_qs ?_
  refine c_if rfl (fun hb => ?_) (fun hb => ?_)
  · have H := of_if_t hb H
    refine c_seq ?_
    refine c_reg ?_
    refine ow_batch [.p] rfl ?_
    refine ow_nil ?_
    refine x_qs ?_
    refine c_ret ?_
    refine x_qs_ret ?_
    exact x_retR (rs := [.tmp 2]) (vs := [.bool false]) rfl ⟨rfl, trivial⟩ (fun w' hw' => by
        obtain rfl := of_some H
        exact ⟨rfl, hw'.ext⟩)
  · have H := of_if_f hb H
    refine c_skip ?_
    refine x_qs ?_
    refine c_seq ?_
    refine c_seq ?_
    refine c_reg ?_
    refine ow_batch [.fa 114 1 1 fa114_1] rfl ?_
    refine ow_r rfl (dstOk_lt rfl) (ry_box1 (off := 1) rfl rfl ty59 (boxIn (i := 0) rfl) rfl) ?_
    refine ow_batch [.lenS 59 3 sl59, .p] rfl ?_
    refine ow_nil ?_
    refine x_qs ?_
    refine c_if rfl (fun hb => ?_) (fun hb => ?_)
    · have H := of_if_t hb H
      refine c_seq ?_
      refine c_reg ?_
      refine ow_batch [.fa 114 2 2 fa114_2] rfl ?_
      refine ow_r rfl (dstOk_lt rfl) (ry_box1 (off := 2) rfl rfl ty23 (boxIn (i := 0) rfl) rfl) ?_
      refine ow_batch [.lenS 23 9 sl23] rfl ?_
      obtain ⟨y23, h24, H⟩ := of_bind H
      refine ow_q rfl rfl (dstOk_lt rfl) (qy_call rfl fn91 rfl (fun w1 hw1 => impl_within_ok w1  h24)) (fun _ _ => trivial) ?_
      refine ow_batch [.p] rfl ?_
      obtain ⟨u25, hu29, H⟩ := of_bind H
      refine ow_cut [(19, .bool u25), (2, .bool false)] 4 ?_ (fun key => OW.sub (R := [(1, .pointer (some ⟨b20, 0, none⟩)), (2, .bool false), (15, .bool y23)]) ?_ ⟨rfl, rfl, rfl, trivial⟩)
      · refine ow_batch [.p] rfl ?_
        refine ow_nil ?_
        refine x_qs ?_
        refine c_ret ?_
        refine x_qs_ret ?_
        exact x_retR (rs := [.tmp 2]) (vs := [.bool u25]) rfl ⟨rfl, trivial⟩ (fun w' hw' => by
            obtain rfl := of_some H
            exact ⟨rfl, hw'.ext⟩)
      · clear H
        have H := hu29
        clear hu29
        generalize y23 = t28 at H key ⊢
        cases t28
        · have H := of_if_f rfl H
          refine ow_batch [.p, .p, .p, .p] rfl ?_
          obtain rfl := of_some H
          exact OW.sub key ⟨rfl, rfl, trivial⟩
        · have H := of_if_t rfl H
          refine ow_batch [.fa 114 2 2 fa114_2] rfl ?_
          refine ow_r rfl (dstOk_lt rfl) (ry_box1 (off := 2) rfl rfl ty23 (boxIn (i := 0) rfl) rfl) ?_
          obtain ⟨y26, h27, H⟩ := of_bind H
          refine ow_q rfl rfl (dstOk_lt rfl) (qy_call rfl fn202 rfl (fun w1 hw1 => impl_distinctWords_ok w1  h27 (rds_bor g15 w1 hw1))) (fun _ _ => trivial) ?_
          refine ow_batch [.p] rfl ?_
          obtain rfl := of_some H
          exact OW.sub key ⟨rfl, rfl, trivial⟩
    · have H := of_if_f hb H
      refine c_skip ?_
      refine x_qs ?_
      refine c_seq ?_
      refine c_reg ?_
      refine ow_batch [.fa 114 2 2 fa114_2] rfl ?_
      refine ow_r rfl (dstOk_lt rfl) (ry_box1 (off := 2) rfl rfl ty23 (boxIn (i := 0) rfl) rfl) ?_
      refine ow_batch [.lenS 23 9 sl23, .p, .p] rfl ?_
      obtain ⟨u30, hu34, H⟩ := of_bind H
      refine ow_cut [(28, .bool u30), (2, .bool false)] 4 ?_ (fun key => OW.sub (R := [(1, .pointer (some ⟨b20, 0, none⟩)), (2, .bool false), (24, .bool ((p0.Values_.length : Int) == 0))]) ?_ ⟨rfl, rfl, rfl, trivial⟩)
      · refine ow_batch [.p] rfl ?_
        refine ow_nil ?_
        refine x_qs ?_
        refine c_ret ?_
        exact x_retR (rs := [.tmp 2]) (vs := [.bool u30]) rfl ⟨rfl, trivial⟩ (fun w' hw' => by
            obtain rfl := of_some H
            exact ⟨rfl, hw'.ext⟩)
      · clear H
        have H := hu34
        clear hu34
        generalize ((p0.Values_.length : Int) == 0) = t33 at H key ⊢
        cases t33
        · have H := of_if_f rfl H
          refine ow_batch [.p, .p, .p, .p] rfl ?_
          obtain rfl := of_some H
          exact OW.sub key ⟨rfl, rfl, trivial⟩
        · have H := of_if_t rfl H
          refine ow_batch [.fa 114 1 1 fa114_1] rfl ?_
          refine ow_r rfl (dstOk_lt rfl) (ry_box1 (off := 1) rfl rfl ty59 (boxIn (i := 0) rfl) rfl) ?_
          obtain ⟨y31, h32, H⟩ := of_bind H
          refine ow_q rfl rfl (dstOk_lt rfl) (qy_call rfl fn210 rfl (fun w1 hw1 => impl_CutsOk_ok w1  h32 (rds_bor g14 w1 hw1))) (fun _ _ => trivial) ?_
          refine ow_batch [.p] rfl ?_
          obtain rfl := of_some H
          exact OW.sub key ⟨rfl, rfl, trivial⟩
set_option maxHeartbeats 4000000 in
set_option maxRecDepth 100000 in
theorem impl_SchemaOk_ok (w : World) {p0 : Timpl_Schema} {cs0 : List Value} {r : Bool} (H : impl_SchemaOk p0 = some r)  (g0 : (eTimpl_Schema).rd w [] p0 cs0) :
    Calls Tryz.prog 132 #[.agg cs0.toArray] w (fun en w' => en = .returned (.bool r) ∧ Ext [] w w') := by
  obtain ⟨c10, c11, rfl, g12, g13⟩ := rdo_Timpl_Schema g0
  obtain ⟨a14, c15, rfl⟩ := rd_sl1 g12
  obtain ⟨a16, c17, rfl⟩ := rd_sl1 g13
  unfold impl_SchemaOk at H
  refine f_enter (vs := [.agg #[.slice a14 p0.Attrs_.length c15, .slice a16 p0.Classes_.length c17]]) Tryz.func132 rfl Tryz.ntmps132 rfl (St.init w []) ?_
  refine c_seq ?_
  refine c_reg ?_
  refine ow_box (cs := [.slice a14 p0.Attrs_.length c15, .slice a16 p0.Classes_.length c17]) rfl rfl rfl rfl rfl rfl (fun _ => kp) (fun b18 => ?_)
  refine ow_batch [.p] rfl ?_
  refine ow_nil ?_
  refine x_qs ?_
  refine c_seq ?_
  refine c_seq ?_
  refine c_reg ?_
  refine ow_batch [.fa 35 0 0 fa35_0] rfl ?_
  refine ow_r rfl (dstOk_lt rfl) (ry_box1 (off := 0) rfl rfl ty33 (boxIn (i := 0) rfl) rfl) ?_
  refine ow_batch [.lenS 33 114 sl33] rfl ?_
  obtain ⟨y19, h20, H⟩ := of_bind H
  refine ow_q rfl rfl (dstOk_lt rfl) (qy_call rfl fn91 rfl (fun w1 hw1 => impl_within_ok w1  h20)) (fun _ _ => trivial) ?_
  refine ow_batch [.p, .p] rfl ?_
  obtain ⟨u21, hu25, H⟩ := of_bind H
  refine ow_cut [(17, .bool u21), (1, .pointer (some ⟨b18, 0, none⟩))] 6 ?_ (fun key => OW.sub (R := [(1, .pointer (some ⟨b18, 0, none⟩)), (11, .bool (!y19))]) ?_ ⟨rfl, rfl, trivial⟩)
  · refine ow_batch [.p] rfl ?_
    obtain ⟨u26, hu30, H⟩ := of_bind H
    refine ow_cut [(23, .bool u26), (1, .pointer (some ⟨b18, 0, none⟩))] 5 ?_ (fun key => OW.sub (R := [(1, .pointer (some ⟨b18, 0, none⟩)), (18, .bool u21)]) ?_ ⟨rfl, rfl, trivial⟩)
    · refine ow_nil ?_
      refine x_qs ?_
      refine c_if rfl (fun hb => ?_) (fun hb => ?_)
      · have H := of_if_t hb H
        refine c_seq ?_
        refine c_reg ?_
        refine ow_batch [.p] rfl ?_
        refine ow_nil ?_
        refine x_qs ?_
        refine c_ret ?_
        refine x_qs_ret ?_
        exact x_retR (rs := [.tmp 2]) (vs := [.bool false]) rfl ⟨rfl, trivial⟩ (fun w' hw' => by
            obtain rfl := of_some H
            exact ⟨rfl, hw'.ext⟩)
      · have H := of_if_f hb H
        refine c_skip ?_
        refine x_qs ?_
        refine c_seq ?_
        refine c_reg ?_
        refine ow_blit0 (e := eStr) rfl rfl rfl rfl sl23 ty9 (fun _ => kp) (fun b31 => ?_)
        refine ow_batch [.p] rfl ?_
        refine ow_nil ?_
        refine x_qs ?_
        refine c_seq ?_
        refine c_seq ?_
        refine c_reg ?_
        refine ow_batch [.fa 35 0 0 fa35_0] rfl ?_
        refine ow_r rfl (dstOk_lt rfl) (ry_box1 (off := 0) rfl rfl ty33 (boxIn (i := 0) rfl) rfl) ?_
        refine ow_batch [.lenS 33 114 sl33, .p] rfl ?_
        refine ow_nil ?_
        refine x_qs ?_
        refine c_block ?_
        refine CW.at (loopI5 (fun (i65 : Int) (l66 : List (List UInt8)) (a67 : Option Addr) (c68 : Nat) (F69 : List Nat) => St w [] [Res.own (eList (eStr) 9) F69 l66 [.slice a67 l66.length c68]]) (fun (i65 : Int) (l66 : List (List UInt8)) (a67 : Option Addr) (c68 : Nat) (F69 : List Nat) => [(3, .slice a67 l66.length c68), (26, .slice a14 p0.Attrs_.length c15), (27, .int .i64 (p0.Attrs_.length : Int)), (28, .int .i64 i65)]) (fun kk => fun (i65 : Int) (l66 : List (List UInt8)) (a67 : Option Addr) (c68 : Nat) (F69 : List Nat) => a67.isNone = false ∧ impl_SchemaOk_L1 p0 kk i65 l66 = some r) (fun _ _ _ _ _ H => ?_) (fun k1 ihk1 i65 l66 a67 c68 F69 ⟨hz70, H⟩ => ?_) Fuel (0) (([] : List (List UInt8))) ((some ⟨b31, 0, none⟩)) (0) ([b31]) (⟨rfl, H⟩)) (fun _ h => St.sel [1] rfl rfl h) ⟨rfl, rfl, rfl, rfl,  trivial⟩
        · unfold impl_SchemaOk_L1 at H
          exact absurd H (by simp)
        · unfold impl_SchemaOk_L1 at H
          refine c_seq ?_
          refine c_reg ?_
          refine ow_batch [.p] rfl ?_
          refine ow_nil ?_
          refine x_qs ?_
          refine c_seq ?_
          refine c_if rfl (fun hb => ?_) (fun hb => ?_)
          · have H := of_if_t hb H
            refine c_skip ?_
            refine x_qs ?_
            refine c_seq ?_
            refine c_block ?_
            refine c_seq ?_
            refine c_reg ?_
            obtain ⟨e103, h104, H⟩ := of_bind H
            refine ow_ixB rfl rfl rfl rfl rfl sl33 ty114 rfl g12 h104 (fun q107 c108 hd105 hA106 => ?_)
            obtain ⟨c109, c110, c111, rfl, g112, g113, g114⟩ := rdo_Timpl_Attr hd105
            obtain rfl : c109 = [vS e103.Name_] := g112
            obtain ⟨a115, c116, rfl⟩ := rd_sl1 g113
            obtain ⟨a117, c118, rfl⟩ := rd_sl1 g114
            refine ow_r rfl (dstOk_lt rfl) (ry_load (cs := [vS e103.Name_, .slice a115 e103.Cuts_.length c116, .slice a117 e103.Values_.length c118]) rfl rfl ty114 (at_bor bor hA106) rfl) ?_
            refine ow_alloc rfl rfl rfl rfl ty114 (fun _ => kp) (fun b119 => ?_)
            refine ow_storeC (off := 0) [vS e103.Name_, .slice a115 e103.Cuts_.length c116, .slice a117 e103.Values_.length c118] [_, _, _] (i := 1) rfl rfl rfl rfl rfl rfl ty114 rfl rfl (by intro u hu; simp only [List.mem_cons, List.not_mem_nil, or_false] at hu; rcases hu with rfl | rfl | rfl <;> rfl) rfl rfl rfl kp ?_
            refine ow_nil ?_
            refine x_qs ?_
            refine c_seq ?_
            refine c_seq ?_
            refine c_reg ?_
            refine ow_r rfl (dstOk_lt rfl) (ry_box (off := 0) (ds := [vS e103.Name_, .slice a115 e103.Cuts_.length c116, .slice a117 e103.Values_.length c118]) rfl rfl ty114 (boxIn (i := 1) rfl) rfl rfl) ?_
            obtain ⟨y120, h121, H⟩ := of_bind H
            refine ow_q rfl rfl (dstOk_lt rfl) (qy_call rfl fn137 rfl (fun w1 hw1 => impl_AttrOk_ok w1 (cs0 := [vS e103.Name_, .slice a115 e103.Cuts_.length c116, .slice a117 e103.Values_.length c118]) h121 (rdm_Timpl_Attr (x := e103) (c0 := [vS e103.Name_]) (c1 := [.slice a115 e103.Cuts_.length c116]) (c2 := [.slice a117 e103.Values_.length c118]) rfl (rds_bor g113 w1 hw1) (rds_bor g114 w1 hw1)))) (fun _ _ => trivial) ?_
            refine ow_batch [.p] rfl ?_
            refine ow_nil ?_
            refine x_qs ?_
            refine c_if rfl (fun hb => ?_) (fun hb => ?_)
            · have H := of_if_t hb H
              refine c_seq ?_
              refine c_reg ?_
              refine ow_batch [.p] rfl ?_
              refine ow_nil ?_
              refine x_qs ?_
              refine c_ret ?_
              refine x_qs_ret ?_
              refine x_qb_ret ?_
              refine x_qs_ret ?_
              refine x_ql_ret ?_
              refine x_qb_ret ?_
              refine x_qs_ret ?_
              exact x_retR (rs := [.tmp 2]) (vs := [.bool false]) rfl ⟨rfl, trivial⟩ (fun w' hw' => by
                  obtain rfl := of_some H
                  exact ⟨rfl, hw'.ext⟩)
            · have H := of_if_f hb H
              refine c_skip ?_
              refine x_qs ?_
              refine c_reg ?_
              refine ow_batch [.p, .fa 114 0 0 fa114_0] rfl ?_
              refine ow_r rfl (dstOk_lt rfl) (ry_box1 (off := 0) rfl rfl ty9 (boxIn (i := 1) rfl) rfl) ?_
              refine ow_blit (val := vS) (h1 := fun _ => rfl) [e103.Name_] [(0, [vS e103.Name_])] rfl rfl rfl rfl rfl sl23 ty9 rfl rfl rfl ⟨rfl, rfl, Nat.le_of_ble_eq_true rfl,  trivial⟩ rfl rfl (fun _ => kp) (fun b122 => ?_)
              obtain ⟨l123, h124, H⟩ := of_bind H
              refine ow_appR (r := 0) (ys := ([e103.Name_] : List (List UInt8))) rfl rfl rfl rfl rfl rfl sl23 ty9 rfl rfl rfl (fun w1 hw1 => rds_own (e := eList (eStr) 9) (r := 2) rfl w1 hw1) h124 (fun _ _ _ => kp) (fun a125 c126 F127 => ?_)
              refine ow_fact rfl (fun w1 hw1 => own_nn (i := 0) hw1 rfl (app_ne h124)) (fun hz128 => ?_)
              refine ow_batch [.p] rfl ?_
              refine ow_nil ?_
              refine x_qb ?_
              refine x_qs ?_
              refine c_reg ?_
              refine ow_batch [.p, .p] rfl ?_
              refine ow_nil ?_
              exact x_ql (RW.at (ihk1 (IntKind.i64.wrap (i65 + 1)) (l123) (a125) (c126) (F127) (⟨hz128, H⟩)) (fun _ h => St.sel [0] rfl rfl h) ⟨rfl, rfl, rfl, rfl, trivial⟩)
          · have H := of_if_f hb H
            refine c_exit ?_
            refine x_qs_exit ?_
            refine x_ql_exit ?_
            refine x_qb_here ?_
            refine x_qs ?_
            refine c_seq ?_
            refine c_reg ?_
            refine ow_batch [.p] rfl ?_
            obtain ⟨y129, h130, H⟩ := of_bind H
            refine ow_q rfl rfl (dstOk_lt rfl) (qy_call rfl fn202 rfl (fun w1 hw1 => impl_distinctWords_ok w1  h130 (rds_own (e := eList (eStr) 9) (r := 0) rfl w1 hw1))) (fun _ _ => trivial) ?_
            refine ow_batch [.p] rfl ?_
            refine ow_nil ?_
            refine x_qs ?_
            refine c_ret ?_
            exact x_retR (rs := [.tmp 2]) (vs := [.bool y129]) rfl ⟨rfl, trivial⟩ (fun w' hw' => by
                obtain rfl := of_some H
                exact ⟨rfl, hw'.ext⟩)
    · clear H
      have H := hu30
      clear hu30
      generalize u21 = t29 at H key ⊢
      cases t29
      · have H := of_if_f rfl H
        refine ow_batch [.fa 35 1 1 fa35_1] rfl ?_
        refine ow_r rfl (dstOk_lt rfl) (ry_box1 (off := 1) rfl rfl ty23 (boxIn (i := 0) rfl) rfl) ?_
        obtain ⟨y27, h28, H⟩ := of_bind H
        refine ow_q rfl rfl (dstOk_lt rfl) (qy_call rfl fn202 rfl (fun w1 hw1 => impl_distinctWords_ok w1  h28 (rds_bor g13 w1 hw1))) (fun _ _ => trivial) ?_
        refine ow_batch [.p] rfl ?_
        refine ow_batch [.p] rfl ?_
        obtain rfl := of_some H
        exact OW.sub key ⟨rfl, rfl, trivial⟩
      · have H := of_if_t rfl H
        refine ow_batch [.p, .p, .p, .p, .p] rfl ?_
        obtain rfl := of_some H
        exact OW.sub key ⟨rfl, rfl, trivial⟩
  · clear H
    have H := hu25
    clear hu25
    generalize (!y19) = t24 at H key ⊢
    cases t24
    · have H := of_if_f rfl H
      refine ow_batch [.fa 35 1 1 fa35_1] rfl ?_
      refine ow_r rfl (dstOk_lt rfl) (ry_box1 (off := 1) rfl rfl ty23 (boxIn (i := 0) rfl) rfl) ?_
      refine ow_batch [.lenS 23 9 sl23] rfl ?_
      obtain ⟨y22, h23, H⟩ := of_bind H
      refine ow_q rfl rfl (dstOk_lt rfl) (qy_call rfl fn91 rfl (fun w1 hw1 => impl_within_ok w1  h23)) (fun _ _ => trivial) ?_
      refine ow_batch [.p] rfl ?_
      refine ow_batch [.p] rfl ?_
      obtain rfl := of_some H
      exact OW.sub key ⟨rfl, rfl, trivial⟩
    · have H := of_if_t rfl H
      refine ow_batch [.p, .p, .p, .p, .p, .p] rfl ?_
      obtain rfl := of_some H
      exact OW.sub key ⟨rfl, rfl, trivial⟩
set_option maxHeartbeats 4000000 in
set_option maxRecDepth 100000 in
theorem impl_weights_1_ok (w : World) {p0 : Int}  {r : Bool} (H : impl_weights_1 p0 = some r)   :
    Calls Tryz.prog 260 #[.int .i64 p0] w (fun en w' => en = .returned (.bool r) ∧ Ext [] w w') := by
  unfold impl_weights_1 at H
  refine f_enter (vs := [.int .i64 p0]) Tryz.func260 rfl Tryz.ntmps260 rfl (St.init w []) ?_
  refine c_seq ?_
  refine c_reg ?_
  refine ow_batch [.p] rfl ?_
  refine ow_nil ?_
  refine x_qs ?_
  refine c_seq ?_
  refine c_reg ?_
  refine ow_batch [.p] rfl ?_
  obtain ⟨y10, h11, H⟩ := of_bind H
  refine ow_q rfl rfl (dstOk_lt rfl) (qy_call rfl fn91 rfl (fun w1 hw1 => impl_within_ok w1  h11)) (fun _ _ => trivial) ?_
  refine ow_batch [.p, .p] rfl ?_
  refine ow_nil ?_
  refine x_qs ?_
  refine c_ret ?_
  exact x_retR (rs := [.tmp 2]) (vs := [.bool (!y10)]) rfl ⟨rfl, trivial⟩ (fun w' hw' => by
      obtain rfl := of_some H
      exact ⟨rfl, hw'.ext⟩)
set_option maxHeartbeats 4000000 in
set_option maxRecDepth 100000 in
theorem lib_slices_IndexFunc___int_int___impl_weights_1_ok (w : World) {p0 : List Int} {a_0 : Option Addr} {n_0 c_0 : Nat} {r : Int} (H : lib_slices_IndexFunc___int_int___impl_weights_1 p0 = some r)  (g0 : (eList (eVal (Value.int .i64) (fun _ => rfl)) 3).rd w [] p0 [.slice a_0 n_0 c_0]) :
    Calls Tryz.prog 238 #[.slice a_0 n_0 c_0, .func (.func 260) #[] #[]] w (fun en w' => en = .returned (.int .i64 r) ∧ Ext [] w w') := by
  obtain rfl := rd_n g0
  unfold lib_slices_IndexFunc___int_int___impl_weights_1 at H
  refine f_enter (vs := [.slice a_0 p0.length c_0, .func (.func 260) #[] #[]]) Tryz.func238 rfl Tryz.ntmps238 rfl (St.init w []) ?_
  refine c_seq ?_
  refine c_reg ?_
  refine ow_batch [.p] rfl ?_
  refine ow_nil ?_
  refine x_qs ?_
  refine c_seq ?_
  refine c_seq ?_
  refine c_reg ?_
  refine ow_batch [.p, .lenS 59 3 sl59, .p] rfl ?_
  refine ow_nil ?_
  refine x_qs ?_
  refine c_block ?_
  refine CW.at (loopI1 (fun (i15 : Int) => St w [] []) (fun (i15 : Int) => [(0, .slice a_0 p0.length c_0), (1, .func (.func 260) #[] #[]), (7, .int .i64 (p0.length : Int)), (8, .int .i64 i15)]) (fun kk => fun (i15 : Int) => lib_slices_IndexFunc___int_int___impl_weights_1_L1 p0 kk i15 = some r) (fun _ H => ?_) (fun k1 ihk1 i15 H => ?_) Fuel (0) (H)) (fun _ h => St.sel [] rfl rfl h) ⟨rfl, rfl, rfl, rfl,  trivial⟩
  · unfold lib_slices_IndexFunc___int_int___impl_weights_1_L1 at H
    exact absurd H (by simp)
  · unfold lib_slices_IndexFunc___int_int___impl_weights_1_L1 at H
    refine c_seq ?_
    refine c_reg ?_
    refine ow_batch [.p] rfl ?_
    refine ow_nil ?_
    refine x_qs ?_
    refine c_seq ?_
    refine c_if rfl (fun hb => ?_) (fun hb => ?_)
    · have H := of_if_t hb H
      refine c_skip ?_
      refine x_qs ?_
      refine c_seq ?_
      refine c_block ?_
      refine c_seq ?_
      refine c_reg ?_
      refine ow_batch [.p, .p] rfl ?_
      refine ow_nil ?_
      refine x_qs ?_
      refine c_seq ?_
      refine c_reg ?_
      refine ow_batch [.p, .p, .p] rfl ?_
      obtain ⟨e21, h22, H⟩ := of_bind H
      refine ow_ixE (e := eVal (Value.int .i64) (fun _ => rfl)) (xs := p0) (j := i15) rfl rfl rfl rfl rfl sl59 ty3 rfl (fun w1 hw1 => rds_bor g0 w1 hw1) h22 (by rw [Nat.mul_one]) ?_
      refine ow_r rfl (dstOk_lt rfl) (ry_load1 rfl rfl ty3 (at_elV (fun w1 hw1 => rds_bor g0 w1 hw1) h22)) ?_
      obtain ⟨y23, h24, H⟩ := of_bind H
      refine ow_q rfl rfl (dstOk_lt rfl) (qy_callV (cap := []) rfl fn260 rfl rfl (fun w1 hw1 => impl_weights_1_ok w1  h24)) (fun _ _ => trivial) ?_
      refine ow_nil ?_
      refine x_qs ?_
      refine c_if rfl (fun hb => ?_) (fun hb => ?_)
      · have H := of_if_t hb H
        refine c_seq ?_
        refine c_reg ?_
        refine ow_batch [.p, .p] rfl ?_
        refine ow_nil ?_
        refine x_qs ?_
        refine c_ret ?_
        refine x_qb_ret ?_
        refine x_qs_ret ?_
        refine x_ql_ret ?_
        refine x_qb_ret ?_
        refine x_qs_ret ?_
        exact x_retR (rs := [.tmp 4]) (vs := [.int .i64 i15]) rfl ⟨rfl, trivial⟩ (fun w' hw' => by
            obtain rfl := of_some H
            exact ⟨rfl, hw'.ext⟩)
      · have H := of_if_f hb H
        refine c_skip ?_
        refine x_qb ?_
        refine x_qs ?_
        refine c_reg ?_
        refine ow_batch [.p, .p] rfl ?_
        refine ow_nil ?_
        exact x_ql (RW.at (ihk1 (IntKind.i64.wrap (i15 + 1)) (H)) (fun _ h => St.sel [] rfl rfl h) ⟨rfl, rfl, rfl, rfl, trivial⟩)
    · have H := of_if_f hb H
      refine c_exit ?_
      refine x_qs_exit ?_
      refine x_ql_exit ?_
      refine x_qb_here ?_
      refine x_qs ?_
      refine c_seq ?_
      refine c_reg ?_
      refine ow_batch [.p] rfl ?_
      refine ow_nil ?_
      refine x_qs ?_
      refine c_ret ?_
      exact x_retR (rs := [.tmp 4]) (vs := [.int .i64 (-1)]) rfl ⟨rfl, trivial⟩ (fun w' hw' => by
          obtain rfl := of_some H
          exact ⟨rfl, hw'.ext⟩)
set_option maxHeartbeats 4000000 in
set_option maxRecDepth 100000 in
theorem lib_slices_ContainsFunc___int_int___impl_weights_1_ok (w : World) {p0 : List Int} {a_0 : Option Addr} {n_0 c_0 : Nat} {r : Bool} (H : lib_slices_ContainsFunc___int_int___impl_weights_1 p0 = some r)  (g0 : (eList (eVal (Value.int .i64) (fun _ => rfl)) 3).rd w [] p0 [.slice a_0 n_0 c_0]) :
    Calls Tryz.prog 188 #[.slice a_0 n_0 c_0, .func (.func 260) #[] #[]] w (fun en w' => en = .returned (.bool r) ∧ Ext [] w w') := by
  obtain rfl := rd_n g0
  unfold lib_slices_ContainsFunc___int_int___impl_weights_1 at H
  refine f_enter (vs := [.slice a_0 p0.length c_0, .func (.func 260) #[] #[]]) Tryz.func188 rfl Tryz.ntmps188 rfl (St.init w []) ?_
  refine c_seq ?_
  refine c_reg ?_
  refine ow_batch [.p] rfl ?_
  refine ow_nil ?_
  refine x_qs ?_
  refine c_seq ?_
  refine c_reg ?_
  refine ow_batch [.p, .p] rfl ?_
  obtain ⟨y10, h11, H⟩ := of_bind H
  refine ow_q rfl rfl (dstOk_lt rfl) (qy_call rfl fn238 rfl (fun w1 hw1 => lib_slices_IndexFunc___int_int___impl_weights_1_ok w1  h11 (rds_bor g0 w1 hw1))) (fun _ _ => trivial) ?_
  refine ow_batch [.p, .p] rfl ?_
  refine ow_nil ?_
  refine x_qs ?_
  refine c_ret ?_
  exact x_retR (rs := [.tmp 4]) (vs := [.bool (decide (y10 ≥ 0))]) rfl ⟨rfl, trivial⟩ (fun w' hw' => by
      obtain rfl := of_some H
      exact ⟨rfl, hw'.ext⟩)
set_option maxHeartbeats 4000000 in
set_option maxRecDepth 100000 in
theorem impl_weights_ok (w : World) {p0 : List Int} {p1 : Int} {a_0 : Option Addr} {n_0 c_0 : Nat} {r : Bool} (H : impl_weights p0 p1 = some r)  (g0 : (eList (eVal (Value.int .i64) (fun _ => rfl)) 3).rd w [] p0 [.slice a_0 n_0 c_0]) :
    Calls Tryz.prog 240 #[.slice a_0 n_0 c_0, .int .i64 p1] w (fun en w' => en = .returned (.bool r) ∧ Ext [] w w') := by
  obtain rfl := rd_n g0
  unfold impl_weights at H
  refine f_enter (vs := [.slice a_0 p0.length c_0, .int .i64 p1]) Tryz.func240 rfl Tryz.ntmps240 rfl (St.init w []) ?_
  refine c_seq ?_
  refine c_reg ?_
  refine ow_batch [.p] rfl ?_
  refine ow_nil ?_
  refine x_qs ?_
  refine c_seq ?_
  refine c_reg ?_
  refine ow_batch [.p, .lenS 59 3 sl59, .p, .p, .p] rfl ?_
  obtain ⟨u10, hu14, H⟩ := of_bind H
  refine ow_cut [(13, .bool u10), (4, .bool false)] 4 ?_ (fun key => OW.sub (R := [(0, .slice a_0 p0.length c_0), (4, .bool false), (9, .bool ((p0.length : Int) == p1))]) ?_ ⟨rfl, rfl, rfl, trivial⟩)
  · refine ow_batch [.p] rfl ?_
    refine ow_nil ?_
    refine x_qs ?_
    refine c_ret ?_
    exact x_retR (rs := [.tmp 4]) (vs := [.bool u10]) rfl ⟨rfl, trivial⟩ (fun w' hw' => by
        obtain rfl := of_some H
        exact ⟨rfl, hw'.ext⟩)
  · clear H
    have H := hu14
    clear hu14
    generalize ((p0.length : Int) == p1) = t13 at H key ⊢
    cases t13
    · have H := of_if_f rfl H
      refine ow_batch [.p, .p, .p, .p] rfl ?_
      obtain rfl := of_some H
      exact OW.sub key ⟨rfl, rfl, trivial⟩
    · have H := of_if_t rfl H
      refine ow_batch [.p] rfl ?_
      obtain ⟨y11, h12, H⟩ := of_bind H
      refine ow_q rfl rfl (dstOk_lt rfl) (qy_call rfl fn188 rfl (fun w1 hw1 => lib_slices_ContainsFunc___int_int___impl_weights_1_ok w1  h12 (rds_bor g0 w1 hw1))) (fun _ _ => trivial) ?_
      refine ow_batch [.p] rfl ?_
      refine ow_batch [.p] rfl ?_
      obtain rfl := of_some H
      exact OW.sub key ⟨rfl, rfl, trivial⟩
set_option maxHeartbeats 4000000 in
set_option maxRecDepth 100000 in
theorem impl_total_ok (w : World) {p0 : List Int} {a_0 : Option Addr} {n_0 c_0 : Nat} {r : Int} (H : impl_total p0 = some r)  (g0 : (eList (eVal (Value.int .i64) (fun _ => rfl)) 3).rd w [] p0 [.slice a_0 n_0 c_0]) :
    Calls Tryz.prog 205 #[.slice a_0 n_0 c_0] w (fun en w' => en = .returned (.int .i64 r) ∧ Ext [] w w') := by
  obtain rfl := rd_n g0
  unfold impl_total at H
  refine f_enter (vs := [.slice a_0 p0.length c_0]) Tryz.func205 rfl Tryz.ntmps205 rfl (St.init w []) ?_
  refine c_seq ?_
  refine c_reg ?_
  refine ow_batch [.p] rfl ?_
  refine ow_nil ?_
  refine x_qs ?_
  refine c_seq ?_
  refine c_reg ?_
  refine ow_batch [.p] rfl ?_
  refine ow_nil ?_
  refine x_qs ?_
  refine c_seq ?_
  refine c_seq ?_
  refine c_reg ?_
  refine ow_batch [.p, .lenS 59 3 sl59, .p] rfl ?_
  refine ow_nil ?_
  refine x_qs ?_
  refine c_block ?_
  refine CW.at (loopI2 (fun (i14 : Int) (i15 : Int) => St w [] []) (fun (i14 : Int) (i15 : Int) => [(3, .int .i64 i14), (6, .slice a_0 p0.length c_0), (7, .int .i64 (p0.length : Int)), (8, .int .i64 i15)]) (fun kk => fun (i14 : Int) (i15 : Int) => impl_total_L1 p0 kk i14 i15 = some r) (fun _ _ H => ?_) (fun k1 ihk1 i14 i15 H => ?_) Fuel (0) (0) (H)) (fun _ h => St.sel [] rfl rfl h) ⟨rfl, rfl, rfl, rfl,  trivial⟩
  · unfold impl_total_L1 at H
    exact absurd H (by simp)
  · unfold impl_total_L1 at H
    refine c_seq ?_
    refine c_reg ?_
    refine ow_batch [.p] rfl ?_
    refine ow_nil ?_
    refine x_qs ?_
    refine c_seq ?_
    refine c_if rfl (fun hb => ?_) (fun hb => ?_)
    · have H := of_if_t hb H
      refine c_skip ?_
      refine x_qs ?_
      refine c_seq ?_
      refine c_block ?_
      refine c_seq ?_
      refine c_reg ?_
      obtain ⟨e20, h21, H⟩ := of_bind H
      refine ow_ixE (e := eVal (Value.int .i64) (fun _ => rfl)) (xs := p0) (j := i15) rfl rfl rfl rfl rfl sl59 ty3 rfl (fun w1 hw1 => rds_bor g0 w1 hw1) h21 (by rw [Nat.mul_one]) ?_
      refine ow_r rfl (dstOk_lt rfl) (ry_load1 rfl rfl ty3 (at_elV (fun w1 hw1 => rds_bor g0 w1 hw1) h21)) ?_
      refine ow_batch [.p] rfl ?_
      refine ow_nil ?_
      refine x_qs ?_
      refine c_reg ?_
      refine ow_batch [.p, .p, .p, .p] rfl ?_
      refine ow_nil ?_
      refine x_qb ?_
      refine x_qs ?_
      refine c_reg ?_
      refine ow_batch [.p, .p] rfl ?_
      refine ow_nil ?_
      exact x_ql (RW.at (ihk1 (IntKind.i64.wrap (i14 + e20)) (IntKind.i64.wrap (i15 + 1)) (H)) (fun _ h => St.sel [] rfl rfl h) ⟨rfl, rfl, rfl, rfl, trivial⟩)
    · have H := of_if_f hb H
      refine c_exit ?_
      refine x_qs_exit ?_
      refine x_ql_exit ?_
      refine x_qb_here ?_
      refine x_qs ?_
      refine c_seq ?_
      refine c_reg ?_
      refine ow_batch [.p, .p] rfl ?_
      refine ow_nil ?_
      refine x_qs ?_
      refine c_ret ?_
      exact x_retR (rs := [.tmp 2]) (vs := [.int .i64 i14]) rfl ⟨rfl, trivial⟩ (fun w' hw' => by
          obtain rfl := of_some H
          exact ⟨rfl, hw'.ext⟩)
set_option maxHeartbeats 4000000 in
set_option maxRecDepth 100000 in
theorem impl_bins_ok (w : World) {p0 : Timpl_Attr} {cs0 : List Value} {r : Int} (H : impl_bins p0 = some r)  (g0 : (eTimpl_Attr).rd w [] p0 cs0) :
    Calls Tryz.prog 138 #[.agg cs0.toArray] w (fun en w' => en = .returned (.int .i64 r) ∧ Ext [] w w') := by
  obtain ⟨c10, c11, c12, rfl, g13, g14, g15⟩ := rdo_Timpl_Attr g0
  obtain rfl : c10 = [vS p0.Name_] := g13
  obtain ⟨a16, c17, rfl⟩ := rd_sl1 g14
  obtain ⟨a18, c19, rfl⟩ := rd_sl1 g15
  unfold impl_bins at H
  refine f_enter (vs := [.agg #[vS p0.Name_, .slice a16 p0.Cuts_.length c17, .slice a18 p0.Values_.length c19]]) Tryz.func138 rfl Tryz.ntmps138 rfl (St.init w []) ?_
  refine c_seq ?_
  refine c_reg ?_
  refine ow_box (cs := [vS p0.Name_, .slice a16 p0.Cuts_.length c17, .slice a18 p0.Values_.length c19]) rfl rfl rfl rfl rfl rfl (fun _ => kp) (fun b20 => ?_)
  refine ow_batch [.p] rfl ?_
  refine ow_nil ?_
  refine x_qs ?_
  refine c_seq ?_
  refine c_seq ?_
  refine c_reg ?_
  refine ow_batch [.fa 114 1 1 fa114_1] rfl ?_
  refine ow_r rfl (dstOk_lt rfl) (ry_box1 (off := 1) rfl rfl ty59 (boxIn (i := 0) rfl) rfl) ?_
  refine ow_batch [.lenS 59 3 sl59, .p] rfl ?_
  refine ow_nil ?_
  refine x_qs ?_
  refine c_if rfl (fun hb => ?_) (fun hb => ?_)
  · have H := of_if_t hb H
    refine c_seq ?_
    refine c_reg ?_
    refine ow_batch [.fa 114 1 1 fa114_1] rfl ?_
    refine ow_r rfl (dstOk_lt rfl) (ry_box1 (off := 1) rfl rfl ty59 (boxIn (i := 0) rfl) rfl) ?_
    refine ow_batch [.lenS 59 3 sl59, .p, .p] rfl ?_
    refine ow_nil ?_
    refine x_qs ?_
    refine c_ret ?_
    refine x_qs_ret ?_
    exact x_retR (rs := [.tmp 2]) (vs := [.int .i64 (IntKind.i64.wrap ((p0.Cuts_.length : Int) + 1))]) rfl ⟨rfl, trivial⟩ (fun w' hw' => by
        obtain rfl := of_some H
        exact ⟨rfl, hw'.ext⟩)
  · have H := of_if_f hb H
    refine c_skip ?_
    refine x_qs ?_
    refine c_seq ?_
    refine c_reg ?_
    refine ow_batch [.fa 114 2 2 fa114_2] rfl ?_
    refine ow_r rfl (dstOk_lt rfl) (ry_box1 (off := 2) rfl rfl ty23 (boxIn (i := 0) rfl) rfl) ?_
    refine ow_batch [.lenS 23 9 sl23, .p] rfl ?_
    refine ow_nil ?_
    refine x_qs ?_
    refine c_ret ?_
    exact x_retR (rs := [.tmp 2]) (vs := [.int .i64 (p0.Values_.length : Int)]) rfl ⟨rfl, trivial⟩ (fun w' hw' => by
        obtain rfl := of_some H
        exact ⟨rfl, hw'.ext⟩)
set_option maxHeartbeats 4000000 in
set_option maxRecDepth 100000 in
theorem impl_zeros_ok (w : World) {M0 : List Nat} {p0 : Int}  {r : List Int} (H : impl_zeros p0 = some r) (HS : St w M0 [] w)  :
    Calls Tryz.prog 168 #[.int .i64 p0] w (fun en w' => ∃ v, en = .returned v ∧ ∃ (a0 : Option Addr), ∃ (n0 : Nat), ∃ (c0 : Nat), ∃ (F0 : List Nat), v = .slice a0 n0 c0 ∧ St w M0 [Res.own (eList (eVal (Value.int .i64) (fun _ => rfl)) 3) F0 r [.slice a0 n0 c0]] w') := by
  unfold impl_zeros at H
  refine f_enter (vs := [.int .i64 p0]) Tryz.func168 rfl Tryz.ntmps168 rfl (HS) ?_
  refine c_seq ?_
  refine c_reg ?_
  refine ow_batch [.p] rfl ?_
  refine ow_nil ?_
  refine x_qs ?_
  refine c_seq ?_
  refine c_reg ?_
  refine ow_batch [.p] rfl ?_
  obtain ⟨l10, h11, H⟩ := of_bind H
  refine ow_make (e := eVal (Value.int .i64) (fun _ => rfl)) (zero := (0 : Int)) rfl rfl rfl rfl rfl rfl sl59 ty3 rfl rfl rfl rfl (fun _ => ⟨rfl, rfl⟩) h11 (fun _ => kp) (fun b12 => ?_)
  refine ow_batch [.p] rfl ?_
  refine ow_nil ?_
  refine x_qs ?_
  refine c_ret ?_
  exact x_retR (rs := [.tmp 2]) (vs := [.slice (some ⟨b12, 0, none⟩) l10.length l10.length]) rfl ⟨rfl, trivial⟩ (fun w' hw' => by
      obtain rfl := of_some H
      exact ⟨_, rfl, (some ⟨b12, 0, none⟩), l10.length, l10.length, [b12], rfl, hw'.sel [0] rfl rfl⟩)
set_option maxHeartbeats 4000000 in
set_option maxRecDepth 100000 in
theorem impl_StatsOk_ok (w : World) {p0 : Timpl_Schema} {p1 : Timpl_Stats} {cs0 : List Value} {cs1 : List Value} {r : Bool} (H : impl_StatsOk p0 p1 = some r)  (g0 : (eTimpl_Schema).rd w [] p0 cs0) (g1 : (eTimpl_Stats).rd w [] p1 cs1) :
    Calls Tryz.prog 203 #[.agg cs0.toArray, .agg cs1.toArray] w (fun en w' => en = .returned (.bool r) ∧ Ext [] w w') := by
  obtain ⟨c10, c11, rfl, g12, g13⟩ := rdo_Timpl_Schema g0
  obtain ⟨a14, c15, rfl⟩ := rd_sl1 g12
  obtain ⟨a16, c17, rfl⟩ := rd_sl1 g13
  obtain ⟨c18, c19, rfl, g20, g21⟩ := rdo_Timpl_Stats g1
  obtain ⟨a22, c23, rfl⟩ := rd_sl1 g20
  obtain ⟨a24, c25, rfl⟩ := rd_sl1 g21
  unfold impl_StatsOk at H
  refine f_enter (vs := [.agg #[.slice a14 p0.Attrs_.length c15, .slice a16 p0.Classes_.length c17], .agg #[.slice a22 p1.Totals_.length c23, .slice a24 p1.Cells_.length c25]]) Tryz.func203 rfl Tryz.ntmps203 rfl (St.init w []) ?_
  refine c_seq ?_
  refine c_reg ?_
  refine ow_box (cs := [.slice a14 p0.Attrs_.length c15, .slice a16 p0.Classes_.length c17]) rfl rfl rfl rfl rfl rfl (fun _ => kp) (fun b26 => ?_)
  refine ow_box (cs := [.slice a22 p1.Totals_.length c23, .slice a24 p1.Cells_.length c25]) rfl rfl rfl rfl rfl rfl (fun _ => kp) (fun b27 => ?_)
  refine ow_batch [.p] rfl ?_
  refine ow_nil ?_
  refine x_qs ?_
  refine c_seq ?_
  refine c_reg ?_
  refine ow_batch [.fa 35 1 1 fa35_1] rfl ?_
  refine ow_r rfl (dstOk_lt rfl) (ry_box1 (off := 1) rfl rfl ty23 (boxIn (i := 0) rfl) rfl) ?_
  refine ow_batch [.lenS 23 9 sl23, .p] rfl ?_
  refine ow_nil ?_
  refine x_qs ?_
  refine c_seq ?_
  refine c_seq ?_
  refine c_reg ?_
  refine ow_r rfl (dstOk_lt rfl) (ry_box (off := 0) (ds := [.slice a14 p0.Attrs_.length c15, .slice a16 p0.Classes_.length c17]) rfl rfl ty35 (boxIn (i := 0) rfl) rfl rfl) ?_
  obtain ⟨y28, h29, H⟩ := of_bind H
  refine ow_q rfl rfl (dstOk_lt rfl) (qy_call rfl fn132 rfl (fun w1 hw1 => impl_SchemaOk_ok w1 (cs0 := [.slice a14 p0.Attrs_.length c15, .slice a16 p0.Classes_.length c17]) h29 (rdm_Timpl_Schema (x := p0) (c0 := [.slice a14 p0.Attrs_.length c15]) (c1 := [.slice a16 p0.Classes_.length c17]) (rds_bor g12 w1 hw1) (rds_bor g13 w1 hw1)))) (fun _ _ => trivial) ?_
  refine ow_batch [.p, .p] rfl ?_
  obtain ⟨u30, hu34, H⟩ := of_bind H
  refine ow_cut [(23, .bool u30), (2, .pointer (some ⟨b26, 0, none⟩)), (3, .pointer (some ⟨b27, 0, none⟩)), (5, .int .i64 (p0.Classes_.length : Int))] 6 ?_ (fun key => OW.sub (R := [(2, .pointer (some ⟨b26, 0, none⟩)), (3, .pointer (some ⟨b27, 0, none⟩)), (5, .int .i64 (p0.Classes_.length : Int)), (17, .bool (!y28))]) ?_ ⟨rfl, rfl, rfl, rfl, trivial⟩)
  · refine ow_batch [.p] rfl ?_
    obtain ⟨u35, hu39, H⟩ := of_bind H
    refine ow_cut [(29, .bool u35), (2, .pointer (some ⟨b26, 0, none⟩)), (3, .pointer (some ⟨b27, 0, none⟩)), (5, .int .i64 (p0.Classes_.length : Int))] 5 ?_ (fun key => OW.sub (R := [(2, .pointer (some ⟨b26, 0, none⟩)), (3, .pointer (some ⟨b27, 0, none⟩)), (5, .int .i64 (p0.Classes_.length : Int)), (24, .bool u30)]) ?_ ⟨rfl, rfl, rfl, rfl, trivial⟩)
    · refine ow_nil ?_
      refine x_qs ?_
      refine c_if rfl (fun hb => ?_) (fun hb => ?_)
      · have H := of_if_t hb H
        refine c_seq ?_
        refine c_reg ?_
        refine ow_batch [.p] rfl ?_
        refine ow_nil ?_
        refine x_qs ?_
        refine c_ret ?_
        refine x_qs_ret ?_
        exact x_retR (rs := [.tmp 4]) (vs := [.bool false]) rfl ⟨rfl, trivial⟩ (fun w' hw' => by
            obtain rfl := of_some H
            exact ⟨rfl, hw'.ext⟩)
      · have H := of_if_f hb H
        refine c_skip ?_
        refine x_qs ?_
        refine c_seq ?_
        refine c_seq ?_
        refine c_reg ?_
        refine ow_batch [.fa 62 1 1 fa62_1] rfl ?_
        refine ow_r rfl (dstOk_lt rfl) (ry_box1 (off := 1) rfl rfl ty60 (boxIn (i := 1) rfl) rfl) ?_
        refine ow_batch [.lenS 60 59 sl60, .p] rfl ?_
        refine ow_nil ?_
        refine x_qs ?_
        refine c_if rfl (fun hb => ?_) (fun hb => ?_)
        · have H := of_if_t hb H
          refine c_seq ?_
          refine c_reg ?_
          refine ow_batch [.p] rfl ?_
          refine ow_nil ?_
          refine x_qs ?_
          refine c_ret ?_
          refine x_qs_ret ?_
          exact x_retR (rs := [.tmp 4]) (vs := [.bool true]) rfl ⟨rfl, trivial⟩ (fun w' hw' => by
              obtain rfl := of_some H
              exact ⟨rfl, hw'.ext⟩)
        · have H := of_if_f hb H
          refine c_skip ?_
          refine x_qs ?_
          refine c_seq ?_
          refine c_seq ?_
          refine c_reg ?_
          refine ow_batch [.fa 62 1 1 fa62_1] rfl ?_
          refine ow_r rfl (dstOk_lt rfl) (ry_box1 (off := 1) rfl rfl ty60 (boxIn (i := 1) rfl) rfl) ?_
          refine ow_batch [.lenS 60 59 sl60, .fa 35 0 0 fa35_0] rfl ?_
          refine ow_r rfl (dstOk_lt rfl) (ry_box1 (off := 0) rfl rfl ty33 (boxIn (i := 0) rfl) rfl) ?_
          refine ow_batch [.lenS 33 114 sl33, .p] rfl ?_
          refine ow_nil ?_
          refine x_qs ?_
          refine c_if rfl (fun hb => ?_) (fun hb => ?_)
          · have H := of_if_t hb H
            refine c_seq ?_
            refine c_reg ?_
            refine ow_batch [.p] rfl ?_
            refine ow_nil ?_
            refine x_qs ?_
            refine c_ret ?_
            refine x_qs_ret ?_
            exact x_retR (rs := [.tmp 4]) (vs := [.bool false]) rfl ⟨rfl, trivial⟩ (fun w' hw' => by
                obtain rfl := of_some H
                exact ⟨rfl, hw'.ext⟩)
          · have H := of_if_f hb H
            refine c_skip ?_
            refine x_qs ?_
            refine c_seq ?_
            refine c_seq ?_
            refine c_reg ?_
            refine ow_batch [.fa 62 1 1 fa62_1] rfl ?_
            refine ow_r rfl (dstOk_lt rfl) (ry_box1 (off := 1) rfl rfl ty60 (boxIn (i := 1) rfl) rfl) ?_
            refine ow_batch [.lenS 60 59 sl60, .p] rfl ?_
            refine ow_nil ?_
            refine x_qs ?_
            refine c_block ?_
            refine CW.at (loopI1 (fun (i132 : Int) => St w [] [Res.box b26 35 [.slice a14 p0.Attrs_.length c15, .slice a16 p0.Classes_.length c17], Res.box b27 62 [.slice a22 p1.Totals_.length c23, .slice a24 p1.Cells_.length c25]]) (fun (i132 : Int) => [(2, .pointer (some ⟨b26, 0, none⟩)), (3, .pointer (some ⟨b27, 0, none⟩)), (5, .int .i64 (p0.Classes_.length : Int)), (42, .slice a24 p1.Cells_.length c25), (43, .int .i64 (p1.Cells_.length : Int)), (44, .int .i64 i132)]) (fun kk => fun (i132 : Int) => impl_StatsOk_L1 p1 p0 kk i132 = some r) (fun _ H => ?_) (fun k1 ihk1 i132 H => ?_) Fuel (0) (H)) (fun _ h => St.sel [0, 1] rfl rfl h) ⟨rfl, rfl, rfl, rfl, rfl, rfl,  trivial⟩
            · unfold impl_StatsOk_L1 at H
              exact absurd H (by simp)
            · unfold impl_StatsOk_L1 at H
              refine c_seq ?_
              refine c_reg ?_
              refine ow_batch [.p] rfl ?_
              refine ow_nil ?_
              refine x_qs ?_
              refine c_seq ?_
              refine c_if rfl (fun hb => ?_) (fun hb => ?_)
              · have H := of_if_t hb H
                refine c_skip ?_
                refine x_qs ?_
                refine c_seq ?_
                refine c_block ?_
                refine c_seq ?_
                refine c_reg ?_
                refine ow_batch [.p] rfl ?_
                obtain ⟨e225, h226, H⟩ := of_bind H
                refine ow_ixB rfl rfl rfl rfl rfl sl60 ty59 rfl g21 h226 (fun q229 c230 hd227 hA228 => ?_)
                obtain ⟨a231, c232, rfl⟩ := rd_sl1 hd227
                refine ow_r rfl (dstOk_lt rfl) (ry_load1 rfl rfl ty59 (at_bor bor hA228)) ?_
                refine ow_batch [.p, .p] rfl ?_
                refine ow_nil ?_
                refine x_qs ?_
                refine c_seq ?_
                refine c_seq ?_
                refine c_reg ?_
                refine ow_batch [.p, .fa 35 0 0 fa35_0] rfl ?_
                refine ow_r rfl (dstOk_lt rfl) (ry_box1 (off := 0) rfl rfl ty33 (boxIn (i := 0) rfl) rfl) ?_
                refine ow_batch [.p] rfl ?_
                obtain ⟨e233, h234, H⟩ := of_bind H
                refine ow_ixB rfl rfl rfl rfl rfl sl33 ty114 rfl g12 h234 (fun q237 c238 hd235 hA236 => ?_)
                obtain ⟨c239, c240, c241, rfl, g242, g243, g244⟩ := rdo_Timpl_Attr hd235
                obtain rfl : c239 = [vS e233.Name_] := g242
                obtain ⟨a245, c246, rfl⟩ := rd_sl1 g243
                obtain ⟨a247, c248, rfl⟩ := rd_sl1 g244
                refine ow_r rfl (dstOk_lt rfl) (ry_load (cs := [vS e233.Name_, .slice a245 e233.Cuts_.length c246, .slice a247 e233.Values_.length c248]) rfl rfl ty114 (at_bor bor hA236) rfl) ?_
                obtain ⟨y249, h250, H⟩ := of_bind H
                refine ow_q rfl rfl (dstOk_lt rfl) (qy_call rfl fn138 rfl (fun w1 hw1 => impl_bins_ok w1 (cs0 := [vS e233.Name_, .slice a245 e233.Cuts_.length c246, .slice a247 e233.Values_.length c248]) h250 (rdm_Timpl_Attr (x := e233) (c0 := [vS e233.Name_]) (c1 := [.slice a245 e233.Cuts_.length c246]) (c2 := [.slice a247 e233.Values_.length c248]) rfl (rds_bor g243 w1 hw1) (rds_bor g244 w1 hw1)))) (fun _ _ => trivial) ?_
                refine ow_batch [.p, .p] rfl ?_
                obtain ⟨y251, h252, H⟩ := of_bind H
                refine ow_q rfl rfl (dstOk_lt rfl) (qy_call rfl fn240 rfl (fun w1 hw1 => impl_weights_ok w1  h252 (rds_bor hd227 w1 hw1))) (fun _ _ => trivial) ?_
                refine ow_batch [.p] rfl ?_
                refine ow_nil ?_
                refine x_qs ?_
                refine c_if rfl (fun hb => ?_) (fun hb => ?_)
                · have H := of_if_t hb H
                  refine c_seq ?_
                  refine c_reg ?_
                  refine ow_batch [.p] rfl ?_
                  refine ow_nil ?_
                  refine x_qs ?_
                  refine c_ret ?_
                  refine x_qs_ret ?_
                  refine x_qb_ret ?_
                  refine x_qs_ret ?_
                  refine x_ql_ret ?_
                  refine x_qb_ret ?_
                  refine x_qs_ret ?_
                  exact x_retR (rs := [.tmp 4]) (vs := [.bool false]) rfl ⟨rfl, trivial⟩ (fun w' hw' => by
                      obtain rfl := of_some H
                      exact ⟨rfl, hw'.ext⟩)
                · have H := of_if_f hb H
                  refine c_skip ?_
                  refine x_qs ?_
                  refine c_seq ?_
                  refine c_reg ?_
                  refine ow_batch [.p] rfl ?_
                  obtain ⟨y253, h254, H⟩ := of_bind H
                  refine ow_callS rfl fn168 rfl rfl rfl rfl (fun w1 hw1 => impl_zeros_ok w1  h254 (hw1.carve [] rfl rfl)) (fun v255 w1 w2 hw1 hR257 => ?_)
                  obtain ⟨a258, n259, c260, F261, rfl, hS256⟩ := hR257
                  obtain rfl := own_nS (i := 0) hS256 rfl
                  refine ⟨St w [] [_, _, _], hw1.comp [] rfl rfl hS256, fun _ _ => trivial, ?_⟩
                  refine ow_batch [.p] rfl ?_
                  refine ow_nil ?_
                  refine x_qs ?_
                  refine c_seq ?_
                  refine c_reg ?_
                  refine ow_batch [.p, .lenS 59 3 sl59, .p] rfl ?_
                  refine ow_nil ?_
                  refine x_qs ?_
                  refine c_block ?_
                  refine CW.at (loopI2 (fun (i280 : Int) (l281 : List Int) => St w [] [Res.box b26 35 [.slice a14 p0.Attrs_.length c15, .slice a16 p0.Classes_.length c17], Res.box b27 62 [.slice a22 p1.Totals_.length c23, .slice a24 p1.Cells_.length c25], Res.own (eList (eVal (Value.int .i64) (fun _ => rfl)) 3) F261 l281 [.slice a258 y253.length c260]]) (fun (i280 : Int) (l281 : List Int) => [(2, .pointer (some ⟨b26, 0, none⟩)), (3, .pointer (some ⟨b27, 0, none⟩)), (5, .int .i64 (p0.Classes_.length : Int)), (8, .slice a258 y253.length c260), (42, .slice a24 p1.Cells_.length c25), (43, .int .i64 (p1.Cells_.length : Int)), (44, .int .i64 i132), (62, .slice a231 e225.length c232), (63, .int .i64 (e225.length : Int)), (64, .int .i64 i280)]) (fun kk => fun (i280 : Int) (l281 : List Int) => impl_StatsOk_L2 e225 p0 p1 (impl_StatsOk_L1 p1 p0 k1) i132 kk i280 l281 = some r) (fun _ _ H => ?_) (fun k2 ihk2 i280 l281 H => ?_) Fuel (0) (y253) (H)) (fun _ h => St.sel [0, 1, 2] rfl rfl h) ⟨rfl, rfl, rfl, rfl, rfl, rfl, rfl, rfl, rfl, rfl,  trivial⟩
                  · unfold impl_StatsOk_L2 at H
                    exact absurd H (by simp)
                  · unfold impl_StatsOk_L2 at H
                    refine c_seq ?_
                    refine c_reg ?_
                    refine ow_batch [.p] rfl ?_
                    refine ow_nil ?_
                    refine x_qs ?_
                    refine c_seq ?_
                    refine c_if rfl (fun hb => ?_) (fun hb => ?_)
                    · have H := of_if_t hb H
                      refine c_skip ?_
                      refine x_qs ?_
                      refine c_seq ?_
                      refine c_block ?_
                      refine c_seq ?_
                      refine c_reg ?_
                      refine ow_batch [.p] rfl ?_
                      obtain ⟨e300, h301, H⟩ := of_bind H
                      refine ow_ixE (e := eVal (Value.int .i64) (fun _ => rfl)) (xs := e225) (j := i280) rfl rfl rfl rfl rfl sl59 ty3 rfl (fun w1 hw1 => rds_bor hd227 w1 hw1) h301 (by rw [Nat.mul_one]) ?_
                      refine ow_r rfl (dstOk_lt rfl) (ry_load1 rfl rfl ty3 (at_elV (fun w1 hw1 => rds_bor hd227 w1 hw1) h301)) ?_
                      refine ow_batch [.p, .p] rfl ?_
                      refine ow_nil ?_
                      refine x_qs ?_
                      refine c_seq ?_
                      refine c_reg ?_
                      refine ow_batch [.p, .p, .p] rfl ?_
                      obtain ⟨x302, h303, H⟩ := of_bind H
                      refine ow_r rfl (dstOk_lt rfl) (ry_rem rfl rfl rfl h303) ?_
                      obtain ⟨e304, h305, H⟩ := of_bind H
                      refine ow_ixE (e := eVal (Value.int .i64) (fun _ => rfl)) (xs := l281) (j := x302) rfl rfl rfl rfl rfl sl59 ty3 rfl (fun w1 hw1 => rds_own (e := eList (eVal (Value.int .i64) (fun _ => rfl)) 3) (r := 2) rfl w1 hw1) h305 (by rw [Nat.mul_one]) ?_
                      refine ow_r rfl (dstOk_lt rfl) (ry_load1 rfl rfl ty3 (at_elV (fun w1 hw1 => rds_own (e := eList (eVal (Value.int .i64) (fun _ => rfl)) 3) (r := 2) rfl w1 hw1) h305)) ?_
                      refine ow_batch [.p, .p] rfl ?_
                      obtain ⟨e306, h307, H⟩ := of_bind H
                      refine ow_ixE (e := eVal (Value.int .i64) (fun _ => rfl)) (xs := l281) (j := x302) rfl rfl rfl rfl rfl sl59 ty3 rfl (fun w1 hw1 => rds_own (e := eList (eVal (Value.int .i64) (fun _ => rfl)) 3) (r := 2) rfl w1 hw1) h307 (by rw [Nat.mul_one]) ?_
                      refine ow_storeV (i := 2) (j := x302) rfl rfl rfl rfl rfl rfl ty3 rfl h307 (fun _ => rfl) kp ?_
                      refine ow_nil ?_
                      refine x_qs ?_
                      refine c_seq ?_
                      refine c_regQ mixed (by kernel_rfl) ?_
                      refine ow_batch [.p, .p, .p] rfl ?_
                      obtain ⟨x308, h309, H⟩ := of_bind H
                      refine ow_r rfl (dstOk_lt rfl) (ry_rem rfl rfl rfl h309) ?_
                      obtain ⟨e310, h311, H⟩ := of_bind H
                      refine ow_ixE (e := eVal (Value.int .i64) (fun _ => rfl)) (xs := (l281.set x302.toNat (IntKind.i64.wrap (e304 + e300)))) (j := x308) rfl rfl rfl rfl rfl sl59 ty3 rfl (fun w1 hw1 => rds_own (e := eList (eVal (Value.int .i64) (fun _ => rfl)) 3) (r := 2) rfl w1 hw1) h311 (by rw [Nat.mul_one]) ?_
                      refine ow_r rfl (dstOk_lt rfl) (ry_load1 rfl rfl ty3 (at_elV (fun w1 hw1 => rds_own (e := eList (eVal (Value.int .i64) (fun _ => rfl)) 3) (r := 2) rfl w1 hw1) h311)) ?_
                      refine ow_batch [.fa 62 0 0 fa62_0] rfl ?_
                      refine ow_r rfl (dstOk_lt rfl) (ry_box1 (off := 0) rfl rfl ty59 (boxIn (i := 1) rfl) rfl) ?_
                      refine ow_batch [.p, .p] rfl ?_
                      obtain ⟨x312, h313, H⟩ := of_bind H
                      refine ow_r rfl (dstOk_lt rfl) (ry_rem rfl rfl rfl h313) ?_
                      obtain ⟨e314, h315, H⟩ := of_bind H
                      refine ow_ixE (e := eVal (Value.int .i64) (fun _ => rfl)) (xs := p1.Totals_) (j := x312) rfl rfl rfl rfl rfl sl59 ty3 rfl (fun w1 hw1 => rds_bor g20 w1 hw1) h315 (by rw [Nat.mul_one]) ?_
                      refine ow_r rfl (dstOk_lt rfl) (ry_load1 rfl rfl ty3 (at_elV (fun w1 hw1 => rds_bor g20 w1 hw1) h315)) ?_
                      refine ow_batch [.p] rfl ?_
                      refine ow_nilQ ?_
                      refine x_qs ?_
                      refine c_if rfl (fun hb => ?_) (fun hb => ?_)
                      · have H := of_if_t hb H
                        refine c_seq ?_
                        refine c_reg ?_
                        refine ow_batch [.p] rfl ?_
                        refine ow_nil ?_
                        refine x_qs ?_
                        refine c_ret ?_
                        refine x_qb_ret ?_
                        refine x_qs_ret ?_
                        refine x_ql_ret ?_
                        refine x_qb_ret ?_
                        refine x_qb_ret ?_
                        refine x_qs_ret ?_
                        refine x_ql_ret ?_
                        refine x_qb_ret ?_
                        refine x_qs_ret ?_
                        exact x_retR (rs := [.tmp 4]) (vs := [.bool false]) rfl ⟨rfl, trivial⟩ (fun w' hw' => by
                            obtain rfl := of_some H
                            exact ⟨rfl, hw'.ext⟩)
                      · have H := of_if_f hb H
                        refine c_skip ?_
                        refine x_qb ?_
                        refine x_qs ?_
                        refine c_reg ?_
                        refine ow_batch [.p, .p] rfl ?_
                        refine ow_nil ?_
                        exact x_ql (RW.at (ihk2 (IntKind.i64.wrap (i280 + 1)) ((l281.set x302.toNat (IntKind.i64.wrap (e304 + e300)))) (H)) (fun _ h => St.sel [0, 1, 2] rfl rfl h) ⟨rfl, rfl, rfl, rfl, rfl, rfl, rfl, rfl, rfl, rfl, trivial⟩)
                    · have H := of_if_f hb H
                      refine c_exit ?_
                      refine x_qs_exit ?_
                      refine x_ql_exit ?_
                      refine x_qb_here ?_
                      refine x_qb ?_
                      refine x_qs ?_
                      refine c_reg ?_
                      refine ow_batch [.p, .p] rfl ?_
                      refine ow_nil ?_
                      exact x_ql (RW.at (ihk1 (IntKind.i64.wrap (i132 + 1)) (H)) (fun _ h => St.sel [0, 1] rfl rfl h) ⟨rfl, rfl, rfl, rfl, rfl, rfl, trivial⟩)
              · have H := of_if_f hb H
                refine c_exit ?_
                refine x_qs_exit ?_
                refine x_ql_exit ?_
                refine x_qb_here ?_
                refine x_qs ?_
                refine c_seq ?_
                refine c_reg ?_
                refine ow_batch [.p] rfl ?_
                refine ow_nil ?_
                refine x_qs ?_
                refine c_ret ?_
                exact x_retR (rs := [.tmp 4]) (vs := [.bool true]) rfl ⟨rfl, trivial⟩ (fun w' hw' => by
                    obtain rfl := of_some H
                    exact ⟨rfl, hw'.ext⟩)
    · clear H
      have H := hu39
      clear hu39
      generalize u30 = t38 at H key ⊢
      cases t38
      · have H := of_if_f rfl H
        refine ow_batch [.fa 62 0 0 fa62_0] rfl ?_
        refine ow_r rfl (dstOk_lt rfl) (ry_box1 (off := 0) rfl rfl ty59 (boxIn (i := 1) rfl) rfl) ?_
        obtain ⟨y36, h37, H⟩ := of_bind H
        refine ow_q rfl rfl (dstOk_lt rfl) (qy_call rfl fn205 rfl (fun w1 hw1 => impl_total_ok w1  h37 (rds_bor g20 w1 hw1))) (fun _ _ => trivial) ?_
        refine ow_batch [.p] rfl ?_
        refine ow_batch [.p] rfl ?_
        obtain rfl := of_some H
        exact OW.sub key ⟨rfl, rfl, rfl, rfl, trivial⟩
      · have H := of_if_t rfl H
        refine ow_batch [.p, .p, .p, .p, .p] rfl ?_
        obtain rfl := of_some H
        exact OW.sub key ⟨rfl, rfl, rfl, rfl, trivial⟩
  · clear H
    have H := hu34
    clear hu34
    generalize (!y28) = t33 at H key ⊢
    cases t33
    · have H := of_if_f rfl H
      refine ow_batch [.fa 62 0 0 fa62_0] rfl ?_
      refine ow_r rfl (dstOk_lt rfl) (ry_box1 (off := 0) rfl rfl ty59 (boxIn (i := 1) rfl) rfl) ?_
      refine ow_batch [.p] rfl ?_
      obtain ⟨y31, h32, H⟩ := of_bind H
      refine ow_q rfl rfl (dstOk_lt rfl) (qy_call rfl fn240 rfl (fun w1 hw1 => impl_weights_ok w1  h32 (rds_bor g20 w1 hw1))) (fun _ _ => trivial) ?_
      refine ow_batch [.p] rfl ?_
      refine ow_batch [.p] rfl ?_
      obtain rfl := of_some H
      exact OW.sub key ⟨rfl, rfl, rfl, rfl, trivial⟩
    · have H := of_if_t rfl H
      refine ow_batch [.p, .p, .p, .p, .p, .p] rfl ?_
      obtain rfl := of_some H
      exact OW.sub key ⟨rfl, rfl, rfl, rfl, trivial⟩
set_option maxHeartbeats 4000000 in
set_option maxRecDepth 100000 in
theorem impl_AttrsOk_ok (w : World) {p0 : Timpl_Schema} {p1 : List Int} {cs0 : List Value} {a_1 : Option Addr} {n_1 c_1 : Nat} {r : Bool} (H : impl_AttrsOk p0 p1 = some r)  (g0 : (eTimpl_Schema).rd w [] p0 cs0) (g1 : (eList (eVal (Value.int .i64) (fun _ => rfl)) 3).rd w [] p1 [.slice a_1 n_1 c_1]) :
    Calls Tryz.prog 204 #[.agg cs0.toArray, .slice a_1 n_1 c_1] w (fun en w' => en = .returned (.bool r) ∧ Ext [] w w') := by
  obtain ⟨c10, c11, rfl, g12, g13⟩ := rdo_Timpl_Schema g0
  obtain ⟨a14, c15, rfl⟩ := rd_sl1 g12
  obtain ⟨a16, c17, rfl⟩ := rd_sl1 g13
  obtain rfl := rd_n g1
  unfold impl_AttrsOk at H
  refine f_enter (vs := [.agg #[.slice a14 p0.Attrs_.length c15, .slice a16 p0.Classes_.length c17], .slice a_1 p1.length c_1]) Tryz.func204 rfl Tryz.ntmps204 rfl (St.init w []) ?_
  refine c_seq ?_
  refine c_reg ?_
  refine ow_box (cs := [.slice a14 p0.Attrs_.length c15, .slice a16 p0.Classes_.length c17]) rfl rfl rfl rfl rfl rfl (fun _ => kp) (fun b18 => ?_)
  refine ow_batch [.p] rfl ?_
  refine ow_nil ?_
  refine x_qs ?_
  refine c_seq ?_
  refine c_regQ mixed (by kernel_rfl) ?_
  refine ow_r rfl (dstOk_lt rfl) (ry_box (off := 0) (ds := [.slice a14 p0.Attrs_.length c15, .slice a16 p0.Classes_.length c17]) rfl rfl ty35 (boxIn (i := 0) rfl) rfl rfl) ?_
  obtain ⟨y19, h20, H⟩ := of_bind H
  refine ow_q rfl rfl (dstOk_lt rfl) (qy_call rfl fn132 rfl (fun w1 hw1 => impl_SchemaOk_ok w1 (cs0 := [.slice a14 p0.Attrs_.length c15, .slice a16 p0.Classes_.length c17]) h20 (rdm_Timpl_Schema (x := p0) (c0 := [.slice a14 p0.Attrs_.length c15]) (c1 := [.slice a16 p0.Classes_.length c17]) (rds_bor g12 w1 hw1) (rds_bor g13 w1 hw1)))) (fun _ _ => trivial) ?_
  refine ow_batch [.p] rfl ?_
  refine ow_cut [(11, .bool (y19 && (decide ((p1.length : Int) > 0)))), (1, .slice a_1 p1.length c_1), (2, .pointer (some ⟨b18, 0, none⟩)), (4, .bool false)] 4 ?_ (fun key => OW.sub (R := [(1, .slice a_1 p1.length c_1), (2, .pointer (some ⟨b18, 0, none⟩)), (4, .bool false), (7, .bool y19)]) ?_ ⟨rfl, rfl, rfl, rfl, trivial⟩)
  · refine ow_batch [.p] rfl ?_
    obtain ⟨u23, hu27, H⟩ := of_bind H
    refine ow_cut [(15, .bool u23), (1, .slice a_1 p1.length c_1), (2, .pointer (some ⟨b18, 0, none⟩)), (4, .bool false)] 3 ?_ (fun key => OW.sub (R := [(1, .slice a_1 p1.length c_1), (2, .pointer (some ⟨b18, 0, none⟩)), (4, .bool false), (12, .bool (y19 && (decide ((p1.length : Int) > 0))))]) ?_ ⟨rfl, rfl, rfl, rfl, trivial⟩)
    · refine ow_batch [.p] rfl ?_
      obtain ⟨u28, hu32, H⟩ := of_bind H
      refine ow_cut [(21, .bool u28), (1, .slice a_1 p1.length c_1), (2, .pointer (some ⟨b18, 0, none⟩)), (4, .bool false)] 5 ?_ (fun key => OW.sub (R := [(1, .slice a_1 p1.length c_1), (2, .pointer (some ⟨b18, 0, none⟩)), (4, .bool false), (16, .bool u23)]) ?_ ⟨rfl, rfl, rfl, rfl, trivial⟩)
      · refine ow_batch [.p] rfl ?_
        obtain ⟨u33, hu37, H⟩ := of_bind H
        refine ow_cut [(33, .bool u33), (4, .bool false)] 11 ?_ (fun key => OW.sub (R := [(1, .slice a_1 p1.length c_1), (2, .pointer (some ⟨b18, 0, none⟩)), (4, .bool false), (22, .bool u28)]) ?_ ⟨rfl, rfl, rfl, rfl, trivial⟩)
        · refine ow_batch [.p] rfl ?_
          refine ow_nilQ ?_
          refine x_qs ?_
          refine c_ret ?_
          exact x_retR (rs := [.tmp 4]) (vs := [.bool u33]) rfl ⟨rfl, trivial⟩ (fun w' hw' => by
              obtain rfl := of_some H
              exact ⟨rfl, hw'.ext⟩)
        · clear H
          have H := hu37
          clear hu37
          generalize u28 = t36 at H key ⊢
          cases t36
          · have H := of_if_f rfl H
            refine ow_batch [.p, .p, .p, .p, .p, .p, .p, .p, .p, .p, .p] rfl ?_
            obtain rfl := of_some H
            exact OW.sub key ⟨rfl, rfl, trivial⟩
          · have H := of_if_t rfl H
            refine ow_batch [.p, .p, .lenS 59 3 sl59, .p] rfl ?_
            obtain ⟨e34, h35, H⟩ := of_bind H
            refine ow_ixE (e := eVal (Value.int .i64) (fun _ => rfl)) (xs := p1) (j := IntKind.i64.wrap ((p1.length : Int) - 1)) rfl rfl rfl rfl rfl sl59 ty3 rfl (fun w1 hw1 => rds_bor g1 w1 hw1) h35 (by rw [Nat.mul_one]) ?_
            refine ow_r rfl (dstOk_lt rfl) (ry_load1 rfl rfl ty3 (at_elV (fun w1 hw1 => rds_bor g1 w1 hw1) h35)) ?_
            refine ow_batch [.fa 35 0 0 fa35_0] rfl ?_
            refine ow_r rfl (dstOk_lt rfl) (ry_box1 (off := 0) rfl rfl ty33 (boxIn (i := 0) rfl) rfl) ?_
            refine ow_batch [.lenS 33 114 sl33, .p] rfl ?_
            refine ow_batch [.p] rfl ?_
            obtain rfl := of_some H
            exact OW.sub key ⟨rfl, rfl, trivial⟩
      · clear H
        have H := hu32
        clear hu32
        generalize u23 = t31 at H key ⊢
        cases t31
        · have H := of_if_f rfl H
          refine ow_batch [.p, .p, .p, .p, .p] rfl ?_
          obtain rfl := of_some H
          exact OW.sub key ⟨rfl, rfl, rfl, rfl, trivial⟩
        · have H := of_if_t rfl H
          refine ow_batch [.p] rfl ?_
          obtain ⟨e29, h30, H⟩ := of_bind H
          refine ow_ixE (e := eVal (Value.int .i64) (fun _ => rfl)) (xs := p1) (j := 0) rfl rfl rfl rfl rfl sl59 ty3 rfl (fun w1 hw1 => rds_bor g1 w1 hw1) h30 (by rw [Nat.mul_one]) ?_
          refine ow_r rfl (dstOk_lt rfl) (ry_load1 rfl rfl ty3 (at_elV (fun w1 hw1 => rds_bor g1 w1 hw1) h30)) ?_
          refine ow_batch [.p] rfl ?_
          refine ow_batch [.p] rfl ?_
          obtain rfl := of_some H
          exact OW.sub key ⟨rfl, rfl, rfl, rfl, trivial⟩
    · clear H
      have H := hu27
      clear hu27
      generalize (y19 && (decide ((p1.length : Int) > 0))) = t26 at H key ⊢
      cases t26
      · have H := of_if_f rfl H
        refine ow_batch [.p, .p, .p] rfl ?_
        obtain rfl := of_some H
        exact OW.sub key ⟨rfl, rfl, rfl, rfl, trivial⟩
      · have H := of_if_t rfl H
        refine ow_batch [.p] rfl ?_
        obtain ⟨y24, h25, H⟩ := of_bind H
        refine ow_q rfl rfl (dstOk_lt rfl) (qy_call rfl fn207 rfl (fun w1 hw1 => impl_ascending_ok w1  h25 (rds_bor g1 w1 hw1))) (fun _ _ => trivial) ?_
        refine ow_batch [.p] rfl ?_
        obtain rfl := of_some H
        exact OW.sub key ⟨rfl, rfl, rfl, rfl, trivial⟩
  · generalize y19 = t22 at key ⊢
    cases t22
    · refine ow_batch [.p, .p, .p, .p] rfl ?_
      exact OW.sub key ⟨rfl, rfl, rfl, rfl, trivial⟩
    · refine ow_batch [.p, .lenS 59 3 sl59, .p] rfl ?_
      refine ow_batch [.p] rfl ?_
      exact OW.sub key ⟨rfl, rfl, rfl, rfl, trivial⟩
set_option maxHeartbeats 4000000 in
set_option maxRecDepth 100000 in
theorem impl_ForkOk_ok (w : World) {p0 : Timpl_Schema} {p1 : Timpl_Fork} {cs0 : List Value} {r : Bool} (H : impl_ForkOk p0 p1 = some r)  (g0 : (eTimpl_Schema).rd w [] p0 cs0) :
    Calls Tryz.prog 211 #[.agg cs0.toArray, .agg #[.int .i64 p1.Attr_, .int .i64 p1.At_]] w (fun en w' => en = .returned (.bool r) ∧ Ext [] w w') := by
  obtain ⟨c10, c11, rfl, g12, g13⟩ := rdo_Timpl_Schema g0
  obtain ⟨a14, c15, rfl⟩ := rd_sl1 g12
  obtain ⟨a16, c17, rfl⟩ := rd_sl1 g13
  unfold impl_ForkOk at H
  refine f_enter (vs := [.agg #[.slice a14 p0.Attrs_.length c15, .slice a16 p0.Classes_.length c17], .agg #[.int .i64 p1.Attr_, .int .i64 p1.At_]]) Tryz.func211 rfl Tryz.ntmps211 rfl (St.init w []) ?_
  refine c_seq ?_
  refine c_reg ?_
  refine ow_box (cs := [.slice a14 p0.Attrs_.length c15, .slice a16 p0.Classes_.length c17]) rfl rfl rfl rfl rfl rfl (fun _ => kp) (fun b18 => ?_)
  refine ow_box (cs := [.int .i64 p1.Attr_, .int .i64 p1.At_]) rfl rfl rfl rfl rfl rfl (fun _ => kp) (fun b19 => ?_)
  refine ow_batch [.p] rfl ?_
  refine ow_nil ?_
  refine x_qs ?_
  refine c_seq ?_
  refine c_seq ?_
  refine c_reg ?_
  refine ow_r rfl (dstOk_lt rfl) (ry_box (off := 0) (ds := [.slice a14 p0.Attrs_.length c15, .slice a16 p0.Classes_.length c17]) rfl rfl ty35 (boxIn (i := 0) rfl) rfl rfl) ?_
  obtain ⟨y20, h21, H⟩ := of_bind H
  refine ow_q rfl rfl (dstOk_lt rfl) (qy_call rfl fn132 rfl (fun w1 hw1 => impl_SchemaOk_ok w1 (cs0 := [.slice a14 p0.Attrs_.length c15, .slice a16 p0.Classes_.length c17]) h21 (rdm_Timpl_Schema (x := p0) (c0 := [.slice a14 p0.Attrs_.length c15]) (c1 := [.slice a16 p0.Classes_.length c17]) (rds_bor g12 w1 hw1) (rds_bor g13 w1 hw1)))) (fun _ _ => trivial) ?_
  refine ow_batch [.p, .p] rfl ?_
  obtain ⟨u22, hu26, H⟩ := of_bind H
  refine ow_cut [(19, .bool u22), (2, .pointer (some ⟨b18, 0, none⟩)), (3, .pointer (some ⟨b19, 0, none⟩))] 9 ?_ (fun key => OW.sub (R := [(2, .pointer (some ⟨b18, 0, none⟩)), (3, .pointer (some ⟨b19, 0, none⟩)), (10, .bool (!y20))]) ?_ ⟨rfl, rfl, rfl, trivial⟩)
  · refine ow_nil ?_
    refine x_qs ?_
    refine c_if rfl (fun hb => ?_) (fun hb => ?_)
    · have H := of_if_t hb H
      refine c_seq ?_
      refine c_reg ?_
      refine ow_batch [.p] rfl ?_
      refine ow_nil ?_
      refine x_qs ?_
      refine c_ret ?_
      refine x_qs_ret ?_
      exact x_retR (rs := [.tmp 4]) (vs := [.bool false]) rfl ⟨rfl, trivial⟩ (fun w' hw' => by
          obtain rfl := of_some H
          exact ⟨rfl, hw'.ext⟩)
    · have H := of_if_f hb H
      refine c_skip ?_
      refine x_qs ?_
      refine c_seq ?_
      refine c_reg ?_
      refine ow_batch [.fa 35 0 0 fa35_0] rfl ?_
      refine ow_r rfl (dstOk_lt rfl) (ry_box1 (off := 0) rfl rfl ty33 (boxIn (i := 0) rfl) rfl) ?_
      refine ow_batch [.fa 116 0 0 fa116_0] rfl ?_
      refine ow_r rfl (dstOk_lt rfl) (ry_box1 (off := 0) rfl rfl ty3 (boxIn (i := 1) rfl) rfl) ?_
      obtain ⟨e27, h28, H⟩ := of_bind H
      refine ow_ixB rfl rfl rfl rfl rfl sl33 ty114 rfl g12 h28 (fun q31 c32 hd29 hA30 => ?_)
      obtain ⟨c33, c34, c35, rfl, g36, g37, g38⟩ := rdo_Timpl_Attr hd29
      obtain rfl : c33 = [vS e27.Name_] := g36
      obtain ⟨a39, c40, rfl⟩ := rd_sl1 g37
      obtain ⟨a41, c42, rfl⟩ := rd_sl1 g38
      refine ow_r rfl (dstOk_lt rfl) (ry_load (cs := [vS e27.Name_, .slice a39 e27.Cuts_.length c40, .slice a41 e27.Values_.length c42]) rfl rfl ty114 (at_bor bor hA30) rfl) ?_
      refine ow_alloc rfl rfl rfl rfl ty114 (fun _ => kp) (fun b43 => ?_)
      refine ow_storeC (off := 0) [vS e27.Name_, .slice a39 e27.Cuts_.length c40, .slice a41 e27.Values_.length c42] [_, _, _] (i := 2) rfl rfl rfl rfl rfl rfl ty114 rfl rfl (by intro u hu; simp only [List.mem_cons, List.not_mem_nil, or_false] at hu; rcases hu with rfl | rfl | rfl <;> rfl) rfl rfl rfl kp ?_
      refine ow_nil ?_
      refine x_qs ?_
      refine c_seq ?_
      refine c_reg ?_
      refine ow_r rfl (dstOk_lt rfl) (ry_box (off := 0) (ds := [vS e27.Name_, .slice a39 e27.Cuts_.length c40, .slice a41 e27.Values_.length c42]) rfl rfl ty114 (boxIn (i := 2) rfl) rfl rfl) ?_
      obtain ⟨y44, h45, H⟩ := of_bind H
      refine ow_q rfl rfl (dstOk_lt rfl) (qy_call rfl fn138 rfl (fun w1 hw1 => impl_bins_ok w1 (cs0 := [vS e27.Name_, .slice a39 e27.Cuts_.length c40, .slice a41 e27.Values_.length c42]) h45 (rdm_Timpl_Attr (x := e27) (c0 := [vS e27.Name_]) (c1 := [.slice a39 e27.Cuts_.length c40]) (c2 := [.slice a41 e27.Values_.length c42]) rfl (rds_bor g37 w1 hw1) (rds_bor g38 w1 hw1)))) (fun _ _ => trivial) ?_
      refine ow_batch [.p, .p] rfl ?_
      refine ow_nil ?_
      refine x_qs ?_
      refine c_seq ?_
      refine c_seq ?_
      refine c_reg ?_
      refine ow_batch [.fa 114 1 1 fa114_1] rfl ?_
      refine ow_r rfl (dstOk_lt rfl) (ry_box1 (off := 1) rfl rfl ty59 (boxIn (i := 2) rfl) rfl) ?_
      refine ow_batch [.lenS 59 3 sl59, .p] rfl ?_
      refine ow_nil ?_
      refine x_qs ?_
      refine c_if rfl (fun hb => ?_) (fun hb => ?_)
      · have H := of_if_t hb H
        refine c_reg ?_
        refine ow_batch [.p, .p, .p] rfl ?_
        refine ow_nil ?_
        refine x_qs ?_
        refine c_seq ?_
        refine c_reg ?_
        refine ow_batch [.fa 116 1 1 fa116_1] rfl ?_
        refine ow_r rfl (dstOk_lt rfl) (ry_box1 (off := 1) rfl rfl ty3 (boxIn (i := 1) rfl) rfl) ?_
        refine ow_batch [.p] rfl ?_
        obtain ⟨y46, h47, H⟩ := of_bind H
        refine ow_q rfl rfl (dstOk_lt rfl) (qy_call rfl fn91 rfl (fun w1 hw1 => impl_within_ok w1  h47)) (fun _ _ => trivial) ?_
        refine ow_batch [.p] rfl ?_
        refine ow_nil ?_
        refine x_qs ?_
        refine c_ret ?_
        exact x_retR (rs := [.tmp 4]) (vs := [.bool y46]) rfl ⟨rfl, trivial⟩ (fun w' hw' => by
            obtain rfl := of_some H
            exact ⟨rfl, hw'.ext⟩)
      · have H := of_if_f hb H
        refine c_skip ?_
        refine x_qs ?_
        refine c_seq ?_
        refine c_reg ?_
        refine ow_batch [.fa 116 1 1 fa116_1] rfl ?_
        refine ow_r rfl (dstOk_lt rfl) (ry_box1 (off := 1) rfl rfl ty3 (boxIn (i := 1) rfl) rfl) ?_
        refine ow_batch [.p] rfl ?_
        obtain ⟨y48, h49, H⟩ := of_bind H
        refine ow_q rfl rfl (dstOk_lt rfl) (qy_call rfl fn91 rfl (fun w1 hw1 => impl_within_ok w1  h49)) (fun _ _ => trivial) ?_
        refine ow_batch [.p] rfl ?_
        refine ow_nil ?_
        refine x_qs ?_
        refine c_ret ?_
        exact x_retR (rs := [.tmp 4]) (vs := [.bool y48]) rfl ⟨rfl, trivial⟩ (fun w' hw' => by
            obtain rfl := of_some H
            exact ⟨rfl, hw'.ext⟩)
  · clear H
    have H := hu26
    clear hu26
    generalize (!y20) = t25 at H key ⊢
    cases t25
    · have H := of_if_f rfl H
      refine ow_batch [.fa 116 0 0 fa116_0] rfl ?_
      refine ow_r rfl (dstOk_lt rfl) (ry_box1 (off := 0) rfl rfl ty3 (boxIn (i := 1) rfl) rfl) ?_
      refine ow_batch [.fa 35 0 0 fa35_0] rfl ?_
      refine ow_r rfl (dstOk_lt rfl) (ry_box1 (off := 0) rfl rfl ty33 (boxIn (i := 0) rfl) rfl) ?_
      refine ow_batch [.lenS 33 114 sl33, .p] rfl ?_
      obtain ⟨y23, h24, H⟩ := of_bind H
      refine ow_q rfl rfl (dstOk_lt rfl) (qy_call rfl fn91 rfl (fun w1 hw1 => impl_within_ok w1  h24)) (fun _ _ => trivial) ?_
      refine ow_batch [.p] rfl ?_
      refine ow_batch [.p] rfl ?_
      obtain rfl := of_some H
      exact OW.sub key ⟨rfl, rfl, rfl, trivial⟩
    · have H := of_if_t rfl H
      refine ow_batch [.p, .p, .p, .p, .p, .p, .p, .p, .p] rfl ?_
      obtain rfl := of_some H
      exact OW.sub key ⟨rfl, rfl, rfl, trivial⟩
set_option maxHeartbeats 4000000 in
set_option maxRecDepth 100000 in
theorem impl_Branches_ok (w : World) {p0 : Timpl_Schema} {p1 : Timpl_Fork} {cs0 : List Value} {r : Int} (H : impl_Branches p0 p1 = some r)  (g0 : (eTimpl_Schema).rd w [] p0 cs0) :
    Calls Tryz.prog 206 #[.agg cs0.toArray, .agg #[.int .i64 p1.Attr_, .int .i64 p1.At_]] w (fun en w' => en = .returned (.int .i64 r) ∧ Ext [] w w') := by
  obtain ⟨c10, c11, rfl, g12, g13⟩ := rdo_Timpl_Schema g0
  obtain ⟨a14, c15, rfl⟩ := rd_sl1 g12
  obtain ⟨a16, c17, rfl⟩ := rd_sl1 g13
  unfold impl_Branches at H
  refine f_enter (vs := [.agg #[.slice a14 p0.Attrs_.length c15, .slice a16 p0.Classes_.length c17], .agg #[.int .i64 p1.Attr_, .int .i64 p1.At_]]) Tryz.func206 rfl Tryz.ntmps206 rfl (St.init w []) ?_
  refine c_seq ?_
  refine c_reg ?_
  refine ow_box (cs := [.slice a14 p0.Attrs_.length c15, .slice a16 p0.Classes_.length c17]) rfl rfl rfl rfl rfl rfl (fun _ => kp) (fun b18 => ?_)
  refine ow_box (cs := [.int .i64 p1.Attr_, .int .i64 p1.At_]) rfl rfl rfl rfl rfl rfl (fun _ => kp) (fun b19 => ?_)
  refine ow_batch [.p] rfl ?_
  refine ow_nil ?_
  refine x_qs ?_
  refine c_seq ?_
  refine c_block ?_
  refine c_seq ?_
  refine c_reg ?_
  refine ow_r rfl (dstOk_lt rfl) (ry_box (off := 0) (ds := [.slice a14 p0.Attrs_.length c15, .slice a16 p0.Classes_.length c17]) rfl rfl ty35 (boxIn (i := 0) rfl) rfl rfl) ?_
  refine ow_r rfl (dstOk_lt rfl) (ry_box (off := 0) (ds := [.int .i64 p1.Attr_, .int .i64 p1.At_]) rfl rfl ty116 (boxIn (i := 1) rfl) rfl rfl) ?_
  obtain ⟨y20, h21, H⟩ := of_bind H
  refine ow_q rfl rfl (dstOk_lt rfl) (qy_call rfl fn211 rfl (fun w1 hw1 => impl_ForkOk_ok w1 (p1 := p1) (cs0 := [.slice a14 p0.Attrs_.length c15, .slice a16 p0.Classes_.length c17]) h21 (rdm_Timpl_Schema (x := p0) (c0 := [.slice a14 p0.Attrs_.length c15]) (c1 := [.slice a16 p0.Classes_.length c17]) (rds_bor g12 w1 hw1) (rds_bor g13 w1 hw1)))) (fun _ _ => trivial) ?_
  refine ow_batch [.p, .p] rfl ?_
  refine ow_nil ?_
  refine x_qs ?_
  refine c_if rfl (fun hb => ?_) (fun hb => ?_)
  · have H := of_if_t hb H
    refine c_seq ?_
    refine c_reg ?_
    refine ow_batch [.p] rfl ?_
    refine ow_nil ?_
    refine x_qs ?_
    refine c_ret ?_
    refine x_qb_ret ?_
    refine x_qs_ret ?_
    exact x_retR (rs := [.tmp 4]) (vs := [.int .i64 0]) rfl ⟨rfl, trivial⟩ (fun w' hw' => by
        obtain rfl := of_some H
        exact ⟨rfl, hw'.ext⟩)
  · have H := of_if_f hb H
    refine c_seq ?_
    refine c_reg ?_
    refine ow_batch [.fa 116 1 1 fa116_1] rfl ?_
    refine ow_r rfl (dstOk_lt rfl) (ry_box1 (off := 1) rfl rfl ty3 (boxIn (i := 1) rfl) rfl) ?_
    refine ow_batch [.p, .p] rfl ?_
    refine ow_nil ?_
    refine x_qs ?_
    refine c_if rfl (fun hb => ?_) (fun hb => ?_)
    · have H := of_if_t hb H
      refine c_seq ?_
      refine c_reg ?_
      refine ow_batch [.fa 35 0 0 fa35_0] rfl ?_
      refine ow_r rfl (dstOk_lt rfl) (ry_box1 (off := 0) rfl rfl ty33 (boxIn (i := 0) rfl) rfl) ?_
      refine ow_batch [.fa 116 0 0 fa116_0] rfl ?_
      refine ow_r rfl (dstOk_lt rfl) (ry_box1 (off := 0) rfl rfl ty3 (boxIn (i := 1) rfl) rfl) ?_
      obtain ⟨e22, h23, H⟩ := of_bind H
      refine ow_ixB rfl rfl rfl rfl rfl sl33 ty114 rfl g12 h23 (fun q26 c27 hd24 hA25 => ?_)
      obtain ⟨c28, c29, c30, rfl, g31, g32, g33⟩ := rdo_Timpl_Attr hd24
      obtain rfl : c28 = [vS e22.Name_] := g31
      obtain ⟨a34, c35, rfl⟩ := rd_sl1 g32
      obtain ⟨a36, c37, rfl⟩ := rd_sl1 g33
      refine ow_r rfl (dstOk_lt rfl) (ry_load (cs := [vS e22.Name_, .slice a34 e22.Cuts_.length c35, .slice a36 e22.Values_.length c37]) rfl rfl ty114 (at_bor bor hA25) rfl) ?_
      obtain ⟨y38, h39, H⟩ := of_bind H
      refine ow_q rfl rfl (dstOk_lt rfl) (qy_call rfl fn138 rfl (fun w1 hw1 => impl_bins_ok w1 (cs0 := [vS e22.Name_, .slice a34 e22.Cuts_.length c35, .slice a36 e22.Values_.length c37]) h39 (rdm_Timpl_Attr (x := e22) (c0 := [vS e22.Name_]) (c1 := [.slice a34 e22.Cuts_.length c35]) (c2 := [.slice a36 e22.Values_.length c37]) rfl (rds_bor g32 w1 hw1) (rds_bor g33 w1 hw1)))) (fun _ _ => trivial) ?_
      refine ow_batch [.p] rfl ?_
      refine ow_nil ?_
      refine x_qs ?_
      refine c_ret ?_
      refine x_qb_ret ?_
      refine x_qs_ret ?_
      exact x_retR (rs := [.tmp 4]) (vs := [.int .i64 y38]) rfl ⟨rfl, trivial⟩ (fun w' hw' => by
          obtain rfl := of_some H
          exact ⟨rfl, hw'.ext⟩)
    · have H := of_if_f hb H
      refine c_skip ?_
      refine x_qb ?_
      refine x_qs ?_
      refine c_seq ?_
      refine c_reg ?_
      refine ow_batch [.p] rfl ?_
      refine ow_nil ?_
      refine x_qs ?_
      refine c_ret ?_
      exact x_retR (rs := [.tmp 4]) (vs := [.int .i64 2]) rfl ⟨rfl, trivial⟩ (fun w' hw' => by
          obtain rfl := of_some H
          exact ⟨rfl, hw'.ext⟩)
set_option maxHeartbeats 4000000 in
set_option maxRecDepth 100000 in
theorem impl_nodeOk_1_ok (w : World) {p0 : Int} {p1 : Int} {p2 : Timpl_Tree} {q_1 : Addr} {cs_1 : List Value} {q_2 : Addr} {cs_2 : List Value} {r : Bool} (H : impl_nodeOk_1 p0 p1 p2 = some r)  (g_1 : (eVal (Value.int .i64) (fun _ => rfl)).rd w [] p1 cs_1) (hA_1 : At w [] q_1 cs_1) (g_2 : (eTimpl_Tree).rd w [] p2 cs_2) (hA_2 : At w [] q_2 cs_2) :
    Calls Tryz.prog 208 #[.int .i64 p0, .pointer (some q_1), .pointer (some q_2)] w (fun en w' => en = .returned (.bool r) ∧ Ext [] w w') := by
  obtain rfl : cs_1 = [.int .i64 p1] := g_1
  obtain ⟨c10, c11, rfl, g12, g13⟩ := rdo_Timpl_Tree g_2
  obtain ⟨a14, c15, rfl⟩ := rd_sl1 g12
  obtain rfl : c11 = [.int .i64 p2.Seen_] := g13
  unfold impl_nodeOk_1 at H
  refine f_enter (vs := [.int .i64 p0, .pointer (some q_1), .pointer (some q_2)]) Tryz.func208 rfl Tryz.ntmps208 rfl (St.init w []) ?_
  refine c_seq ?_
  refine c_reg ?_
  refine ow_batch [.p] rfl ?_
  refine ow_nil ?_
  refine x_qs ?_
  refine c_seq ?_
  refine c_regQ mixed (by kernel_rfl) ?_
  refine ow_batch [.p] rfl ?_
  refine ow_r rfl (dstOk_lt rfl) (ry_load1 rfl rfl ty3 (at_bor bor hA_1)) ?_
  refine ow_batch [.p, .fa 39 0 0 fa39_0] rfl ?_
  refine ow_r rfl (dstOk_lt rfl) (ry_load1 rfl rfl ty37 (at_bor bor (at_K hA_2 0 1))) ?_
  refine ow_batch [.lenS 37 118 sl37, .p] rfl ?_
  obtain ⟨y16, h17, H⟩ := of_bind H
  refine ow_q rfl rfl (dstOk_lt rfl) (qy_call rfl fn91 rfl (fun w1 hw1 => impl_within_ok w1  h17)) (fun _ _ => trivial) ?_
  refine ow_batch [.p, .p] rfl ?_
  obtain ⟨u18, hu58, H⟩ := of_bind H
  refine ow_cut [(23, .bool u18), (4, .bool false)] 9 ?_ (fun key => OW.sub (R := [(0, .int .i64 p0), (1, .pointer (some q_1)), (2, .pointer (some q_2)), (4, .bool false), (14, .bool (!y16))]) ?_ ⟨rfl, rfl, rfl, rfl, rfl, trivial⟩)
  · refine ow_batch [.p] rfl ?_
    refine ow_nilQ ?_
    refine x_qs ?_
    refine c_ret ?_
    exact x_retR (rs := [.tmp 4]) (vs := [.bool u18]) rfl ⟨rfl, trivial⟩ (fun w' hw' => by
        obtain rfl := of_some H
        exact ⟨rfl, hw'.ext⟩)
  · clear H
    have H := hu58
    clear hu58
    generalize (!y16) = t57 at H key ⊢
    cases t57
    · have H := of_if_f rfl H
      refine ow_batch [.fa 39 0 0 fa39_0] rfl ?_
      refine ow_r rfl (dstOk_lt rfl) (ry_load1 rfl rfl ty37 (at_bor bor (at_K hA_2 0 1))) ?_
      refine ow_batch [.p] rfl ?_
      obtain ⟨e19, h20, H⟩ := of_bind H
      refine ow_ixB rfl rfl rfl rfl rfl sl37 ty118 rfl g12 h20 (fun q23 c24 hd21 hA22 => ?_)
      obtain ⟨c25, c26, c27, c28, c29, c30, c31, c32, c33, c34, rfl, g35, g36, g37, g38, g39, g40, g41, g42, g43, g44⟩ := rdo_Timpl_Node hd21
      obtain rfl : c25 = [.bool e19.Leaf_] := g35
      obtain rfl : c26 = [.int .i64 e19.Fork_.Attr_, .int .i64 e19.Fork_.At_] := g36
      obtain ⟨a45, c46, rfl⟩ := rd_sl1 g37
      obtain rfl : c28 = [.int .i64 e19.Miss_] := g38
      obtain ⟨c47, c48, rfl, g49, g50⟩ := rdo_Timpl_Stats g39
      obtain ⟨a51, c52, rfl⟩ := rd_sl1 g49
      obtain ⟨a53, c54, rfl⟩ := rd_sl1 g50
      obtain rfl : c30 = [.int .i64 e19.Since_] := g40
      obtain ⟨a55, c56, rfl⟩ := rd_sl1 g41
      obtain rfl : c32 = [.int .i64 e19.Depth_] := g42
      obtain rfl : c33 = [.int .i64 e19.Up_] := g43
      obtain rfl : c34 = [.int .i64 e19.Born_] := g44
      refine ow_batch [.fa 118 8 10 fa118_8] rfl ?_
      refine ow_r rfl (dstOk_lt rfl) (ry_load1 rfl rfl ty3 (at_bor bor (at_K hA22 10 1))) ?_
      refine ow_r rfl (dstOk_lt rfl) (ry_load1 rfl rfl ty3 (at_bor bor hA_1)) ?_
      refine ow_batch [.p] rfl ?_
      refine ow_batch [.p] rfl ?_
      obtain rfl := of_some H
      exact OW.sub key ⟨rfl, rfl, trivial⟩
    · have H := of_if_t rfl H
      refine ow_batch [.p, .p, .p, .p, .p, .p, .p, .p, .p] rfl ?_
      obtain rfl := of_some H
      exact OW.sub key ⟨rfl, rfl, trivial⟩
set_option maxHeartbeats 4000000 in
set_option maxRecDepth 100000 in
theorem lib_slices_IndexFunc___int_int___impl_nodeOk_1_ok (w : World) {p0 : List Int} {p1_0 : Int} {p1_1 : Timpl_Tree} {a_0 : Option Addr} {n_0 c_0 : Nat} {q_1_0 : Addr} {cs_1_0 : List Value} {q_1_1 : Addr} {cs_1_1 : List Value} {r : Int} (H : lib_slices_IndexFunc___int_int___impl_nodeOk_1 p0 p1_0 p1_1 = some r)  (g0 : (eList (eVal (Value.int .i64) (fun _ => rfl)) 3).rd w [] p0 [.slice a_0 n_0 c_0]) (g_1_0 : (eVal (Value.int .i64) (fun _ => rfl)).rd w [] p1_0 cs_1_0) (hA_1_0 : At w [] q_1_0 cs_1_0) (g_1_1 : (eTimpl_Tree).rd w [] p1_1 cs_1_1) (hA_1_1 : At w [] q_1_1 cs_1_1) :
    Calls Tryz.prog 238 #[.slice a_0 n_0 c_0, .func (.func 208) #[] #[.pointer (some q_1_0), .pointer (some q_1_1)]] w (fun en w' => en = .returned (.int .i64 r) ∧ Ext [] w w') := by
  obtain rfl := rd_n g0
  obtain rfl : cs_1_0 = [.int .i64 p1_0] := g_1_0
  obtain ⟨c10, c11, rfl, g12, g13⟩ := rdo_Timpl_Tree g_1_1
  obtain ⟨a14, c15, rfl⟩ := rd_sl1 g12
  obtain rfl : c11 = [.int .i64 p1_1.Seen_] := g13
  unfold lib_slices_IndexFunc___int_int___impl_nodeOk_1 at H
  refine f_enter (vs := [.slice a_0 p0.length c_0, .func (.func 208) #[] #[.pointer (some q_1_0), .pointer (some q_1_1)]]) Tryz.func238 rfl Tryz.ntmps238 rfl (St.init w []) ?_
  refine c_seq ?_
  refine c_reg ?_
  refine ow_batch [.p] rfl ?_
  refine ow_nil ?_
  refine x_qs ?_
  refine c_seq ?_
  refine c_seq ?_
  refine c_reg ?_
  refine ow_batch [.p, .lenS 59 3 sl59, .p] rfl ?_
  refine ow_nil ?_
  refine x_qs ?_
  refine c_block ?_
  refine CW.at (loopI1 (fun (i21 : Int) => St w [] []) (fun (i21 : Int) => [(0, .slice a_0 p0.length c_0), (1, .func (.func 208) #[] #[.pointer (some q_1_0), .pointer (some q_1_1)]), (7, .int .i64 (p0.length : Int)), (8, .int .i64 i21)]) (fun kk => fun (i21 : Int) => lib_slices_IndexFunc___int_int___impl_nodeOk_1_L1 p0 p1_0 p1_1 kk i21 = some r) (fun _ H => ?_) (fun k1 ihk1 i21 H => ?_) Fuel (0) (H)) (fun _ h => St.sel [] rfl rfl h) ⟨rfl, rfl, rfl, rfl,  trivial⟩
  · unfold lib_slices_IndexFunc___int_int___impl_nodeOk_1_L1 at H
    exact absurd H (by simp)
  · unfold lib_slices_IndexFunc___int_int___impl_nodeOk_1_L1 at H
    refine c_seq ?_
    refine c_reg ?_
    refine ow_batch [.p] rfl ?_
    refine ow_nil ?_
    refine x_qs ?_
    refine c_seq ?_
    refine c_if rfl (fun hb => ?_) (fun hb => ?_)
    · have H := of_if_t hb H
      refine c_skip ?_
      refine x_qs ?_
      refine c_seq ?_
      refine c_block ?_
      refine c_seq ?_
      refine c_reg ?_
      refine ow_batch [.p, .p] rfl ?_
      refine ow_nil ?_
      refine x_qs ?_
      refine c_seq ?_
      refine c_reg ?_
      refine ow_batch [.p, .p, .p] rfl ?_
      obtain ⟨e27, h28, H⟩ := of_bind H
      refine ow_ixE (e := eVal (Value.int .i64) (fun _ => rfl)) (xs := p0) (j := i21) rfl rfl rfl rfl rfl sl59 ty3 rfl (fun w1 hw1 => rds_bor g0 w1 hw1) h28 (by rw [Nat.mul_one]) ?_
      refine ow_r rfl (dstOk_lt rfl) (ry_load1 rfl rfl ty3 (at_elV (fun w1 hw1 => rds_bor g0 w1 hw1) h28)) ?_
      obtain ⟨y29, h30, H⟩ := of_bind H
      refine ow_q rfl rfl (dstOk_lt rfl) (qy_callV (cap := [.pointer (some q_1_0), .pointer (some q_1_1)]) rfl fn208 rfl rfl (fun w1 hw1 => impl_nodeOk_1_ok w1 (cs_1 := [.int .i64 p1_0]) (cs_2 := [.slice a14 p1_1.Nodes_.length c15, .int .i64 p1_1.Seen_]) h30 rfl (at_bor bor hA_1_0 w1 hw1) (rdm_Timpl_Tree (x := p1_1) (c0 := [.slice a14 p1_1.Nodes_.length c15]) (c1 := [.int .i64 p1_1.Seen_]) (rds_bor g12 w1 hw1) rfl) (at_bor bor hA_1_1 w1 hw1))) (fun _ _ => trivial) ?_
      refine ow_nil ?_
      refine x_qs ?_
      refine c_if rfl (fun hb => ?_) (fun hb => ?_)
      · have H := of_if_t hb H
        refine c_seq ?_
        refine c_reg ?_
        refine ow_batch [.p, .p] rfl ?_
        refine ow_nil ?_
        refine x_qs ?_
        refine c_ret ?_
        refine x_qb_ret ?_
        refine x_qs_ret ?_
        refine x_ql_ret ?_
        refine x_qb_ret ?_
        refine x_qs_ret ?_
        exact x_retR (rs := [.tmp 4]) (vs := [.int .i64 i21]) rfl ⟨rfl, trivial⟩ (fun w' hw' => by
            obtain rfl := of_some H
            exact ⟨rfl, hw'.ext⟩)
      · have H := of_if_f hb H
        refine c_skip ?_
        refine x_qb ?_
        refine x_qs ?_
        refine c_reg ?_
        refine ow_batch [.p, .p] rfl ?_
        refine ow_nil ?_
        exact x_ql (RW.at (ihk1 (IntKind.i64.wrap (i21 + 1)) (H)) (fun _ h => St.sel [] rfl rfl h) ⟨rfl, rfl, rfl, rfl, trivial⟩)
    · have H := of_if_f hb H
      refine c_exit ?_
      refine x_qs_exit ?_
      refine x_ql_exit ?_
      refine x_qb_here ?_
      refine x_qs ?_
      refine c_seq ?_
      refine c_reg ?_
      refine ow_batch [.p] rfl ?_
      refine ow_nil ?_
      refine x_qs ?_
      refine c_ret ?_
      exact x_retR (rs := [.tmp 4]) (vs := [.int .i64 (-1)]) rfl ⟨rfl, trivial⟩ (fun w' hw' => by
          obtain rfl := of_some H
          exact ⟨rfl, hw'.ext⟩)
set_option maxHeartbeats 4000000 in
set_option maxRecDepth 100000 in
theorem lib_slices_ContainsFunc___int_int___impl_nodeOk_1_ok (w : World) {p0 : List Int} {p1_0 : Int} {p1_1 : Timpl_Tree} {a_0 : Option Addr} {n_0 c_0 : Nat} {q_1_0 : Addr} {cs_1_0 : List Value} {q_1_1 : Addr} {cs_1_1 : List Value} {r : Bool} (H : lib_slices_ContainsFunc___int_int___impl_nodeOk_1 p0 p1_0 p1_1 = some r)  (g0 : (eList (eVal (Value.int .i64) (fun _ => rfl)) 3).rd w [] p0 [.slice a_0 n_0 c_0]) (g_1_0 : (eVal (Value.int .i64) (fun _ => rfl)).rd w [] p1_0 cs_1_0) (hA_1_0 : At w [] q_1_0 cs_1_0) (g_1_1 : (eTimpl_Tree).rd w [] p1_1 cs_1_1) (hA_1_1 : At w [] q_1_1 cs_1_1) :
    Calls Tryz.prog 188 #[.slice a_0 n_0 c_0, .func (.func 208) #[] #[.pointer (some q_1_0), .pointer (some q_1_1)]] w (fun en w' => en = .returned (.bool r) ∧ Ext [] w w') := by
  obtain rfl := rd_n g0
  obtain rfl : cs_1_0 = [.int .i64 p1_0] := g_1_0
  obtain ⟨c10, c11, rfl, g12, g13⟩ := rdo_Timpl_Tree g_1_1
  obtain ⟨a14, c15, rfl⟩ := rd_sl1 g12
  obtain rfl : c11 = [.int .i64 p1_1.Seen_] := g13
  unfold lib_slices_ContainsFunc___int_int___impl_nodeOk_1 at H
  refine f_enter (vs := [.slice a_0 p0.length c_0, .func (.func 208) #[] #[.pointer (some q_1_0), .pointer (some q_1_1)]]) Tryz.func188 rfl Tryz.ntmps188 rfl (St.init w []) ?_
  refine c_seq ?_
  refine c_reg ?_
  refine ow_batch [.p] rfl ?_
  refine ow_nil ?_
  refine x_qs ?_
  refine c_seq ?_
  refine c_reg ?_
  refine ow_batch [.p, .p] rfl ?_
  obtain ⟨y16, h17, H⟩ := of_bind H
  refine ow_q rfl rfl (dstOk_lt rfl) (qy_call rfl fn238 rfl (fun w1 hw1 => lib_slices_IndexFunc___int_int___impl_nodeOk_1_ok w1 (cs_1_0 := [.int .i64 p1_0]) (cs_1_1 := [.slice a14 p1_1.Nodes_.length c15, .int .i64 p1_1.Seen_]) h17 (rds_bor g0 w1 hw1) rfl (at_bor bor hA_1_0 w1 hw1) (rdm_Timpl_Tree (x := p1_1) (c0 := [.slice a14 p1_1.Nodes_.length c15]) (c1 := [.int .i64 p1_1.Seen_]) (rds_bor g12 w1 hw1) rfl) (at_bor bor hA_1_1 w1 hw1))) (fun _ _ => trivial) ?_
  refine ow_batch [.p, .p] rfl ?_
  refine ow_nil ?_
  refine x_qs ?_
  refine c_ret ?_
  exact x_retR (rs := [.tmp 4]) (vs := [.bool (decide (y16 ≥ 0))]) rfl ⟨rfl, trivial⟩ (fun w' hw' => by
      obtain rfl := of_some H
      exact ⟨rfl, hw'.ext⟩)
end Go.Vk
