/- The code does what the functions of data say. Printed by program. -/

import Derived.Test.YtddoligbabahbaaWStateSameB

namespace Go.Vk

open Go.Proofs Go.RowKit



set_option maxHeartbeats 4000000 in
set_option maxRecDepth 100000 in
theorem lib_slices_EqualFunc_____int_____int___int___int___impl_sameLists_1_ok (w : World) {p0 : List (List Int)} {p1 : List (List Int)} {a_0 : Option Addr} {n_0 c_0 : Nat} {a_1 : Option Addr} {n_1 c_1 : Nat} {r : Bool} (H : lib_slices_EqualFunc_____int_____int___int___int___impl_sameLists_1 p0 p1 = some r)  (g0 : (eList (eList (eVal (Value.int .i64) (fun _ => rfl)) 3) 82).rd w [] p0 [.slice a_0 n_0 c_0]) (g1 : (eList (eList (eVal (Value.int .i64) (fun _ => rfl)) 3) 82).rd w [] p1 [.slice a_1 n_1 c_1]) :
    Calls Try.prog 64 #[.slice a_0 n_0 c_0, .slice a_1 n_1 c_1, .func (.func 65) #[] #[]] w (fun en w' => en = .returned (.bool r) ∧ Ext [] w w') := by
  obtain rfl := rd_n g0
  obtain rfl := rd_n g1
  unfold lib_slices_EqualFunc_____int_____int___int___int___impl_sameLists_1 at H
  refine f_enter (vs := [.slice a_0 p0.length c_0, .slice a_1 p1.length c_1, .func (.func 65) #[] #[]]) Try.func64 rfl Try.ntmps64 rfl (St.init w []) ?_
  refine c_seq ?_
  refine c_reg ?_
  refine ow_batch [.p] rfl ?_
  refine ow_nil ?_
  refine x_qs ?_
  refine c_seq ?_
  refine c_seq ?_
  refine c_reg ?_
  refine ow_batch [.p, .lenS 33 82 sl33, .p, .lenS 33 82 sl33, .p] rfl ?_
  refine ow_nil ?_
  refine x_qs ?_
  refine c_if rfl (fun hb => ?_) (fun hb => ?_)
  · have H := of_if_t hb H
    refine c_seq ?_
    refine c_reg ?_
    refine ow_batch [.p] rfl ?_
    refine ow_nil ?_
    refine x_qs ?_
    refine c_ret ?_
    refine x_qs_ret ?_
    exact x_retR (rs := [.tmp 6]) (vs := [.bool false]) rfl ⟨rfl, trivial⟩ (fun w' hw' => by
        obtain rfl := of_some H
        exact ⟨rfl, hw'.ext⟩)
  · have H := of_if_f hb H
    refine c_skip ?_
    refine x_qs ?_
    refine c_seq ?_
    refine c_seq ?_
    refine c_reg ?_
    refine ow_batch [.p, .lenS 33 82 sl33, .p] rfl ?_
    refine ow_nil ?_
    refine x_qs ?_
    refine c_block ?_
    refine CW.at (loopI1 (fun (i20 : Int) => St w [] []) (fun (i20 : Int) => [(1, .slice a_1 p1.length c_1), (2, .func (.func 65) #[] #[]), (15, .slice a_0 p0.length c_0), (16, .int .i64 (p0.length : Int)), (17, .int .i64 i20)]) (fun kk => fun (i20 : Int) => lib_slices_EqualFunc_____int_____int___int___int___impl_sameLists_1_L1 p0 p1 kk i20 = some r) (fun _ H => ?_) (fun k1 ihk1 i20 H => ?_) Fuel (0) (H)) (fun _ h => St.sel [] rfl rfl h) ⟨rfl, rfl, rfl, rfl, rfl,  trivial⟩
    · unfold lib_slices_EqualFunc_____int_____int___int___int___impl_sameLists_1_L1 at H
      exact absurd H (by simp)
    · unfold lib_slices_EqualFunc_____int_____int___int___int___impl_sameLists_1_L1 at H
      refine c_seq ?_
      refine c_reg ?_
      refine ow_batch [.p] rfl ?_
      refine ow_nil ?_
      refine x_qs ?_
      refine c_seq ?_
      refine c_if rfl (fun hb => ?_) (fun hb => ?_)
      · have H := of_if_t hb H
        refine c_skip ?_
        refine x_qs ?_
        refine c_seq ?_
        refine c_block ?_
        refine c_seq ?_
        refine c_reg ?_
        refine ow_batch [.p] rfl ?_
        obtain ⟨e40, h41, H⟩ := of_bind H
        refine ow_ixB rfl rfl rfl rfl rfl sl33 ty82 rfl g0 h41 (fun q44 c45 hd42 hA43 => ?_)
        obtain ⟨a46, c47, rfl⟩ := rd_sl1 hd42
        refine ow_r rfl (dstOk_lt rfl) (ry_load1 rfl rfl ty82 (at_bor bor hA43)) ?_
        refine ow_batch [.p, .p] rfl ?_
        refine ow_nil ?_
        refine x_qs ?_
        refine c_seq ?_
        refine c_reg ?_
        refine ow_batch [.p, .p] rfl ?_
        obtain ⟨e48, h49, H⟩ := of_bind H
        refine ow_ixB rfl rfl rfl rfl rfl sl33 ty82 rfl g1 h49 (fun q52 c53 hd50 hA51 => ?_)
        obtain ⟨a54, c55, rfl⟩ := rd_sl1 hd50
        refine ow_r rfl (dstOk_lt rfl) (ry_load1 rfl rfl ty82 (at_bor bor hA51)) ?_
        refine ow_batch [.p] rfl ?_
        refine ow_nil ?_
        refine x_qs ?_
        refine c_seq ?_
        refine c_reg ?_
        refine ow_batch [.p, .p, .p] rfl ?_
        obtain ⟨y56, h57, H⟩ := of_bind H
        refine ow_q rfl rfl (dstOk_lt rfl) (qy_callV (cap := []) rfl fn65 rfl rfl (fun w1 hw1 => impl_sameLists_1_ok w1  h57 (rds_bor hd42 w1 hw1) (rds_bor hd50 w1 hw1))) (fun _ _ => trivial) ?_
        refine ow_batch [.p] rfl ?_
        refine ow_nil ?_
        refine x_qs ?_
        refine c_if rfl (fun hb => ?_) (fun hb => ?_)
        · have H := of_if_t hb H
          refine c_seq ?_
          refine c_reg ?_
          refine ow_batch [.p] rfl ?_
          refine ow_nil ?_
          refine x_qs ?_
          refine c_ret ?_
          refine x_qb_ret ?_
          refine x_qs_ret ?_
          refine x_ql_ret ?_
          refine x_qb_ret ?_
          refine x_qs_ret ?_
          exact x_retR (rs := [.tmp 6]) (vs := [.bool false]) rfl ⟨rfl, trivial⟩ (fun w' hw' => by
              obtain rfl := of_some H
              exact ⟨rfl, hw'.ext⟩)
        · have H := of_if_f hb H
          refine c_skip ?_
          refine x_qb ?_
          refine x_qs ?_
          refine c_reg ?_
          refine ow_batch [.p, .p] rfl ?_
          refine ow_nil ?_
          exact x_ql (RW.at (ihk1 (IntKind.i64.wrap (i20 + 1)) (H)) (fun _ h => St.sel [] rfl rfl h) ⟨rfl, rfl, rfl, rfl, rfl, trivial⟩)
      · have H := of_if_f hb H
        refine c_exit ?_
        refine x_qs_exit ?_
        refine x_ql_exit ?_
        refine x_qb_here ?_
        refine x_qs ?_
        refine c_seq ?_
        refine c_reg ?_
        refine ow_batch [.p] rfl ?_
        refine ow_nil ?_
        refine x_qs ?_
        refine c_ret ?_
        exact x_retR (rs := [.tmp 6]) (vs := [.bool true]) rfl ⟨rfl, trivial⟩ (fun w' hw' => by
            obtain rfl := of_some H
            exact ⟨rfl, hw'.ext⟩)

set_option maxHeartbeats 4000000 in
set_option maxRecDepth 100000 in
theorem impl_sameLists_ok (w : World) {p0 : List (List Int)} {p1 : List (List Int)} {a_0 : Option Addr} {n_0 c_0 : Nat} {a_1 : Option Addr} {n_1 c_1 : Nat} {r : Bool} (H : impl_sameLists p0 p1 = some r)  (g0 : (eList (eList (eVal (Value.int .i64) (fun _ => rfl)) 3) 82).rd w [] p0 [.slice a_0 n_0 c_0]) (g1 : (eList (eList (eVal (Value.int .i64) (fun _ => rfl)) 3) 82).rd w [] p1 [.slice a_1 n_1 c_1]) :
    Calls Try.prog 39 #[.slice a_0 n_0 c_0, .slice a_1 n_1 c_1] w (fun en w' => en = .returned (.bool r) ∧ Ext [] w w') := by
  obtain rfl := rd_n g0
  obtain rfl := rd_n g1
  unfold impl_sameLists at H
  refine f_enter (vs := [.slice a_0 p0.length c_0, .slice a_1 p1.length c_1]) Try.func39 rfl Try.ntmps39 rfl (St.init w []) ?_
  refine c_seq ?_
  refine c_reg ?_
  refine ow_batch [.p] rfl ?_
  refine ow_nil ?_
  refine x_qs ?_
  refine c_seq ?_
  refine c_reg ?_
  refine ow_batch [.p, .p] rfl ?_
  obtain ⟨y1, h2, H⟩ := of_bind H
  refine ow_q rfl rfl (dstOk_lt rfl) (qy_call rfl fn64 rfl (fun w1 hw1 => lib_slices_EqualFunc_____int_____int___int___int___impl_sameLists_1_ok w1  h2 (rds_bor g0 w1 hw1) (rds_bor g1 w1 hw1))) (fun _ _ => trivial) ?_
  refine ow_batch [.p] rfl ?_
  refine ow_nil ?_
  refine x_qs ?_
  refine c_ret ?_
  exact x_retR (rs := [.tmp 4]) (vs := [.bool y1]) rfl ⟨rfl, trivial⟩ (fun w' hw' => by
      obtain rfl := of_some H
      exact ⟨rfl, hw'.ext⟩)

set_option maxHeartbeats 4000000 in
set_option maxRecDepth 100000 in
theorem impl_StatsSame_ok (w : World) {p0 : Timpl_Stats} {p1 : Timpl_Stats} {cs0 : List Value} {cs1 : List Value} {r : Bool} (H : impl_StatsSame p0 p1 = some r)  (g0 : (eTimpl_Stats).rd w [] p0 cs0) (g1 : (eTimpl_Stats).rd w [] p1 cs1) :
    Calls Try.prog 90 #[.agg cs0.toArray, .agg cs1.toArray] w (fun en w' => en = .returned (.bool r) ∧ Ext [] w w') := by
  obtain ⟨c1, c2, rfl, g3, g4⟩ := rdo_Timpl_Stats g0
  obtain ⟨a5, c6, rfl⟩ := rd_sl1 g3
  obtain ⟨a7, c8, rfl⟩ := rd_sl1 g4
  obtain ⟨c9, c10, rfl, g11, g12⟩ := rdo_Timpl_Stats g1
  obtain ⟨a13, c14, rfl⟩ := rd_sl1 g11
  obtain ⟨a15, c16, rfl⟩ := rd_sl1 g12
  unfold impl_StatsSame at H
  refine f_enter (vs := [.agg #[.slice a5 p0.Totals_.length c6, .slice a7 p0.Cells_.length c8], .agg #[.slice a13 p1.Totals_.length c14, .slice a15 p1.Cells_.length c16]]) Try.func90 rfl Try.ntmps90 rfl (St.init w []) ?_
  refine c_seq ?_
  refine c_reg ?_
  refine ow_box (cs := [.slice a5 p0.Totals_.length c6, .slice a7 p0.Cells_.length c8]) rfl rfl rfl rfl rfl rfl (fun _ => kp) (fun b17 => ?_)
  refine ow_box (cs := [.slice a13 p1.Totals_.length c14, .slice a15 p1.Cells_.length c16]) rfl rfl rfl rfl rfl rfl (fun _ => kp) (fun b18 => ?_)
  refine ow_batch [.p] rfl ?_
  refine ow_nil ?_
  refine x_qs ?_
  refine c_seq ?_
  refine c_reg ?_
  refine ow_batch [.fa 131 0 0 fa131_0] rfl ?_
  refine ow_r rfl (dstOk_lt rfl) (ry_box1 (off := 0) rfl rfl ty82 (boxIn (i := 0) rfl) rfl) ?_
  refine ow_batch [.fa 131 0 0 fa131_0] rfl ?_
  refine ow_r rfl (dstOk_lt rfl) (ry_box1 (off := 0) rfl rfl ty82 (boxIn (i := 1) rfl) rfl) ?_
  obtain ⟨y19, h20, H⟩ := of_bind H
  refine ow_q rfl rfl (dstOk_lt rfl) (qy_call rfl fn61 rfl (fun w1 hw1 => lib_slices_Equal___int_int__ok w1  h20 (rds_bor g3 w1 hw1) (rds_bor g11 w1 hw1))) (fun _ _ => trivial) ?_
  refine ow_batch [.p] rfl ?_
  obtain ⟨u21, hu25, H⟩ := of_bind H
  refine ow_cut [(16, .bool u21), (4, .bool false)] 6 ?_ (fun key => OW.sub (R := [(2, .pointer (some ⟨b17, 0, none⟩)), (3, .pointer (some ⟨b18, 0, none⟩)), (4, .bool false), (10, .bool y19)]) ?_ ⟨rfl, rfl, rfl, rfl, trivial⟩)
  · refine ow_batch [.p] rfl ?_
    refine ow_nil ?_
    refine x_qs ?_
    refine c_ret ?_
    exact x_retR (rs := [.tmp 4]) (vs := [.bool u21]) rfl ⟨rfl, trivial⟩ (fun w' hw' => by
        obtain rfl := of_some H
        exact ⟨rfl, hw'.ext⟩)
  · clear H
    have H := hu25
    clear hu25
    generalize y19 = t24 at H ⊢
    cases t24
    · have H := of_if_f rfl H
      refine ow_batch [.p, .p, .p, .p, .p, .p] rfl ?_
      obtain rfl := of_some H
      exact OW.sub key ⟨rfl, rfl, trivial⟩
    · have H := of_if_t rfl H
      refine ow_batch [.fa 131 1 1 fa131_1] rfl ?_
      refine ow_r rfl (dstOk_lt rfl) (ry_box1 (off := 1) rfl rfl ty33 (boxIn (i := 0) rfl) rfl) ?_
      refine ow_batch [.fa 131 1 1 fa131_1] rfl ?_
      refine ow_r rfl (dstOk_lt rfl) (ry_box1 (off := 1) rfl rfl ty33 (boxIn (i := 1) rfl) rfl) ?_
      obtain ⟨y22, h23, H⟩ := of_bind H
      refine ow_q rfl rfl (dstOk_lt rfl) (qy_call rfl fn39 rfl (fun w1 hw1 => impl_sameLists_ok w1  h23 (rds_bor g4 w1 hw1) (rds_bor g12 w1 hw1))) (fun _ _ => trivial) ?_
      refine ow_batch [.p] rfl ?_
      obtain rfl := of_some H
      exact OW.sub key ⟨rfl, rfl, trivial⟩

set_option maxHeartbeats 4000000 in
set_option maxRecDepth 100000 in
theorem impl_NodeSame_ok (w : World) {p0 : Timpl_Node} {p1 : Timpl_Node} {cs0 : List Value} {cs1 : List Value} {r : Bool} (H : impl_NodeSame p0 p1 = some r)  (g0 : (eTimpl_Node).rd w [] p0 cs0) (g1 : (eTimpl_Node).rd w [] p1 cs1) :
    Calls Try.prog 80 #[.agg cs0.toArray, .agg cs1.toArray] w (fun en w' => en = .returned (.bool r) ∧ Ext [] w w') := by
  obtain ⟨c1, c2, c3, c4, c5, c6, c7, c8, c9, c10, rfl, g11, g12, g13, g14, g15, g16, g17, g18, g19, g20⟩ := rdo_Timpl_Node g0
  obtain rfl : c1 = [.bool p0.Leaf_] := g11
  obtain rfl : c2 = [.int .i64 p0.Fork_.Attr_, .int .i64 p0.Fork_.At_] := g12
  obtain ⟨a21, c22, rfl⟩ := rd_sl1 g13
  obtain rfl : c4 = [.int .i64 p0.Miss_] := g14
  obtain ⟨c23, c24, rfl, g25, g26⟩ := rdo_Timpl_Stats g15
  obtain ⟨a27, c28, rfl⟩ := rd_sl1 g25
  obtain ⟨a29, c30, rfl⟩ := rd_sl1 g26
  obtain rfl : c6 = [.int .i64 p0.Since_] := g16
  obtain ⟨a31, c32, rfl⟩ := rd_sl1 g17
  obtain rfl : c8 = [.int .i64 p0.Depth_] := g18
  obtain rfl : c9 = [.int .i64 p0.Up_] := g19
  obtain rfl : c10 = [.int .i64 p0.Born_] := g20
  obtain ⟨c33, c34, c35, c36, c37, c38, c39, c40, c41, c42, rfl, g43, g44, g45, g46, g47, g48, g49, g50, g51, g52⟩ := rdo_Timpl_Node g1
  obtain rfl : c33 = [.bool p1.Leaf_] := g43
  obtain rfl : c34 = [.int .i64 p1.Fork_.Attr_, .int .i64 p1.Fork_.At_] := g44
  obtain ⟨a53, c54, rfl⟩ := rd_sl1 g45
  obtain rfl : c36 = [.int .i64 p1.Miss_] := g46
  obtain ⟨c55, c56, rfl, g57, g58⟩ := rdo_Timpl_Stats g47
  obtain ⟨a59, c60, rfl⟩ := rd_sl1 g57
  obtain ⟨a61, c62, rfl⟩ := rd_sl1 g58
  obtain rfl : c38 = [.int .i64 p1.Since_] := g48
  obtain ⟨a63, c64, rfl⟩ := rd_sl1 g49
  obtain rfl : c40 = [.int .i64 p1.Depth_] := g50
  obtain rfl : c41 = [.int .i64 p1.Up_] := g51
  obtain rfl : c42 = [.int .i64 p1.Born_] := g52
  unfold impl_NodeSame at H
  refine f_enter (vs := [.agg #[.bool p0.Leaf_, .int .i64 p0.Fork_.Attr_, .int .i64 p0.Fork_.At_, .slice a21 p0.Kids_.length c22, .int .i64 p0.Miss_, .slice a27 p0.Stats_.Totals_.length c28, .slice a29 p0.Stats_.Cells_.length c30, .int .i64 p0.Since_, .slice a31 p0.Attrs_.length c32, .int .i64 p0.Depth_, .int .i64 p0.Up_, .int .i64 p0.Born_], .agg #[.bool p1.Leaf_, .int .i64 p1.Fork_.Attr_, .int .i64 p1.Fork_.At_, .slice a53 p1.Kids_.length c54, .int .i64 p1.Miss_, .slice a59 p1.Stats_.Totals_.length c60, .slice a61 p1.Stats_.Cells_.length c62, .int .i64 p1.Since_, .slice a63 p1.Attrs_.length c64, .int .i64 p1.Depth_, .int .i64 p1.Up_, .int .i64 p1.Born_]]) Try.func80 rfl Try.ntmps80 rfl (St.init w []) ?_
  refine c_seq ?_
  refine c_reg ?_
  refine ow_box (cs := [.bool p0.Leaf_, .int .i64 p0.Fork_.Attr_, .int .i64 p0.Fork_.At_, .slice a21 p0.Kids_.length c22, .int .i64 p0.Miss_, .slice a27 p0.Stats_.Totals_.length c28, .slice a29 p0.Stats_.Cells_.length c30, .int .i64 p0.Since_, .slice a31 p0.Attrs_.length c32, .int .i64 p0.Depth_, .int .i64 p0.Up_, .int .i64 p0.Born_]) rfl rfl rfl rfl rfl rfl (fun _ => kp) (fun b65 => ?_)
  refine ow_box (cs := [.bool p1.Leaf_, .int .i64 p1.Fork_.Attr_, .int .i64 p1.Fork_.At_, .slice a53 p1.Kids_.length c54, .int .i64 p1.Miss_, .slice a59 p1.Stats_.Totals_.length c60, .slice a61 p1.Stats_.Cells_.length c62, .int .i64 p1.Since_, .slice a63 p1.Attrs_.length c64, .int .i64 p1.Depth_, .int .i64 p1.Up_, .int .i64 p1.Born_]) rfl rfl rfl rfl rfl rfl (fun _ => kp) (fun b66 => ?_)
  refine ow_batch [.p] rfl ?_
  refine ow_nil ?_
  refine x_qs ?_
  refine c_seq ?_
  refine c_reg ?_
  refine ow_batch [.fa 133 0 0 fa133_0] rfl ?_
  refine ow_r rfl (dstOk_lt rfl) (ry_box1 (off := 0) rfl rfl ty4 (boxIn (i := 0) rfl) rfl) ?_
  refine ow_batch [.fa 133 0 0 fa133_0] rfl ?_
  refine ow_r rfl (dstOk_lt rfl) (ry_box1 (off := 0) rfl rfl ty4 (boxIn (i := 1) rfl) rfl) ?_
  refine ow_r rfl (dstOk_lt rfl) (ry_beql rfl rfl rfl bl4) ?_
  refine ow_batch [.p] rfl ?_
  refine ow_cut [(16, .bool ((p0.Leaf_ == p1.Leaf_) && (p0.Fork_.Attr_ == p1.Fork_.Attr_ && (p0.Fork_.At_ == p1.Fork_.At_ && true)))), (2, .pointer (some ⟨b65, 0, none⟩)), (3, .pointer (some ⟨b66, 0, none⟩)), (4, .bool false)] 6 ?_ (fun key => OW.sub (R := [(2, .pointer (some ⟨b65, 0, none⟩)), (3, .pointer (some ⟨b66, 0, none⟩)), (4, .bool false), (10, .bool (p0.Leaf_ == p1.Leaf_))]) ?_ ⟨rfl, rfl, rfl, rfl, trivial⟩)
  · refine ow_batch [.p] rfl ?_
    obtain ⟨u69, hu73, H⟩ := of_bind H
    refine ow_cut [(23, .bool u69), (2, .pointer (some ⟨b65, 0, none⟩)), (3, .pointer (some ⟨b66, 0, none⟩)), (4, .bool false)] 6 ?_ (fun key => OW.sub (R := [(2, .pointer (some ⟨b65, 0, none⟩)), (3, .pointer (some ⟨b66, 0, none⟩)), (4, .bool false), (17, .bool ((p0.Leaf_ == p1.Leaf_) && (p0.Fork_.Attr_ == p1.Fork_.Attr_ && (p0.Fork_.At_ == p1.Fork_.At_ && true))))]) ?_ ⟨rfl, rfl, rfl, rfl, trivial⟩)
    · refine ow_batch [.p] rfl ?_
      refine ow_cut [(30, .bool (u69 && (p0.Miss_ == p1.Miss_))), (2, .pointer (some ⟨b65, 0, none⟩)), (3, .pointer (some ⟨b66, 0, none⟩)), (4, .bool false)] 6 ?_ (fun key => OW.sub (R := [(2, .pointer (some ⟨b65, 0, none⟩)), (3, .pointer (some ⟨b66, 0, none⟩)), (4, .bool false), (24, .bool u69)]) ?_ ⟨rfl, rfl, rfl, rfl, trivial⟩)
      · refine ow_batch [.p] rfl ?_
        obtain ⟨u76, hu80, H⟩ := of_bind H
        refine ow_cut [(37, .bool u76), (2, .pointer (some ⟨b65, 0, none⟩)), (3, .pointer (some ⟨b66, 0, none⟩)), (4, .bool false)] 6 ?_ (fun key => OW.sub (R := [(2, .pointer (some ⟨b65, 0, none⟩)), (3, .pointer (some ⟨b66, 0, none⟩)), (4, .bool false), (31, .bool (u69 && (p0.Miss_ == p1.Miss_)))]) ?_ ⟨rfl, rfl, rfl, rfl, trivial⟩)
        · refine ow_batch [.p] rfl ?_
          refine ow_cut [(44, .bool (u76 && (p0.Since_ == p1.Since_))), (2, .pointer (some ⟨b65, 0, none⟩)), (3, .pointer (some ⟨b66, 0, none⟩)), (4, .bool false)] 6 ?_ (fun key => OW.sub (R := [(2, .pointer (some ⟨b65, 0, none⟩)), (3, .pointer (some ⟨b66, 0, none⟩)), (4, .bool false), (38, .bool u76)]) ?_ ⟨rfl, rfl, rfl, rfl, trivial⟩)
          · refine ow_batch [.p] rfl ?_
            obtain ⟨u83, hu87, H⟩ := of_bind H
            refine ow_cut [(51, .bool u83), (2, .pointer (some ⟨b65, 0, none⟩)), (3, .pointer (some ⟨b66, 0, none⟩)), (4, .bool false)] 6 ?_ (fun key => OW.sub (R := [(2, .pointer (some ⟨b65, 0, none⟩)), (3, .pointer (some ⟨b66, 0, none⟩)), (4, .bool false), (45, .bool (u76 && (p0.Since_ == p1.Since_)))]) ?_ ⟨rfl, rfl, rfl, rfl, trivial⟩)
            · refine ow_batch [.p] rfl ?_
              refine ow_cut [(58, .bool (u83 && (p0.Depth_ == p1.Depth_))), (2, .pointer (some ⟨b65, 0, none⟩)), (3, .pointer (some ⟨b66, 0, none⟩)), (4, .bool false)] 6 ?_ (fun key => OW.sub (R := [(2, .pointer (some ⟨b65, 0, none⟩)), (3, .pointer (some ⟨b66, 0, none⟩)), (4, .bool false), (52, .bool u83)]) ?_ ⟨rfl, rfl, rfl, rfl, trivial⟩)
              · refine ow_batch [.p] rfl ?_
                refine ow_cut [(65, .bool ((u83 && (p0.Depth_ == p1.Depth_)) && (p0.Up_ == p1.Up_))), (2, .pointer (some ⟨b65, 0, none⟩)), (3, .pointer (some ⟨b66, 0, none⟩)), (4, .bool false)] 6 ?_ (fun key => OW.sub (R := [(2, .pointer (some ⟨b65, 0, none⟩)), (3, .pointer (some ⟨b66, 0, none⟩)), (4, .bool false), (59, .bool (u83 && (p0.Depth_ == p1.Depth_)))]) ?_ ⟨rfl, rfl, rfl, rfl, trivial⟩)
                · refine ow_batch [.p] rfl ?_
                  refine ow_cut [(72, .bool (((u83 && (p0.Depth_ == p1.Depth_)) && (p0.Up_ == p1.Up_)) && (p0.Born_ == p1.Born_))), (4, .bool false)] 6 ?_ (fun key => OW.sub (R := [(2, .pointer (some ⟨b65, 0, none⟩)), (3, .pointer (some ⟨b66, 0, none⟩)), (4, .bool false), (66, .bool ((u83 && (p0.Depth_ == p1.Depth_)) && (p0.Up_ == p1.Up_)))]) ?_ ⟨rfl, rfl, rfl, rfl, trivial⟩)
                  · refine ow_batch [.p] rfl ?_
                    refine ow_nil ?_
                    refine x_qs ?_
                    refine c_ret ?_
                    exact x_retR (rs := [.tmp 4]) (vs := [.bool (((u83 && (p0.Depth_ == p1.Depth_)) && (p0.Up_ == p1.Up_)) && (p0.Born_ == p1.Born_))]) rfl ⟨rfl, trivial⟩ (fun w' hw' => by
                        obtain rfl := of_some H
                        exact ⟨rfl, hw'.ext⟩)
                  · generalize ((u83 && (p0.Depth_ == p1.Depth_)) && (p0.Up_ == p1.Up_)) = t93 at key ⊢
                    cases t93
                    · refine ow_batch [.p, .p, .p, .p, .p, .p] rfl ?_
                      exact OW.sub key ⟨rfl, rfl, trivial⟩
                    · refine ow_batch [.fa 133 9 11 fa133_9] rfl ?_
                      refine ow_r rfl (dstOk_lt rfl) (ry_box1 (off := 11) rfl rfl ty3 (boxIn (i := 0) rfl) rfl) ?_
                      refine ow_batch [.fa 133 9 11 fa133_9] rfl ?_
                      refine ow_r rfl (dstOk_lt rfl) (ry_box1 (off := 11) rfl rfl ty3 (boxIn (i := 1) rfl) rfl) ?_
                      refine ow_batch [.p] rfl ?_
                      refine ow_batch [.p] rfl ?_
                      exact OW.sub key ⟨rfl, rfl, trivial⟩
                · generalize (u83 && (p0.Depth_ == p1.Depth_)) = t91 at key ⊢
                  cases t91
                  · refine ow_batch [.p, .p, .p, .p, .p, .p] rfl ?_
                    exact OW.sub key ⟨rfl, rfl, rfl, rfl, trivial⟩
                  · refine ow_batch [.fa 133 8 10 fa133_8] rfl ?_
                    refine ow_r rfl (dstOk_lt rfl) (ry_box1 (off := 10) rfl rfl ty3 (boxIn (i := 0) rfl) rfl) ?_
                    refine ow_batch [.fa 133 8 10 fa133_8] rfl ?_
                    refine ow_r rfl (dstOk_lt rfl) (ry_box1 (off := 10) rfl rfl ty3 (boxIn (i := 1) rfl) rfl) ?_
                    refine ow_batch [.p] rfl ?_
                    refine ow_batch [.p] rfl ?_
                    exact OW.sub key ⟨rfl, rfl, rfl, rfl, trivial⟩
              · generalize u83 = t89 at key ⊢
                cases t89
                · refine ow_batch [.p, .p, .p, .p, .p, .p] rfl ?_
                  exact OW.sub key ⟨rfl, rfl, rfl, rfl, trivial⟩
                · refine ow_batch [.fa 133 7 9 fa133_7] rfl ?_
                  refine ow_r rfl (dstOk_lt rfl) (ry_box1 (off := 9) rfl rfl ty3 (boxIn (i := 0) rfl) rfl) ?_
                  refine ow_batch [.fa 133 7 9 fa133_7] rfl ?_
                  refine ow_r rfl (dstOk_lt rfl) (ry_box1 (off := 9) rfl rfl ty3 (boxIn (i := 1) rfl) rfl) ?_
                  refine ow_batch [.p] rfl ?_
                  refine ow_batch [.p] rfl ?_
                  exact OW.sub key ⟨rfl, rfl, rfl, rfl, trivial⟩
            · clear H
              have H := hu87
              clear hu87
              generalize (u76 && (p0.Since_ == p1.Since_)) = t86 at H ⊢
              cases t86
              · have H := of_if_f rfl H
                refine ow_batch [.p, .p, .p, .p, .p, .p] rfl ?_
                obtain rfl := of_some H
                exact OW.sub key ⟨rfl, rfl, rfl, rfl, trivial⟩
              · have H := of_if_t rfl H
                refine ow_batch [.fa 133 6 8 fa133_6] rfl ?_
                refine ow_r rfl (dstOk_lt rfl) (ry_box1 (off := 8) rfl rfl ty82 (boxIn (i := 0) rfl) rfl) ?_
                refine ow_batch [.fa 133 6 8 fa133_6] rfl ?_
                refine ow_r rfl (dstOk_lt rfl) (ry_box1 (off := 8) rfl rfl ty82 (boxIn (i := 1) rfl) rfl) ?_
                obtain ⟨y84, h85, H⟩ := of_bind H
                refine ow_q rfl rfl (dstOk_lt rfl) (qy_call rfl fn61 rfl (fun w1 hw1 => lib_slices_Equal___int_int__ok w1  h85 (rds_bor g17 w1 hw1) (rds_bor g49 w1 hw1))) (fun _ _ => trivial) ?_
                refine ow_batch [.p] rfl ?_
                obtain rfl := of_some H
                exact OW.sub key ⟨rfl, rfl, rfl, rfl, trivial⟩
          · generalize u76 = t82 at key ⊢
            cases t82
            · refine ow_batch [.p, .p, .p, .p, .p, .p] rfl ?_
              exact OW.sub key ⟨rfl, rfl, rfl, rfl, trivial⟩
            · refine ow_batch [.fa 133 5 7 fa133_5] rfl ?_
              refine ow_r rfl (dstOk_lt rfl) (ry_box1 (off := 7) rfl rfl ty3 (boxIn (i := 0) rfl) rfl) ?_
              refine ow_batch [.fa 133 5 7 fa133_5] rfl ?_
              refine ow_r rfl (dstOk_lt rfl) (ry_box1 (off := 7) rfl rfl ty3 (boxIn (i := 1) rfl) rfl) ?_
              refine ow_batch [.p] rfl ?_
              refine ow_batch [.p] rfl ?_
              exact OW.sub key ⟨rfl, rfl, rfl, rfl, trivial⟩
        · clear H
          have H := hu80
          clear hu80
          generalize (u69 && (p0.Miss_ == p1.Miss_)) = t79 at H ⊢
          cases t79
          · have H := of_if_f rfl H
            refine ow_batch [.p, .p, .p, .p, .p, .p] rfl ?_
            obtain rfl := of_some H
            exact OW.sub key ⟨rfl, rfl, rfl, rfl, trivial⟩
          · have H := of_if_t rfl H
            refine ow_batch [.fa 133 4 5 fa133_4] rfl ?_
            refine ow_r rfl (dstOk_lt rfl) (ry_box (off := 5) (ds := [.slice a27 p0.Stats_.Totals_.length c28, .slice a29 p0.Stats_.Cells_.length c30]) rfl rfl ty131 (boxIn (i := 0) rfl) rfl rfl) ?_
            refine ow_batch [.fa 133 4 5 fa133_4] rfl ?_
            refine ow_r rfl (dstOk_lt rfl) (ry_box (off := 5) (ds := [.slice a59 p1.Stats_.Totals_.length c60, .slice a61 p1.Stats_.Cells_.length c62]) rfl rfl ty131 (boxIn (i := 1) rfl) rfl rfl) ?_
            obtain ⟨y77, h78, H⟩ := of_bind H
            refine ow_q rfl rfl (dstOk_lt rfl) (qy_call rfl fn90 rfl (fun w1 hw1 => impl_StatsSame_ok w1 (cs0 := [.slice a27 p0.Stats_.Totals_.length c28, .slice a29 p0.Stats_.Cells_.length c30]) (cs1 := [.slice a59 p1.Stats_.Totals_.length c60, .slice a61 p1.Stats_.Cells_.length c62]) h78 (rdm_Timpl_Stats (x := p0.Stats_) (c0 := [.slice a27 p0.Stats_.Totals_.length c28]) (c1 := [.slice a29 p0.Stats_.Cells_.length c30]) (rds_bor g25 w1 hw1) (rds_bor g26 w1 hw1)) (rdm_Timpl_Stats (x := p1.Stats_) (c0 := [.slice a59 p1.Stats_.Totals_.length c60]) (c1 := [.slice a61 p1.Stats_.Cells_.length c62]) (rds_bor g57 w1 hw1) (rds_bor g58 w1 hw1)))) (fun _ _ => trivial) ?_
            refine ow_batch [.p] rfl ?_
            obtain rfl := of_some H
            exact OW.sub key ⟨rfl, rfl, rfl, rfl, trivial⟩
      · generalize u69 = t75 at key ⊢
        cases t75
        · refine ow_batch [.p, .p, .p, .p, .p, .p] rfl ?_
          exact OW.sub key ⟨rfl, rfl, rfl, rfl, trivial⟩
        · refine ow_batch [.fa 133 3 4 fa133_3] rfl ?_
          refine ow_r rfl (dstOk_lt rfl) (ry_box1 (off := 4) rfl rfl ty3 (boxIn (i := 0) rfl) rfl) ?_
          refine ow_batch [.fa 133 3 4 fa133_3] rfl ?_
          refine ow_r rfl (dstOk_lt rfl) (ry_box1 (off := 4) rfl rfl ty3 (boxIn (i := 1) rfl) rfl) ?_
          refine ow_batch [.p] rfl ?_
          refine ow_batch [.p] rfl ?_
          exact OW.sub key ⟨rfl, rfl, rfl, rfl, trivial⟩
    · clear H
      have H := hu73
      clear hu73
      generalize ((p0.Leaf_ == p1.Leaf_) && (p0.Fork_.Attr_ == p1.Fork_.Attr_ && (p0.Fork_.At_ == p1.Fork_.At_ && true))) = t72 at H ⊢
      cases t72
      · have H := of_if_f rfl H
        refine ow_batch [.p, .p, .p, .p, .p, .p] rfl ?_
        obtain rfl := of_some H
        exact OW.sub key ⟨rfl, rfl, rfl, rfl, trivial⟩
      · have H := of_if_t rfl H
        refine ow_batch [.fa 133 2 3 fa133_2] rfl ?_
        refine ow_r rfl (dstOk_lt rfl) (ry_box1 (off := 3) rfl rfl ty82 (boxIn (i := 0) rfl) rfl) ?_
        refine ow_batch [.fa 133 2 3 fa133_2] rfl ?_
        refine ow_r rfl (dstOk_lt rfl) (ry_box1 (off := 3) rfl rfl ty82 (boxIn (i := 1) rfl) rfl) ?_
        obtain ⟨y70, h71, H⟩ := of_bind H
        refine ow_q rfl rfl (dstOk_lt rfl) (qy_call rfl fn61 rfl (fun w1 hw1 => lib_slices_Equal___int_int__ok w1  h71 (rds_bor g13 w1 hw1) (rds_bor g45 w1 hw1))) (fun _ _ => trivial) ?_
        refine ow_batch [.p] rfl ?_
        obtain rfl := of_some H
        exact OW.sub key ⟨rfl, rfl, rfl, rfl, trivial⟩
  · generalize (p0.Leaf_ == p1.Leaf_) = t68 at key ⊢
    cases t68
    · refine ow_batch [.p, .p, .p, .p, .p, .p] rfl ?_
      exact OW.sub key ⟨rfl, rfl, rfl, rfl, trivial⟩
    · refine ow_batch [.fa 133 1 1 fa133_1] rfl ?_
      refine ow_r rfl (dstOk_lt rfl) (ry_box (off := 1) (ds := [.int .i64 p0.Fork_.Attr_, .int .i64 p0.Fork_.At_]) rfl rfl ty129 (boxIn (i := 0) rfl) rfl rfl) ?_
      refine ow_batch [.fa 133 1 1 fa133_1] rfl ?_
      refine ow_r rfl (dstOk_lt rfl) (ry_box (off := 1) (ds := [.int .i64 p1.Fork_.Attr_, .int .i64 p1.Fork_.At_]) rfl rfl ty129 (boxIn (i := 1) rfl) rfl rfl) ?_
      refine ow_r rfl (dstOk_lt rfl) (ry_seql (xs := [.int .i64 p0.Fork_.Attr_, .int .i64 p0.Fork_.At_]) (ys := [.int .i64 p1.Fork_.Attr_, .int .i64 p1.Fork_.At_]) rfl rfl rfl (se129 p0.Fork_.Attr_ p1.Fork_.Attr_ p0.Fork_.At_ p1.Fork_.At_)) ?_
      refine ow_batch [.p] rfl ?_
      exact OW.sub key ⟨rfl, rfl, rfl, rfl, trivial⟩

set_option maxHeartbeats 4000000 in
set_option maxRecDepth 100000 in
theorem lib_slices_EqualFunc___impl_Node___impl_Node_impl_Node_impl_Node___impl_NodeSame_ok (w : World) {p0 : List Timpl_Node} {p1 : List Timpl_Node} {a_0 : Option Addr} {n_0 c_0 : Nat} {a_1 : Option Addr} {n_1 c_1 : Nat} {r : Bool} (H : lib_slices_EqualFunc___impl_Node___impl_Node_impl_Node_impl_Node___impl_NodeSame p0 p1 = some r)  (g0 : (eList (eTimpl_Node) 133).rd w [] p0 [.slice a_0 n_0 c_0]) (g1 : (eList (eTimpl_Node) 133).rd w [] p1 [.slice a_1 n_1 c_1]) :
    Calls Try.prog 79 #[.slice a_0 n_0 c_0, .slice a_1 n_1 c_1, .func (.func 80) #[] #[]] w (fun en w' => en = .returned (.bool r) ∧ Ext [] w w') := by
  obtain rfl := rd_n g0
  obtain rfl := rd_n g1
  unfold lib_slices_EqualFunc___impl_Node___impl_Node_impl_Node_impl_Node___impl_NodeSame at H
  refine f_enter (vs := [.slice a_0 p0.length c_0, .slice a_1 p1.length c_1, .func (.func 80) #[] #[]]) Try.func79 rfl Try.ntmps79 rfl (St.init w []) ?_
  refine c_seq ?_
  refine c_reg ?_
  refine ow_batch [.p] rfl ?_
  refine ow_nil ?_
  refine x_qs ?_
  refine c_seq ?_
  refine c_seq ?_
  refine c_reg ?_
  refine ow_batch [.p, .lenS 72 133 sl72, .p, .lenS 72 133 sl72, .p] rfl ?_
  refine ow_nil ?_
  refine x_qs ?_
  refine c_if rfl (fun hb => ?_) (fun hb => ?_)
  · have H := of_if_t hb H
    refine c_seq ?_
    refine c_reg ?_
    refine ow_batch [.p] rfl ?_
    refine ow_nil ?_
    refine x_qs ?_
    refine c_ret ?_
    refine x_qs_ret ?_
    exact x_retR (rs := [.tmp 6]) (vs := [.bool false]) rfl ⟨rfl, trivial⟩ (fun w' hw' => by
        obtain rfl := of_some H
        exact ⟨rfl, hw'.ext⟩)
  · have H := of_if_f hb H
    refine c_skip ?_
    refine x_qs ?_
    refine c_seq ?_
    refine c_seq ?_
    refine c_reg ?_
    refine ow_batch [.p, .lenS 72 133 sl72, .p] rfl ?_
    refine ow_nil ?_
    refine x_qs ?_
    refine c_block ?_
    refine CW.at (loopI1 (fun (i82 : Int) => St w [] []) (fun (i82 : Int) => [(1, .slice a_1 p1.length c_1), (2, .func (.func 80) #[] #[]), (15, .slice a_0 p0.length c_0), (16, .int .i64 (p0.length : Int)), (17, .int .i64 i82)]) (fun kk => fun (i82 : Int) => lib_slices_EqualFunc___impl_Node___impl_Node_impl_Node_impl_Node___impl_NodeSame_L1 p0 p1 kk i82 = some r) (fun _ H => ?_) (fun k1 ihk1 i82 H => ?_) Fuel (0) (H)) (fun _ h => St.sel [] rfl rfl h) ⟨rfl, rfl, rfl, rfl, rfl,  trivial⟩
    · unfold lib_slices_EqualFunc___impl_Node___impl_Node_impl_Node_impl_Node___impl_NodeSame_L1 at H
      exact absurd H (by simp)
    · unfold lib_slices_EqualFunc___impl_Node___impl_Node_impl_Node_impl_Node___impl_NodeSame_L1 at H
      refine c_seq ?_
      refine c_reg ?_
      refine ow_batch [.p] rfl ?_
      refine ow_nil ?_
      refine x_qs ?_
      refine c_seq ?_
      refine c_if rfl (fun hb => ?_) (fun hb => ?_)
      · have H := of_if_t hb H
        refine c_skip ?_
        refine x_qs ?_
        refine c_seq ?_
        refine c_block ?_
        refine c_seq ?_
        refine c_reg ?_
        refine ow_batch [.p] rfl ?_
        obtain ⟨e164, h165, H⟩ := of_bind H
        refine ow_ixB rfl rfl rfl rfl rfl sl72 ty133 rfl g0 h165 (fun q168 c169 hd166 hA167 => ?_)
        obtain ⟨c170, c171, c172, c173, c174, c175, c176, c177, c178, c179, rfl, g180, g181, g182, g183, g184, g185, g186, g187, g188, g189⟩ := rdo_Timpl_Node hd166
        obtain rfl : c170 = [.bool e164.Leaf_] := g180
        obtain rfl : c171 = [.int .i64 e164.Fork_.Attr_, .int .i64 e164.Fork_.At_] := g181
        obtain ⟨a190, c191, rfl⟩ := rd_sl1 g182
        obtain rfl : c173 = [.int .i64 e164.Miss_] := g183
        obtain ⟨c192, c193, rfl, g194, g195⟩ := rdo_Timpl_Stats g184
        obtain ⟨a196, c197, rfl⟩ := rd_sl1 g194
        obtain ⟨a198, c199, rfl⟩ := rd_sl1 g195
        obtain rfl : c175 = [.int .i64 e164.Since_] := g185
        obtain ⟨a200, c201, rfl⟩ := rd_sl1 g186
        obtain rfl : c177 = [.int .i64 e164.Depth_] := g187
        obtain rfl : c178 = [.int .i64 e164.Up_] := g188
        obtain rfl : c179 = [.int .i64 e164.Born_] := g189
        refine ow_r rfl (dstOk_lt rfl) (ry_load (cs := [.bool e164.Leaf_, .int .i64 e164.Fork_.Attr_, .int .i64 e164.Fork_.At_, .slice a190 e164.Kids_.length c191, .int .i64 e164.Miss_, .slice a196 e164.Stats_.Totals_.length c197, .slice a198 e164.Stats_.Cells_.length c199, .int .i64 e164.Since_, .slice a200 e164.Attrs_.length c201, .int .i64 e164.Depth_, .int .i64 e164.Up_, .int .i64 e164.Born_]) rfl rfl ty133 (at_bor bor hA167) rfl) ?_
        refine ow_alloc rfl rfl rfl rfl ty133 (fun _ => kp) (fun b202 => ?_)
        refine ow_batch [.p] rfl ?_
        refine ow_storeC (off := 0) [.bool e164.Leaf_, .int .i64 e164.Fork_.Attr_, .int .i64 e164.Fork_.At_, .slice a190 e164.Kids_.length c191, .int .i64 e164.Miss_, .slice a196 e164.Stats_.Totals_.length c197, .slice a198 e164.Stats_.Cells_.length c199, .int .i64 e164.Since_, .slice a200 e164.Attrs_.length c201, .int .i64 e164.Depth_, .int .i64 e164.Up_, .int .i64 e164.Born_] [_, _, _, _, _, _, _, _, _, _, _, _] (i := 0) rfl rfl rfl rfl rfl rfl ty133 rfl rfl (by intro u hu; simp only [List.mem_cons, List.not_mem_nil, or_false] at hu; rcases hu with rfl | rfl | rfl | rfl | rfl | rfl | rfl | rfl | rfl | rfl | rfl | rfl <;> rfl) rfl rfl rfl kp ?_
        refine ow_nil ?_
        refine x_qs ?_
        refine c_seq ?_
        refine c_reg ?_
        refine ow_batch [.p, .p] rfl ?_
        obtain ⟨e203, h204, H⟩ := of_bind H
        refine ow_ixB rfl rfl rfl rfl rfl sl72 ty133 rfl g1 h204 (fun q207 c208 hd205 hA206 => ?_)
        obtain ⟨c209, c210, c211, c212, c213, c214, c215, c216, c217, c218, rfl, g219, g220, g221, g222, g223, g224, g225, g226, g227, g228⟩ := rdo_Timpl_Node hd205
        obtain rfl : c209 = [.bool e203.Leaf_] := g219
        obtain rfl : c210 = [.int .i64 e203.Fork_.Attr_, .int .i64 e203.Fork_.At_] := g220
        obtain ⟨a229, c230, rfl⟩ := rd_sl1 g221
        obtain rfl : c212 = [.int .i64 e203.Miss_] := g222
        obtain ⟨c231, c232, rfl, g233, g234⟩ := rdo_Timpl_Stats g223
        obtain ⟨a235, c236, rfl⟩ := rd_sl1 g233
        obtain ⟨a237, c238, rfl⟩ := rd_sl1 g234
        obtain rfl : c214 = [.int .i64 e203.Since_] := g224
        obtain ⟨a239, c240, rfl⟩ := rd_sl1 g225
        obtain rfl : c216 = [.int .i64 e203.Depth_] := g226
        obtain rfl : c217 = [.int .i64 e203.Up_] := g227
        obtain rfl : c218 = [.int .i64 e203.Born_] := g228
        refine ow_r rfl (dstOk_lt rfl) (ry_load (cs := [.bool e203.Leaf_, .int .i64 e203.Fork_.Attr_, .int .i64 e203.Fork_.At_, .slice a229 e203.Kids_.length c230, .int .i64 e203.Miss_, .slice a235 e203.Stats_.Totals_.length c236, .slice a237 e203.Stats_.Cells_.length c238, .int .i64 e203.Since_, .slice a239 e203.Attrs_.length c240, .int .i64 e203.Depth_, .int .i64 e203.Up_, .int .i64 e203.Born_]) rfl rfl ty133 (at_bor bor hA206) rfl) ?_
        refine ow_alloc rfl rfl rfl rfl ty133 (fun _ => kp) (fun b241 => ?_)
        refine ow_storeC (off := 0) [.bool e203.Leaf_, .int .i64 e203.Fork_.Attr_, .int .i64 e203.Fork_.At_, .slice a229 e203.Kids_.length c230, .int .i64 e203.Miss_, .slice a235 e203.Stats_.Totals_.length c236, .slice a237 e203.Stats_.Cells_.length c238, .int .i64 e203.Since_, .slice a239 e203.Attrs_.length c240, .int .i64 e203.Depth_, .int .i64 e203.Up_, .int .i64 e203.Born_] [_, _, _, _, _, _, _, _, _, _, _, _] (i := 1) rfl rfl rfl rfl rfl rfl ty133 rfl rfl (by intro u hu; simp only [List.mem_cons, List.not_mem_nil, or_false] at hu; rcases hu with rfl | rfl | rfl | rfl | rfl | rfl | rfl | rfl | rfl | rfl | rfl | rfl <;> rfl) rfl rfl rfl kp ?_
        refine ow_nil ?_
        refine x_qs ?_
        refine c_seq ?_
        refine c_reg ?_
        refine ow_batch [.p] rfl ?_
        refine ow_r rfl (dstOk_lt rfl) (ry_box (off := 0) (ds := [.bool e164.Leaf_, .int .i64 e164.Fork_.Attr_, .int .i64 e164.Fork_.At_, .slice a190 e164.Kids_.length c191, .int .i64 e164.Miss_, .slice a196 e164.Stats_.Totals_.length c197, .slice a198 e164.Stats_.Cells_.length c199, .int .i64 e164.Since_, .slice a200 e164.Attrs_.length c201, .int .i64 e164.Depth_, .int .i64 e164.Up_, .int .i64 e164.Born_]) rfl rfl ty133 (boxIn (i := 0) rfl) rfl rfl) ?_
        refine ow_r rfl (dstOk_lt rfl) (ry_box (off := 0) (ds := [.bool e203.Leaf_, .int .i64 e203.Fork_.Attr_, .int .i64 e203.Fork_.At_, .slice a229 e203.Kids_.length c230, .int .i64 e203.Miss_, .slice a235 e203.Stats_.Totals_.length c236, .slice a237 e203.Stats_.Cells_.length c238, .int .i64 e203.Since_, .slice a239 e203.Attrs_.length c240, .int .i64 e203.Depth_, .int .i64 e203.Up_, .int .i64 e203.Born_]) rfl rfl ty133 (boxIn (i := 1) rfl) rfl rfl) ?_
        obtain ⟨y242, h243, H⟩ := of_bind H
        refine ow_q rfl rfl (dstOk_lt rfl) (qy_callV (cap := []) rfl fn80 rfl rfl (fun w1 hw1 => impl_NodeSame_ok w1 (cs0 := [.bool e164.Leaf_, .int .i64 e164.Fork_.Attr_, .int .i64 e164.Fork_.At_, .slice a190 e164.Kids_.length c191, .int .i64 e164.Miss_, .slice a196 e164.Stats_.Totals_.length c197, .slice a198 e164.Stats_.Cells_.length c199, .int .i64 e164.Since_, .slice a200 e164.Attrs_.length c201, .int .i64 e164.Depth_, .int .i64 e164.Up_, .int .i64 e164.Born_]) (cs1 := [.bool e203.Leaf_, .int .i64 e203.Fork_.Attr_, .int .i64 e203.Fork_.At_, .slice a229 e203.Kids_.length c230, .int .i64 e203.Miss_, .slice a235 e203.Stats_.Totals_.length c236, .slice a237 e203.Stats_.Cells_.length c238, .int .i64 e203.Since_, .slice a239 e203.Attrs_.length c240, .int .i64 e203.Depth_, .int .i64 e203.Up_, .int .i64 e203.Born_]) h243 (rdm_Timpl_Node (x := e164) (c0 := [.bool e164.Leaf_]) (c1 := [.int .i64 e164.Fork_.Attr_, .int .i64 e164.Fork_.At_]) (c2 := [.slice a190 e164.Kids_.length c191]) (c3 := [.int .i64 e164.Miss_]) (c4 := [.slice a196 e164.Stats_.Totals_.length c197, .slice a198 e164.Stats_.Cells_.length c199]) (c5 := [.int .i64 e164.Since_]) (c6 := [.slice a200 e164.Attrs_.length c201]) (c7 := [.int .i64 e164.Depth_]) (c8 := [.int .i64 e164.Up_]) (c9 := [.int .i64 e164.Born_]) rfl rfl (rds_bor g182 w1 hw1) rfl (rdm_Timpl_Stats (x := e164.Stats_) (c0 := [.slice a196 e164.Stats_.Totals_.length c197]) (c1 := [.slice a198 e164.Stats_.Cells_.length c199]) (rds_bor g194 w1 hw1) (rds_bor g195 w1 hw1)) rfl (rds_bor g186 w1 hw1) rfl rfl rfl) (rdm_Timpl_Node (x := e203) (c0 := [.bool e203.Leaf_]) (c1 := [.int .i64 e203.Fork_.Attr_, .int .i64 e203.Fork_.At_]) (c2 := [.slice a229 e203.Kids_.length c230]) (c3 := [.int .i64 e203.Miss_]) (c4 := [.slice a235 e203.Stats_.Totals_.length c236, .slice a237 e203.Stats_.Cells_.length c238]) (c5 := [.int .i64 e203.Since_]) (c6 := [.slice a239 e203.Attrs_.length c240]) (c7 := [.int .i64 e203.Depth_]) (c8 := [.int .i64 e203.Up_]) (c9 := [.int .i64 e203.Born_]) rfl rfl (rds_bor g221 w1 hw1) rfl (rdm_Timpl_Stats (x := e203.Stats_) (c0 := [.slice a235 e203.Stats_.Totals_.length c236]) (c1 := [.slice a237 e203.Stats_.Cells_.length c238]) (rds_bor g233 w1 hw1) (rds_bor g234 w1 hw1)) rfl (rds_bor g225 w1 hw1) rfl rfl rfl))) (fun _ _ => trivial) ?_
        refine ow_batch [.p] rfl ?_
        refine ow_nil ?_
        refine x_qs ?_
        refine c_if rfl (fun hb => ?_) (fun hb => ?_)
        · have H := of_if_t hb H
          refine c_seq ?_
          refine c_reg ?_
          refine ow_batch [.p] rfl ?_
          refine ow_nil ?_
          refine x_qs ?_
          refine c_ret ?_
          refine x_qb_ret ?_
          refine x_qs_ret ?_
          refine x_ql_ret ?_
          refine x_qb_ret ?_
          refine x_qs_ret ?_
          exact x_retR (rs := [.tmp 6]) (vs := [.bool false]) rfl ⟨rfl, trivial⟩ (fun w' hw' => by
              obtain rfl := of_some H
              exact ⟨rfl, hw'.ext⟩)
        · have H := of_if_f hb H
          refine c_skip ?_
          refine x_qb ?_
          refine x_qs ?_
          refine c_reg ?_
          refine ow_batch [.p, .p] rfl ?_
          refine ow_nil ?_
          exact x_ql (RW.at (ihk1 (IntKind.i64.wrap (i82 + 1)) (H)) (fun _ h => St.sel [] rfl rfl h) ⟨rfl, rfl, rfl, rfl, rfl, trivial⟩)
      · have H := of_if_f hb H
        refine c_exit ?_
        refine x_qs_exit ?_
        refine x_ql_exit ?_
        refine x_qb_here ?_
        refine x_qs ?_
        refine c_seq ?_
        refine c_reg ?_
        refine ow_batch [.p] rfl ?_
        refine ow_nil ?_
        refine x_qs ?_
        refine c_ret ?_
        exact x_retR (rs := [.tmp 6]) (vs := [.bool true]) rfl ⟨rfl, trivial⟩ (fun w' hw' => by
            obtain rfl := of_some H
            exact ⟨rfl, hw'.ext⟩)

set_option maxHeartbeats 4000000 in
set_option maxRecDepth 100000 in
theorem impl_TreeSame_ok (w : World) {p0 : Timpl_Tree} {p1 : Timpl_Tree} {cs0 : List Value} {cs1 : List Value} {r : Bool} (H : impl_TreeSame p0 p1 = some r)  (g0 : (eTimpl_Tree).rd w [] p0 cs0) (g1 : (eTimpl_Tree).rd w [] p1 cs1) :
    Calls Try.prog 62 #[.agg cs0.toArray, .agg cs1.toArray] w (fun en w' => en = .returned (.bool r) ∧ Ext [] w w') := by
  obtain ⟨c1, c2, rfl, g3, g4⟩ := rdo_Timpl_Tree g0
  obtain ⟨a5, c6, rfl⟩ := rd_sl1 g3
  obtain rfl : c2 = [.int .i64 p0.Seen_] := g4
  obtain ⟨c7, c8, rfl, g9, g10⟩ := rdo_Timpl_Tree g1
  obtain ⟨a11, c12, rfl⟩ := rd_sl1 g9
  obtain rfl : c8 = [.int .i64 p1.Seen_] := g10
  unfold impl_TreeSame at H
  refine f_enter (vs := [.agg #[.slice a5 p0.Nodes_.length c6, .int .i64 p0.Seen_], .agg #[.slice a11 p1.Nodes_.length c12, .int .i64 p1.Seen_]]) Try.func62 rfl Try.ntmps62 rfl (St.init w []) ?_
  refine c_seq ?_
  refine c_reg ?_
  refine ow_box (cs := [.slice a5 p0.Nodes_.length c6, .int .i64 p0.Seen_]) rfl rfl rfl rfl rfl rfl (fun _ => kp) (fun b13 => ?_)
  refine ow_box (cs := [.slice a11 p1.Nodes_.length c12, .int .i64 p1.Seen_]) rfl rfl rfl rfl rfl rfl (fun _ => kp) (fun b14 => ?_)
  refine ow_batch [.p] rfl ?_
  refine ow_nil ?_
  refine x_qs ?_
  refine c_seq ?_
  refine c_reg ?_
  refine ow_batch [.fa 74 1 1 fa74_1] rfl ?_
  refine ow_r rfl (dstOk_lt rfl) (ry_box1 (off := 1) rfl rfl ty3 (boxIn (i := 0) rfl) rfl) ?_
  refine ow_batch [.fa 74 1 1 fa74_1] rfl ?_
  refine ow_r rfl (dstOk_lt rfl) (ry_box1 (off := 1) rfl rfl ty3 (boxIn (i := 1) rfl) rfl) ?_
  refine ow_batch [.p, .p] rfl ?_
  obtain ⟨u15, hu19, H⟩ := of_bind H
  refine ow_cut [(16, .bool u15), (4, .bool false)] 6 ?_ (fun key => OW.sub (R := [(2, .pointer (some ⟨b13, 0, none⟩)), (3, .pointer (some ⟨b14, 0, none⟩)), (4, .bool false), (10, .bool (p0.Seen_ == p1.Seen_))]) ?_ ⟨rfl, rfl, rfl, rfl, trivial⟩)
  · refine ow_batch [.p] rfl ?_
    refine ow_nil ?_
    refine x_qs ?_
    refine c_ret ?_
    exact x_retR (rs := [.tmp 4]) (vs := [.bool u15]) rfl ⟨rfl, trivial⟩ (fun w' hw' => by
        obtain rfl := of_some H
        exact ⟨rfl, hw'.ext⟩)
  · clear H
    have H := hu19
    clear hu19
    generalize (p0.Seen_ == p1.Seen_) = t18 at H ⊢
    cases t18
    · have H := of_if_f rfl H
      refine ow_batch [.p, .p, .p, .p, .p, .p] rfl ?_
      obtain rfl := of_some H
      exact OW.sub key ⟨rfl, rfl, trivial⟩
    · have H := of_if_t rfl H
      refine ow_batch [.fa 74 0 0 fa74_0] rfl ?_
      refine ow_r rfl (dstOk_lt rfl) (ry_box1 (off := 0) rfl rfl ty72 (boxIn (i := 0) rfl) rfl) ?_
      refine ow_batch [.fa 74 0 0 fa74_0] rfl ?_
      refine ow_r rfl (dstOk_lt rfl) (ry_box1 (off := 0) rfl rfl ty72 (boxIn (i := 1) rfl) rfl) ?_
      obtain ⟨y16, h17, H⟩ := of_bind H
      refine ow_q rfl rfl (dstOk_lt rfl) (qy_call rfl fn79 rfl (fun w1 hw1 => lib_slices_EqualFunc___impl_Node___impl_Node_impl_Node_impl_Node___impl_NodeSame_ok w1  h17 (rds_bor g3 w1 hw1) (rds_bor g9 w1 hw1))) (fun _ _ => trivial) ?_
      refine ow_batch [.p] rfl ?_
      obtain rfl := of_some H
      exact OW.sub key ⟨rfl, rfl, trivial⟩

set_option maxHeartbeats 4000000 in
set_option maxRecDepth 100000 in
theorem impl_WindowSame_ok (w : World) {p0 : Timpl_Window} {p1 : Timpl_Window} {cs0 : List Value} {cs1 : List Value} {r : Bool} (H : impl_WindowSame p0 p1 = some r)  (g0 : (eTimpl_Window).rd w [] p0 cs0) (g1 : (eTimpl_Window).rd w [] p1 cs1) :
    Calls Try.prog 81 #[.agg cs0.toArray, .agg cs1.toArray] w (fun en w' => en = .returned (.bool r) ∧ Ext [] w w') := by
  obtain ⟨c1, rfl, g2⟩ := rdo_Timpl_Window g0
  obtain ⟨a3, c4, rfl⟩ := rd_sl1 g2
  obtain ⟨c5, rfl, g6⟩ := rdo_Timpl_Window g1
  obtain ⟨a7, c8, rfl⟩ := rd_sl1 g6
  unfold impl_WindowSame at H
  refine f_enter (vs := [.agg #[.slice a3 p0.Rows_.length c4], .agg #[.slice a7 p1.Rows_.length c8]]) Try.func81 rfl Try.ntmps81 rfl (St.init w []) ?_
  refine c_seq ?_
  refine c_reg ?_
  refine ow_box (cs := [.slice a3 p0.Rows_.length c4]) rfl rfl rfl rfl rfl rfl (fun _ => kp) (fun b9 => ?_)
  refine ow_box (cs := [.slice a7 p1.Rows_.length c8]) rfl rfl rfl rfl rfl rfl (fun _ => kp) (fun b10 => ?_)
  refine ow_batch [.p] rfl ?_
  refine ow_nil ?_
  refine x_qs ?_
  refine c_seq ?_
  refine c_reg ?_
  refine ow_batch [.fa 76 0 0 fa76_0] rfl ?_
  refine ow_r rfl (dstOk_lt rfl) (ry_box1 (off := 0) rfl rfl ty33 (boxIn (i := 0) rfl) rfl) ?_
  refine ow_batch [.fa 76 0 0 fa76_0] rfl ?_
  refine ow_r rfl (dstOk_lt rfl) (ry_box1 (off := 0) rfl rfl ty33 (boxIn (i := 1) rfl) rfl) ?_
  obtain ⟨y11, h12, H⟩ := of_bind H
  refine ow_q rfl rfl (dstOk_lt rfl) (qy_call rfl fn39 rfl (fun w1 hw1 => impl_sameLists_ok w1  h12 (rds_bor g2 w1 hw1) (rds_bor g6 w1 hw1))) (fun _ _ => trivial) ?_
  refine ow_batch [.p] rfl ?_
  refine ow_nil ?_
  refine x_qs ?_
  refine c_ret ?_
  exact x_retR (rs := [.tmp 4]) (vs := [.bool y11]) rfl ⟨rfl, trivial⟩ (fun w' hw' => by
      obtain rfl := of_some H
      exact ⟨rfl, hw'.ext⟩)

set_option maxHeartbeats 4000000 in
set_option maxRecDepth 100000 in
theorem impl_DetSame_ok (w : World) {p0 : Timpl_Det} {p1 : Timpl_Det} {cs0 : List Value} {cs1 : List Value} {r : Bool} (H : impl_DetSame p0 p1 = some r)  (g0 : (eTimpl_Det).rd w [] p0 cs0) (g1 : (eTimpl_Det).rd w [] p1 cs1) :
    Calls Try.prog 63 #[.agg cs0.toArray, .agg cs1.toArray] w (fun en w' => en = .returned (.bool r) ∧ Ext [] w w') := by
  obtain ⟨c1, c2, rfl, g3, g4⟩ := rdo_Timpl_Det g0
  obtain ⟨c5, rfl, g6⟩ := rdo_Timpl_Window g3
  obtain ⟨a7, c8, rfl⟩ := rd_sl1 g6
  obtain ⟨c9, rfl, g10⟩ := rdo_Timpl_Window g4
  obtain ⟨a11, c12, rfl⟩ := rd_sl1 g10
  obtain ⟨c13, c14, rfl, g15, g16⟩ := rdo_Timpl_Det g1
  obtain ⟨c17, rfl, g18⟩ := rdo_Timpl_Window g15
  obtain ⟨a19, c20, rfl⟩ := rd_sl1 g18
  obtain ⟨c21, rfl, g22⟩ := rdo_Timpl_Window g16
  obtain ⟨a23, c24, rfl⟩ := rd_sl1 g22
  unfold impl_DetSame at H
  refine f_enter (vs := [.agg #[.slice a7 p0.Warn_.Rows_.length c8, .slice a11 p0.Drift_.Rows_.length c12], .agg #[.slice a19 p1.Warn_.Rows_.length c20, .slice a23 p1.Drift_.Rows_.length c24]]) Try.func63 rfl Try.ntmps63 rfl (St.init w []) ?_
  refine c_seq ?_
  refine c_reg ?_
  refine ow_box (cs := [.slice a7 p0.Warn_.Rows_.length c8, .slice a11 p0.Drift_.Rows_.length c12]) rfl rfl rfl rfl rfl rfl (fun _ => kp) (fun b25 => ?_)
  refine ow_box (cs := [.slice a19 p1.Warn_.Rows_.length c20, .slice a23 p1.Drift_.Rows_.length c24]) rfl rfl rfl rfl rfl rfl (fun _ => kp) (fun b26 => ?_)
  refine ow_batch [.p] rfl ?_
  refine ow_nil ?_
  refine x_qs ?_
  refine c_seq ?_
  refine c_reg ?_
  refine ow_batch [.fa 78 0 0 fa78_0] rfl ?_
  refine ow_r rfl (dstOk_lt rfl) (ry_box (off := 0) (ds := [.slice a7 p0.Warn_.Rows_.length c8]) rfl rfl ty76 (boxIn (i := 0) rfl) rfl rfl) ?_
  refine ow_batch [.fa 78 0 0 fa78_0] rfl ?_
  refine ow_r rfl (dstOk_lt rfl) (ry_box (off := 0) (ds := [.slice a19 p1.Warn_.Rows_.length c20]) rfl rfl ty76 (boxIn (i := 1) rfl) rfl rfl) ?_
  obtain ⟨y27, h28, H⟩ := of_bind H
  refine ow_q rfl rfl (dstOk_lt rfl) (qy_call rfl fn81 rfl (fun w1 hw1 => impl_WindowSame_ok w1 (cs0 := [.slice a7 p0.Warn_.Rows_.length c8]) (cs1 := [.slice a19 p1.Warn_.Rows_.length c20]) h28 (rdm_Timpl_Window (x := p0.Warn_) (c0 := [.slice a7 p0.Warn_.Rows_.length c8]) (rds_bor g6 w1 hw1)) (rdm_Timpl_Window (x := p1.Warn_) (c0 := [.slice a19 p1.Warn_.Rows_.length c20]) (rds_bor g18 w1 hw1)))) (fun _ _ => trivial) ?_
  refine ow_batch [.p] rfl ?_
  obtain ⟨u29, hu33, H⟩ := of_bind H
  refine ow_cut [(16, .bool u29), (4, .bool false)] 6 ?_ (fun key => OW.sub (R := [(2, .pointer (some ⟨b25, 0, none⟩)), (3, .pointer (some ⟨b26, 0, none⟩)), (4, .bool false), (10, .bool y27)]) ?_ ⟨rfl, rfl, rfl, rfl, trivial⟩)
  · refine ow_batch [.p] rfl ?_
    refine ow_nil ?_
    refine x_qs ?_
    refine c_ret ?_
    exact x_retR (rs := [.tmp 4]) (vs := [.bool u29]) rfl ⟨rfl, trivial⟩ (fun w' hw' => by
        obtain rfl := of_some H
        exact ⟨rfl, hw'.ext⟩)
  · clear H
    have H := hu33
    clear hu33
    generalize y27 = t32 at H ⊢
    cases t32
    · have H := of_if_f rfl H
      refine ow_batch [.p, .p, .p, .p, .p, .p] rfl ?_
      obtain rfl := of_some H
      exact OW.sub key ⟨rfl, rfl, trivial⟩
    · have H := of_if_t rfl H
      refine ow_batch [.fa 78 1 1 fa78_1] rfl ?_
      refine ow_r rfl (dstOk_lt rfl) (ry_box (off := 1) (ds := [.slice a11 p0.Drift_.Rows_.length c12]) rfl rfl ty76 (boxIn (i := 0) rfl) rfl rfl) ?_
      refine ow_batch [.fa 78 1 1 fa78_1] rfl ?_
      refine ow_r rfl (dstOk_lt rfl) (ry_box (off := 1) (ds := [.slice a23 p1.Drift_.Rows_.length c24]) rfl rfl ty76 (boxIn (i := 1) rfl) rfl rfl) ?_
      obtain ⟨y30, h31, H⟩ := of_bind H
      refine ow_q rfl rfl (dstOk_lt rfl) (qy_call rfl fn81 rfl (fun w1 hw1 => impl_WindowSame_ok w1 (cs0 := [.slice a11 p0.Drift_.Rows_.length c12]) (cs1 := [.slice a23 p1.Drift_.Rows_.length c24]) h31 (rdm_Timpl_Window (x := p0.Drift_) (c0 := [.slice a11 p0.Drift_.Rows_.length c12]) (rds_bor g10 w1 hw1)) (rdm_Timpl_Window (x := p1.Drift_) (c0 := [.slice a23 p1.Drift_.Rows_.length c24]) (rds_bor g22 w1 hw1)))) (fun _ _ => trivial) ?_
      refine ow_batch [.p] rfl ?_
      obtain rfl := of_some H
      exact OW.sub key ⟨rfl, rfl, trivial⟩

set_option maxHeartbeats 4000000 in
set_option maxRecDepth 100000 in
theorem impl_MemberSame_ok (w : World) {p0 : Timpl_Member} {p1 : Timpl_Member} {cs0 : List Value} {cs1 : List Value} {r : Bool} (H : impl_MemberSame p0 p1 = some r)  (g0 : (eTimpl_Member).rd w [] p0 cs0) (g1 : (eTimpl_Member).rd w [] p1 cs1) :
    Calls Try.prog 38 #[.agg cs0.toArray, .agg cs1.toArray] w (fun en w' => en = .returned (.bool r) ∧ Ext [] w w') := by
  obtain ⟨c1, c2, c3, c4, rfl, g5, g6, g7, g8⟩ := rdo_Timpl_Member g0
  obtain ⟨c9, c10, rfl, g11, g12⟩ := rdo_Timpl_Tree g5
  obtain ⟨a13, c14, rfl⟩ := rd_sl1 g11
  obtain rfl : c10 = [.int .i64 p0.Tree_.Seen_] := g12
  obtain rfl : c2 = [.bool p0.HasYoung_] := g6
  obtain ⟨c15, c16, rfl, g17, g18⟩ := rdo_Timpl_Tree g7
  obtain ⟨a19, c20, rfl⟩ := rd_sl1 g17
  obtain rfl : c16 = [.int .i64 p0.Young_.Seen_] := g18
  obtain ⟨c21, c22, rfl, g23, g24⟩ := rdo_Timpl_Det g8
  obtain ⟨c25, rfl, g26⟩ := rdo_Timpl_Window g23
  obtain ⟨a27, c28, rfl⟩ := rd_sl1 g26
  obtain ⟨c29, rfl, g30⟩ := rdo_Timpl_Window g24
  obtain ⟨a31, c32, rfl⟩ := rd_sl1 g30
  obtain ⟨c33, c34, c35, c36, rfl, g37, g38, g39, g40⟩ := rdo_Timpl_Member g1
  obtain ⟨c41, c42, rfl, g43, g44⟩ := rdo_Timpl_Tree g37
  obtain ⟨a45, c46, rfl⟩ := rd_sl1 g43
  obtain rfl : c42 = [.int .i64 p1.Tree_.Seen_] := g44
  obtain rfl : c34 = [.bool p1.HasYoung_] := g38
  obtain ⟨c47, c48, rfl, g49, g50⟩ := rdo_Timpl_Tree g39
  obtain ⟨a51, c52, rfl⟩ := rd_sl1 g49
  obtain rfl : c48 = [.int .i64 p1.Young_.Seen_] := g50
  obtain ⟨c53, c54, rfl, g55, g56⟩ := rdo_Timpl_Det g40
  obtain ⟨c57, rfl, g58⟩ := rdo_Timpl_Window g55
  obtain ⟨a59, c60, rfl⟩ := rd_sl1 g58
  obtain ⟨c61, rfl, g62⟩ := rdo_Timpl_Window g56
  obtain ⟨a63, c64, rfl⟩ := rd_sl1 g62
  unfold impl_MemberSame at H
  refine f_enter (vs := [.agg #[.slice a13 p0.Tree_.Nodes_.length c14, .int .i64 p0.Tree_.Seen_, .bool p0.HasYoung_, .slice a19 p0.Young_.Nodes_.length c20, .int .i64 p0.Young_.Seen_, .slice a27 p0.Det_.Warn_.Rows_.length c28, .slice a31 p0.Det_.Drift_.Rows_.length c32], .agg #[.slice a45 p1.Tree_.Nodes_.length c46, .int .i64 p1.Tree_.Seen_, .bool p1.HasYoung_, .slice a51 p1.Young_.Nodes_.length c52, .int .i64 p1.Young_.Seen_, .slice a59 p1.Det_.Warn_.Rows_.length c60, .slice a63 p1.Det_.Drift_.Rows_.length c64]]) Try.func38 rfl Try.ntmps38 rfl (St.init w []) ?_
  refine c_seq ?_
  refine c_reg ?_
  refine ow_box (cs := [.slice a13 p0.Tree_.Nodes_.length c14, .int .i64 p0.Tree_.Seen_, .bool p0.HasYoung_, .slice a19 p0.Young_.Nodes_.length c20, .int .i64 p0.Young_.Seen_, .slice a27 p0.Det_.Warn_.Rows_.length c28, .slice a31 p0.Det_.Drift_.Rows_.length c32]) rfl rfl rfl rfl rfl rfl (fun _ => kp) (fun b65 => ?_)
  refine ow_box (cs := [.slice a45 p1.Tree_.Nodes_.length c46, .int .i64 p1.Tree_.Seen_, .bool p1.HasYoung_, .slice a51 p1.Young_.Nodes_.length c52, .int .i64 p1.Young_.Seen_, .slice a59 p1.Det_.Warn_.Rows_.length c60, .slice a63 p1.Det_.Drift_.Rows_.length c64]) rfl rfl rfl rfl rfl rfl (fun _ => kp) (fun b66 => ?_)
  refine ow_batch [.p] rfl ?_
  refine ow_nil ?_
  refine x_qs ?_
  refine c_seq ?_
  refine c_reg ?_
  refine ow_batch [.fa 80 0 0 fa80_0] rfl ?_
  refine ow_r rfl (dstOk_lt rfl) (ry_box (off := 0) (ds := [.slice a13 p0.Tree_.Nodes_.length c14, .int .i64 p0.Tree_.Seen_]) rfl rfl ty74 (boxIn (i := 0) rfl) rfl rfl) ?_
  refine ow_batch [.fa 80 0 0 fa80_0] rfl ?_
  refine ow_r rfl (dstOk_lt rfl) (ry_box (off := 0) (ds := [.slice a45 p1.Tree_.Nodes_.length c46, .int .i64 p1.Tree_.Seen_]) rfl rfl ty74 (boxIn (i := 1) rfl) rfl rfl) ?_
  obtain ⟨y67, h68, H⟩ := of_bind H
  refine ow_q rfl rfl (dstOk_lt rfl) (qy_call rfl fn62 rfl (fun w1 hw1 => impl_TreeSame_ok w1 (cs0 := [.slice a13 p0.Tree_.Nodes_.length c14, .int .i64 p0.Tree_.Seen_]) (cs1 := [.slice a45 p1.Tree_.Nodes_.length c46, .int .i64 p1.Tree_.Seen_]) h68 (rdm_Timpl_Tree (x := p0.Tree_) (c0 := [.slice a13 p0.Tree_.Nodes_.length c14]) (c1 := [.int .i64 p0.Tree_.Seen_]) (rds_bor g11 w1 hw1) rfl) (rdm_Timpl_Tree (x := p1.Tree_) (c0 := [.slice a45 p1.Tree_.Nodes_.length c46]) (c1 := [.int .i64 p1.Tree_.Seen_]) (rds_bor g43 w1 hw1) rfl))) (fun _ _ => trivial) ?_
  refine ow_batch [.p] rfl ?_
  refine ow_cut [(16, .bool (y67 && (p0.HasYoung_ == p1.HasYoung_))), (2, .pointer (some ⟨b65, 0, none⟩)), (3, .pointer (some ⟨b66, 0, none⟩)), (4, .bool false)] 6 ?_ (fun key => OW.sub (R := [(2, .pointer (some ⟨b65, 0, none⟩)), (3, .pointer (some ⟨b66, 0, none⟩)), (4, .bool false), (10, .bool y67)]) ?_ ⟨rfl, rfl, rfl, rfl, trivial⟩)
  · refine ow_batch [.p] rfl ?_
    obtain ⟨u71, hu75, H⟩ := of_bind H
    refine ow_cut [(23, .bool u71), (2, .pointer (some ⟨b65, 0, none⟩)), (3, .pointer (some ⟨b66, 0, none⟩)), (4, .bool false)] 6 ?_ (fun key => OW.sub (R := [(2, .pointer (some ⟨b65, 0, none⟩)), (3, .pointer (some ⟨b66, 0, none⟩)), (4, .bool false), (17, .bool (y67 && (p0.HasYoung_ == p1.HasYoung_)))]) ?_ ⟨rfl, rfl, rfl, rfl, trivial⟩)
    · refine ow_batch [.p] rfl ?_
      obtain ⟨u76, hu80, H⟩ := of_bind H
      refine ow_cut [(30, .bool u76), (4, .bool false)] 6 ?_ (fun key => OW.sub (R := [(2, .pointer (some ⟨b65, 0, none⟩)), (3, .pointer (some ⟨b66, 0, none⟩)), (4, .bool false), (24, .bool u71)]) ?_ ⟨rfl, rfl, rfl, rfl, trivial⟩)
      · refine ow_batch [.p] rfl ?_
        refine ow_nil ?_
        refine x_qs ?_
        refine c_ret ?_
        exact x_retR (rs := [.tmp 4]) (vs := [.bool u76]) rfl ⟨rfl, trivial⟩ (fun w' hw' => by
            obtain rfl := of_some H
            exact ⟨rfl, hw'.ext⟩)
      · clear H
        have H := hu80
        clear hu80
        generalize u71 = t79 at H ⊢
        cases t79
        · have H := of_if_f rfl H
          refine ow_batch [.p, .p, .p, .p, .p, .p] rfl ?_
          obtain rfl := of_some H
          exact OW.sub key ⟨rfl, rfl, trivial⟩
        · have H := of_if_t rfl H
          refine ow_batch [.fa 80 3 5 fa80_3] rfl ?_
          refine ow_r rfl (dstOk_lt rfl) (ry_box (off := 5) (ds := [.slice a27 p0.Det_.Warn_.Rows_.length c28, .slice a31 p0.Det_.Drift_.Rows_.length c32]) rfl rfl ty78 (boxIn (i := 0) rfl) rfl rfl) ?_
          refine ow_batch [.fa 80 3 5 fa80_3] rfl ?_
          refine ow_r rfl (dstOk_lt rfl) (ry_box (off := 5) (ds := [.slice a59 p1.Det_.Warn_.Rows_.length c60, .slice a63 p1.Det_.Drift_.Rows_.length c64]) rfl rfl ty78 (boxIn (i := 1) rfl) rfl rfl) ?_
          obtain ⟨y77, h78, H⟩ := of_bind H
          refine ow_q rfl rfl (dstOk_lt rfl) (qy_call rfl fn63 rfl (fun w1 hw1 => impl_DetSame_ok w1 (cs0 := [.slice a27 p0.Det_.Warn_.Rows_.length c28, .slice a31 p0.Det_.Drift_.Rows_.length c32]) (cs1 := [.slice a59 p1.Det_.Warn_.Rows_.length c60, .slice a63 p1.Det_.Drift_.Rows_.length c64]) h78 (rdm_Timpl_Det (x := p0.Det_) (c0 := [.slice a27 p0.Det_.Warn_.Rows_.length c28]) (c1 := [.slice a31 p0.Det_.Drift_.Rows_.length c32]) (rdm_Timpl_Window (x := p0.Det_.Warn_) (c0 := [.slice a27 p0.Det_.Warn_.Rows_.length c28]) (rds_bor g26 w1 hw1)) (rdm_Timpl_Window (x := p0.Det_.Drift_) (c0 := [.slice a31 p0.Det_.Drift_.Rows_.length c32]) (rds_bor g30 w1 hw1))) (rdm_Timpl_Det (x := p1.Det_) (c0 := [.slice a59 p1.Det_.Warn_.Rows_.length c60]) (c1 := [.slice a63 p1.Det_.Drift_.Rows_.length c64]) (rdm_Timpl_Window (x := p1.Det_.Warn_) (c0 := [.slice a59 p1.Det_.Warn_.Rows_.length c60]) (rds_bor g58 w1 hw1)) (rdm_Timpl_Window (x := p1.Det_.Drift_) (c0 := [.slice a63 p1.Det_.Drift_.Rows_.length c64]) (rds_bor g62 w1 hw1))))) (fun _ _ => trivial) ?_
          refine ow_batch [.p] rfl ?_
          obtain rfl := of_some H
          exact OW.sub key ⟨rfl, rfl, trivial⟩
    · clear H
      have H := hu75
      clear hu75
      generalize (y67 && (p0.HasYoung_ == p1.HasYoung_)) = t74 at H ⊢
      cases t74
      · have H := of_if_f rfl H
        refine ow_batch [.p, .p, .p, .p, .p, .p] rfl ?_
        obtain rfl := of_some H
        exact OW.sub key ⟨rfl, rfl, rfl, rfl, trivial⟩
      · have H := of_if_t rfl H
        refine ow_batch [.fa 80 2 3 fa80_2] rfl ?_
        refine ow_r rfl (dstOk_lt rfl) (ry_box (off := 3) (ds := [.slice a19 p0.Young_.Nodes_.length c20, .int .i64 p0.Young_.Seen_]) rfl rfl ty74 (boxIn (i := 0) rfl) rfl rfl) ?_
        refine ow_batch [.fa 80 2 3 fa80_2] rfl ?_
        refine ow_r rfl (dstOk_lt rfl) (ry_box (off := 3) (ds := [.slice a51 p1.Young_.Nodes_.length c52, .int .i64 p1.Young_.Seen_]) rfl rfl ty74 (boxIn (i := 1) rfl) rfl rfl) ?_
        obtain ⟨y72, h73, H⟩ := of_bind H
        refine ow_q rfl rfl (dstOk_lt rfl) (qy_call rfl fn62 rfl (fun w1 hw1 => impl_TreeSame_ok w1 (cs0 := [.slice a19 p0.Young_.Nodes_.length c20, .int .i64 p0.Young_.Seen_]) (cs1 := [.slice a51 p1.Young_.Nodes_.length c52, .int .i64 p1.Young_.Seen_]) h73 (rdm_Timpl_Tree (x := p0.Young_) (c0 := [.slice a19 p0.Young_.Nodes_.length c20]) (c1 := [.int .i64 p0.Young_.Seen_]) (rds_bor g17 w1 hw1) rfl) (rdm_Timpl_Tree (x := p1.Young_) (c0 := [.slice a51 p1.Young_.Nodes_.length c52]) (c1 := [.int .i64 p1.Young_.Seen_]) (rds_bor g49 w1 hw1) rfl))) (fun _ _ => trivial) ?_
        refine ow_batch [.p] rfl ?_
        obtain rfl := of_some H
        exact OW.sub key ⟨rfl, rfl, rfl, rfl, trivial⟩
  · generalize y67 = t70 at key ⊢
    cases t70
    · refine ow_batch [.p, .p, .p, .p, .p, .p] rfl ?_
      exact OW.sub key ⟨rfl, rfl, rfl, rfl, trivial⟩
    · refine ow_batch [.fa 80 1 2 fa80_1] rfl ?_
      refine ow_r rfl (dstOk_lt rfl) (ry_box1 (off := 2) rfl rfl ty4 (boxIn (i := 0) rfl) rfl) ?_
      refine ow_batch [.fa 80 1 2 fa80_1] rfl ?_
      refine ow_r rfl (dstOk_lt rfl) (ry_box1 (off := 2) rfl rfl ty4 (boxIn (i := 1) rfl) rfl) ?_
      refine ow_r rfl (dstOk_lt rfl) (ry_beql rfl rfl rfl bl4) ?_
      refine ow_batch [.p] rfl ?_
      exact OW.sub key ⟨rfl, rfl, rfl, rfl, trivial⟩

set_option maxHeartbeats 4000000 in
set_option maxRecDepth 100000 in
theorem lib_slices_EqualFunc___impl_Member___impl_Member_impl_Member_impl_Member___impl_MemberSame_ok (w : World) {p0 : List Timpl_Member} {p1 : List Timpl_Member} {a_0 : Option Addr} {n_0 c_0 : Nat} {a_1 : Option Addr} {n_1 c_1 : Nat} {r : Bool} (H : lib_slices_EqualFunc___impl_Member___impl_Member_impl_Member_impl_Member___impl_MemberSame p0 p1 = some r)  (g0 : (eList (eTimpl_Member) 80).rd w [] p0 [.slice a_0 n_0 c_0]) (g1 : (eList (eTimpl_Member) 80).rd w [] p1 [.slice a_1 n_1 c_1]) :
    Calls Try.prog 37 #[.slice a_0 n_0 c_0, .slice a_1 n_1 c_1, .func (.func 38) #[] #[]] w (fun en w' => en = .returned (.bool r) ∧ Ext [] w w') := by
  obtain rfl := rd_n g0
  obtain rfl := rd_n g1
  unfold lib_slices_EqualFunc___impl_Member___impl_Member_impl_Member_impl_Member___impl_MemberSame at H
  refine f_enter (vs := [.slice a_0 p0.length c_0, .slice a_1 p1.length c_1, .func (.func 38) #[] #[]]) Try.func37 rfl Try.ntmps37 rfl (St.init w []) ?_
  refine c_seq ?_
  refine c_reg ?_
  refine ow_batch [.p] rfl ?_
  refine ow_nil ?_
  refine x_qs ?_
  refine c_seq ?_
  refine c_seq ?_
  refine c_reg ?_
  refine ow_batch [.p, .lenS 47 80 sl47, .p, .lenS 47 80 sl47, .p] rfl ?_
  refine ow_nil ?_
  refine x_qs ?_
  refine c_if rfl (fun hb => ?_) (fun hb => ?_)
  · have H := of_if_t hb H
    refine c_seq ?_
    refine c_reg ?_
    refine ow_batch [.p] rfl ?_
    refine ow_nil ?_
    refine x_qs ?_
    refine c_ret ?_
    refine x_qs_ret ?_
    exact x_retR (rs := [.tmp 6]) (vs := [.bool false]) rfl ⟨rfl, trivial⟩ (fun w' hw' => by
        obtain rfl := of_some H
        exact ⟨rfl, hw'.ext⟩)
  · have H := of_if_f hb H
    refine c_skip ?_
    refine x_qs ?_
    refine c_seq ?_
    refine c_seq ?_
    refine c_reg ?_
    refine ow_batch [.p, .lenS 47 80 sl47, .p] rfl ?_
    refine ow_nil ?_
    refine x_qs ?_
    refine c_block ?_
    refine CW.at (loopI1 (fun (i82 : Int) => St w [] []) (fun (i82 : Int) => [(1, .slice a_1 p1.length c_1), (2, .func (.func 38) #[] #[]), (15, .slice a_0 p0.length c_0), (16, .int .i64 (p0.length : Int)), (17, .int .i64 i82)]) (fun kk => fun (i82 : Int) => lib_slices_EqualFunc___impl_Member___impl_Member_impl_Member_impl_Member___impl_MemberSame_L1 p0 p1 kk i82 = some r) (fun _ H => ?_) (fun k1 ihk1 i82 H => ?_) Fuel (0) (H)) (fun _ h => St.sel [] rfl rfl h) ⟨rfl, rfl, rfl, rfl, rfl,  trivial⟩
    · unfold lib_slices_EqualFunc___impl_Member___impl_Member_impl_Member_impl_Member___impl_MemberSame_L1 at H
      exact absurd H (by simp)
    · unfold lib_slices_EqualFunc___impl_Member___impl_Member_impl_Member_impl_Member___impl_MemberSame_L1 at H
      refine c_seq ?_
      refine c_reg ?_
      refine ow_batch [.p] rfl ?_
      refine ow_nil ?_
      refine x_qs ?_
      refine c_seq ?_
      refine c_if rfl (fun hb => ?_) (fun hb => ?_)
      · have H := of_if_t hb H
        refine c_skip ?_
        refine x_qs ?_
        refine c_seq ?_
        refine c_block ?_
        refine c_seq ?_
        refine c_reg ?_
        refine ow_batch [.p] rfl ?_
        obtain ⟨e164, h165, H⟩ := of_bind H
        refine ow_ixB rfl rfl rfl rfl rfl sl47 ty80 rfl g0 h165 (fun q168 c169 hd166 hA167 => ?_)
        obtain ⟨c170, c171, c172, c173, rfl, g174, g175, g176, g177⟩ := rdo_Timpl_Member hd166
        obtain ⟨c178, c179, rfl, g180, g181⟩ := rdo_Timpl_Tree g174
        obtain ⟨a182, c183, rfl⟩ := rd_sl1 g180
        obtain rfl : c179 = [.int .i64 e164.Tree_.Seen_] := g181
        obtain rfl : c171 = [.bool e164.HasYoung_] := g175
        obtain ⟨c184, c185, rfl, g186, g187⟩ := rdo_Timpl_Tree g176
        obtain ⟨a188, c189, rfl⟩ := rd_sl1 g186
        obtain rfl : c185 = [.int .i64 e164.Young_.Seen_] := g187
        obtain ⟨c190, c191, rfl, g192, g193⟩ := rdo_Timpl_Det g177
        obtain ⟨c194, rfl, g195⟩ := rdo_Timpl_Window g192
        obtain ⟨a196, c197, rfl⟩ := rd_sl1 g195
        obtain ⟨c198, rfl, g199⟩ := rdo_Timpl_Window g193
        obtain ⟨a200, c201, rfl⟩ := rd_sl1 g199
        refine ow_r rfl (dstOk_lt rfl) (ry_load (cs := [.slice a182 e164.Tree_.Nodes_.length c183, .int .i64 e164.Tree_.Seen_, .bool e164.HasYoung_, .slice a188 e164.Young_.Nodes_.length c189, .int .i64 e164.Young_.Seen_, .slice a196 e164.Det_.Warn_.Rows_.length c197, .slice a200 e164.Det_.Drift_.Rows_.length c201]) rfl rfl ty80 (at_bor bor hA167) rfl) ?_
        refine ow_alloc rfl rfl rfl rfl ty80 (fun _ => kp) (fun b202 => ?_)
        refine ow_batch [.p] rfl ?_
        refine ow_storeC (off := 0) [.slice a182 e164.Tree_.Nodes_.length c183, .int .i64 e164.Tree_.Seen_, .bool e164.HasYoung_, .slice a188 e164.Young_.Nodes_.length c189, .int .i64 e164.Young_.Seen_, .slice a196 e164.Det_.Warn_.Rows_.length c197, .slice a200 e164.Det_.Drift_.Rows_.length c201] [_, _, _, _, _, _, _] (i := 0) rfl rfl rfl rfl rfl rfl ty80 rfl rfl (by intro u hu; simp only [List.mem_cons, List.not_mem_nil, or_false] at hu; rcases hu with rfl | rfl | rfl | rfl | rfl | rfl | rfl <;> rfl) rfl rfl rfl kp ?_
        refine ow_nil ?_
        refine x_qs ?_
        refine c_seq ?_
        refine c_reg ?_
        refine ow_batch [.p, .p] rfl ?_
        obtain ⟨e203, h204, H⟩ := of_bind H
        refine ow_ixB rfl rfl rfl rfl rfl sl47 ty80 rfl g1 h204 (fun q207 c208 hd205 hA206 => ?_)
        obtain ⟨c209, c210, c211, c212, rfl, g213, g214, g215, g216⟩ := rdo_Timpl_Member hd205
        obtain ⟨c217, c218, rfl, g219, g220⟩ := rdo_Timpl_Tree g213
        obtain ⟨a221, c222, rfl⟩ := rd_sl1 g219
        obtain rfl : c218 = [.int .i64 e203.Tree_.Seen_] := g220
        obtain rfl : c210 = [.bool e203.HasYoung_] := g214
        obtain ⟨c223, c224, rfl, g225, g226⟩ := rdo_Timpl_Tree g215
        obtain ⟨a227, c228, rfl⟩ := rd_sl1 g225
        obtain rfl : c224 = [.int .i64 e203.Young_.Seen_] := g226
        obtain ⟨c229, c230, rfl, g231, g232⟩ := rdo_Timpl_Det g216
        obtain ⟨c233, rfl, g234⟩ := rdo_Timpl_Window g231
        obtain ⟨a235, c236, rfl⟩ := rd_sl1 g234
        obtain ⟨c237, rfl, g238⟩ := rdo_Timpl_Window g232
        obtain ⟨a239, c240, rfl⟩ := rd_sl1 g238
        refine ow_r rfl (dstOk_lt rfl) (ry_load (cs := [.slice a221 e203.Tree_.Nodes_.length c222, .int .i64 e203.Tree_.Seen_, .bool e203.HasYoung_, .slice a227 e203.Young_.Nodes_.length c228, .int .i64 e203.Young_.Seen_, .slice a235 e203.Det_.Warn_.Rows_.length c236, .slice a239 e203.Det_.Drift_.Rows_.length c240]) rfl rfl ty80 (at_bor bor hA206) rfl) ?_
        refine ow_alloc rfl rfl rfl rfl ty80 (fun _ => kp) (fun b241 => ?_)
        refine ow_storeC (off := 0) [.slice a221 e203.Tree_.Nodes_.length c222, .int .i64 e203.Tree_.Seen_, .bool e203.HasYoung_, .slice a227 e203.Young_.Nodes_.length c228, .int .i64 e203.Young_.Seen_, .slice a235 e203.Det_.Warn_.Rows_.length c236, .slice a239 e203.Det_.Drift_.Rows_.length c240] [_, _, _, _, _, _, _] (i := 1) rfl rfl rfl rfl rfl rfl ty80 rfl rfl (by intro u hu; simp only [List.mem_cons, List.not_mem_nil, or_false] at hu; rcases hu with rfl | rfl | rfl | rfl | rfl | rfl | rfl <;> rfl) rfl rfl rfl kp ?_
        refine ow_nil ?_
        refine x_qs ?_
        refine c_seq ?_
        refine c_reg ?_
        refine ow_batch [.p] rfl ?_
        refine ow_r rfl (dstOk_lt rfl) (ry_box (off := 0) (ds := [.slice a182 e164.Tree_.Nodes_.length c183, .int .i64 e164.Tree_.Seen_, .bool e164.HasYoung_, .slice a188 e164.Young_.Nodes_.length c189, .int .i64 e164.Young_.Seen_, .slice a196 e164.Det_.Warn_.Rows_.length c197, .slice a200 e164.Det_.Drift_.Rows_.length c201]) rfl rfl ty80 (boxIn (i := 0) rfl) rfl rfl) ?_
        refine ow_r rfl (dstOk_lt rfl) (ry_box (off := 0) (ds := [.slice a221 e203.Tree_.Nodes_.length c222, .int .i64 e203.Tree_.Seen_, .bool e203.HasYoung_, .slice a227 e203.Young_.Nodes_.length c228, .int .i64 e203.Young_.Seen_, .slice a235 e203.Det_.Warn_.Rows_.length c236, .slice a239 e203.Det_.Drift_.Rows_.length c240]) rfl rfl ty80 (boxIn (i := 1) rfl) rfl rfl) ?_
        obtain ⟨y242, h243, H⟩ := of_bind H
        refine ow_q rfl rfl (dstOk_lt rfl) (qy_callV (cap := []) rfl fn38 rfl rfl (fun w1 hw1 => impl_MemberSame_ok w1 (cs0 := [.slice a182 e164.Tree_.Nodes_.length c183, .int .i64 e164.Tree_.Seen_, .bool e164.HasYoung_, .slice a188 e164.Young_.Nodes_.length c189, .int .i64 e164.Young_.Seen_, .slice a196 e164.Det_.Warn_.Rows_.length c197, .slice a200 e164.Det_.Drift_.Rows_.length c201]) (cs1 := [.slice a221 e203.Tree_.Nodes_.length c222, .int .i64 e203.Tree_.Seen_, .bool e203.HasYoung_, .slice a227 e203.Young_.Nodes_.length c228, .int .i64 e203.Young_.Seen_, .slice a235 e203.Det_.Warn_.Rows_.length c236, .slice a239 e203.Det_.Drift_.Rows_.length c240]) h243 (rdm_Timpl_Member (x := e164) (c0 := [.slice a182 e164.Tree_.Nodes_.length c183, .int .i64 e164.Tree_.Seen_]) (c1 := [.bool e164.HasYoung_]) (c2 := [.slice a188 e164.Young_.Nodes_.length c189, .int .i64 e164.Young_.Seen_]) (c3 := [.slice a196 e164.Det_.Warn_.Rows_.length c197, .slice a200 e164.Det_.Drift_.Rows_.length c201]) (rdm_Timpl_Tree (x := e164.Tree_) (c0 := [.slice a182 e164.Tree_.Nodes_.length c183]) (c1 := [.int .i64 e164.Tree_.Seen_]) (rds_bor g180 w1 hw1) rfl) rfl (rdm_Timpl_Tree (x := e164.Young_) (c0 := [.slice a188 e164.Young_.Nodes_.length c189]) (c1 := [.int .i64 e164.Young_.Seen_]) (rds_bor g186 w1 hw1) rfl) (rdm_Timpl_Det (x := e164.Det_) (c0 := [.slice a196 e164.Det_.Warn_.Rows_.length c197]) (c1 := [.slice a200 e164.Det_.Drift_.Rows_.length c201]) (rdm_Timpl_Window (x := e164.Det_.Warn_) (c0 := [.slice a196 e164.Det_.Warn_.Rows_.length c197]) (rds_bor g195 w1 hw1)) (rdm_Timpl_Window (x := e164.Det_.Drift_) (c0 := [.slice a200 e164.Det_.Drift_.Rows_.length c201]) (rds_bor g199 w1 hw1)))) (rdm_Timpl_Member (x := e203) (c0 := [.slice a221 e203.Tree_.Nodes_.length c222, .int .i64 e203.Tree_.Seen_]) (c1 := [.bool e203.HasYoung_]) (c2 := [.slice a227 e203.Young_.Nodes_.length c228, .int .i64 e203.Young_.Seen_]) (c3 := [.slice a235 e203.Det_.Warn_.Rows_.length c236, .slice a239 e203.Det_.Drift_.Rows_.length c240]) (rdm_Timpl_Tree (x := e203.Tree_) (c0 := [.slice a221 e203.Tree_.Nodes_.length c222]) (c1 := [.int .i64 e203.Tree_.Seen_]) (rds_bor g219 w1 hw1) rfl) rfl (rdm_Timpl_Tree (x := e203.Young_) (c0 := [.slice a227 e203.Young_.Nodes_.length c228]) (c1 := [.int .i64 e203.Young_.Seen_]) (rds_bor g225 w1 hw1) rfl) (rdm_Timpl_Det (x := e203.Det_) (c0 := [.slice a235 e203.Det_.Warn_.Rows_.length c236]) (c1 := [.slice a239 e203.Det_.Drift_.Rows_.length c240]) (rdm_Timpl_Window (x := e203.Det_.Warn_) (c0 := [.slice a235 e203.Det_.Warn_.Rows_.length c236]) (rds_bor g234 w1 hw1)) (rdm_Timpl_Window (x := e203.Det_.Drift_) (c0 := [.slice a239 e203.Det_.Drift_.Rows_.length c240]) (rds_bor g238 w1 hw1)))))) (fun _ _ => trivial) ?_
        refine ow_batch [.p] rfl ?_
        refine ow_nil ?_
        refine x_qs ?_
        refine c_if rfl (fun hb => ?_) (fun hb => ?_)
        · have H := of_if_t hb H
          refine c_seq ?_
          refine c_reg ?_
          refine ow_batch [.p] rfl ?_
          refine ow_nil ?_
          refine x_qs ?_
          refine c_ret ?_
          refine x_qb_ret ?_
          refine x_qs_ret ?_
          refine x_ql_ret ?_
          refine x_qb_ret ?_
          refine x_qs_ret ?_
          exact x_retR (rs := [.tmp 6]) (vs := [.bool false]) rfl ⟨rfl, trivial⟩ (fun w' hw' => by
              obtain rfl := of_some H
              exact ⟨rfl, hw'.ext⟩)
        · have H := of_if_f hb H
          refine c_skip ?_
          refine x_qb ?_
          refine x_qs ?_
          refine c_reg ?_
          refine ow_batch [.p, .p] rfl ?_
          refine ow_nil ?_
          exact x_ql (RW.at (ihk1 (IntKind.i64.wrap (i82 + 1)) (H)) (fun _ h => St.sel [] rfl rfl h) ⟨rfl, rfl, rfl, rfl, rfl, trivial⟩)
      · have H := of_if_f hb H
        refine c_exit ?_
        refine x_qs_exit ?_
        refine x_ql_exit ?_
        refine x_qb_here ?_
        refine x_qs ?_
        refine c_seq ?_
        refine c_reg ?_
        refine ow_batch [.p] rfl ?_
        refine ow_nil ?_
        refine x_qs ?_
        refine c_ret ?_
        exact x_retR (rs := [.tmp 6]) (vs := [.bool true]) rfl ⟨rfl, trivial⟩ (fun w' hw' => by
            obtain rfl := of_some H
            exact ⟨rfl, hw'.ext⟩)

set_option maxHeartbeats 4000000 in
set_option maxRecDepth 100000 in
theorem impl_ForestSame_ok (w : World) {p0 : Timpl_Forest} {p1 : Timpl_Forest} {cs0 : List Value} {cs1 : List Value} {r : Bool} (H : impl_ForestSame p0 p1 = some r)  (g0 : (eTimpl_Forest).rd w [] p0 cs0) (g1 : (eTimpl_Forest).rd w [] p1 cs1) :
    Calls Try.prog 19 #[.agg cs0.toArray, .agg cs1.toArray] w (fun en w' => en = .returned (.bool r) ∧ Ext [] w w') := by
  obtain ⟨c1, rfl, g2⟩ := rdo_Timpl_Forest g0
  obtain ⟨a3, c4, rfl⟩ := rd_sl1 g2
  obtain ⟨c5, rfl, g6⟩ := rdo_Timpl_Forest g1
  obtain ⟨a7, c8, rfl⟩ := rd_sl1 g6
  unfold impl_ForestSame at H
  refine f_enter (vs := [.agg #[.slice a3 p0.Members_.length c4], .agg #[.slice a7 p1.Members_.length c8]]) Try.func19 rfl Try.ntmps19 rfl (St.init w []) ?_
  refine c_seq ?_
  refine c_reg ?_
  refine ow_box (cs := [.slice a3 p0.Members_.length c4]) rfl rfl rfl rfl rfl rfl (fun _ => kp) (fun b9 => ?_)
  refine ow_box (cs := [.slice a7 p1.Members_.length c8]) rfl rfl rfl rfl rfl rfl (fun _ => kp) (fun b10 => ?_)
  refine ow_batch [.p] rfl ?_
  refine ow_nil ?_
  refine x_qs ?_
  refine c_seq ?_
  refine c_reg ?_
  refine ow_batch [.fa 49 0 0 fa49_0] rfl ?_
  refine ow_r rfl (dstOk_lt rfl) (ry_box1 (off := 0) rfl rfl ty47 (boxIn (i := 0) rfl) rfl) ?_
  refine ow_batch [.fa 49 0 0 fa49_0] rfl ?_
  refine ow_r rfl (dstOk_lt rfl) (ry_box1 (off := 0) rfl rfl ty47 (boxIn (i := 1) rfl) rfl) ?_
  obtain ⟨y11, h12, H⟩ := of_bind H
  refine ow_q rfl rfl (dstOk_lt rfl) (qy_call rfl fn37 rfl (fun w1 hw1 => lib_slices_EqualFunc___impl_Member___impl_Member_impl_Member_impl_Member___impl_MemberSame_ok w1  h12 (rds_bor g2 w1 hw1) (rds_bor g6 w1 hw1))) (fun _ _ => trivial) ?_
  refine ow_batch [.p] rfl ?_
  refine ow_nil ?_
  refine x_qs ?_
  refine c_ret ?_
  exact x_retR (rs := [.tmp 4]) (vs := [.bool y11]) rfl ⟨rfl, trivial⟩ (fun w' hw' => by
      obtain rfl := of_some H
      exact ⟨rfl, hw'.ext⟩)

set_option maxHeartbeats 4000000 in
set_option maxRecDepth 100000 in
theorem lib_slices_Equal___impl_Pair_impl_Pair__ok (w : World) {p0 : List Timpl_Pair} {p1 : List Timpl_Pair} {a_0 : Option Addr} {n_0 c_0 : Nat} {a_1 : Option Addr} {n_1 c_1 : Nat} {r : Bool} (H : lib_slices_Equal___impl_Pair_impl_Pair_ p0 p1 = some r)  (g0 : (eList (eTimpl_Pair) 84).rd w [] p0 [.slice a_0 n_0 c_0]) (g1 : (eList (eTimpl_Pair) 84).rd w [] p1 [.slice a_1 n_1 c_1]) :
    Calls Try.prog 40 #[.slice a_0 n_0 c_0, .slice a_1 n_1 c_1] w (fun en w' => en = .returned (.bool r) ∧ Ext [] w w') := by
  obtain rfl := rd_n g0
  obtain rfl := rd_n g1
  unfold lib_slices_Equal___impl_Pair_impl_Pair_ at H
  refine f_enter (vs := [.slice a_0 p0.length c_0, .slice a_1 p1.length c_1]) Try.func40 rfl Try.ntmps40 rfl (St.init w []) ?_
  refine c_seq ?_
  refine c_reg ?_
  refine ow_batch [.p] rfl ?_
  refine ow_nil ?_
  refine x_qs ?_
  refine c_seq ?_
  refine c_seq ?_
  refine c_reg ?_
  refine ow_batch [.p, .lenS 50 84 sl50, .p, .lenS 50 84 sl50, .p] rfl ?_
  refine ow_nil ?_
  refine x_qs ?_
  refine c_if rfl (fun hb => ?_) (fun hb => ?_)
  · have H := of_if_t hb H
    refine c_seq ?_
    refine c_reg ?_
    refine ow_batch [.p] rfl ?_
    refine ow_nil ?_
    refine x_qs ?_
    refine c_ret ?_
    refine x_qs_ret ?_
    exact x_retR (rs := [.tmp 4]) (vs := [.bool false]) rfl ⟨rfl, trivial⟩ (fun w' hw' => by
        obtain rfl := of_some H
        exact ⟨rfl, hw'.ext⟩)
  · have H := of_if_f hb H
    refine c_skip ?_
    refine x_qs ?_
    refine c_seq ?_
    refine c_seq ?_
    refine c_reg ?_
    refine ow_batch [.p, .lenS 50 84 sl50, .p] rfl ?_
    refine ow_nil ?_
    refine x_qs ?_
    refine c_block ?_
    refine CW.at (loopI1 (fun (i6 : Int) => St w [] []) (fun (i6 : Int) => [(0, .slice a_0 p0.length c_0), (1, .slice a_1 p1.length c_1), (12, .int .i64 (p0.length : Int)), (13, .int .i64 i6)]) (fun kk => fun (i6 : Int) => lib_slices_Equal___impl_Pair_impl_Pair__L1 p0 p1 kk i6 = some r) (fun _ H => ?_) (fun k1 ihk1 i6 H => ?_) Fuel (0) (H)) (fun _ h => St.sel [] rfl rfl h) ⟨rfl, rfl, rfl, rfl,  trivial⟩
    · unfold lib_slices_Equal___impl_Pair_impl_Pair__L1 at H
      exact absurd H (by simp)
    · unfold lib_slices_Equal___impl_Pair_impl_Pair__L1 at H
      refine c_seq ?_
      refine c_reg ?_
      refine ow_batch [.p] rfl ?_
      refine ow_nil ?_
      refine x_qs ?_
      refine c_seq ?_
      refine c_if rfl (fun hb => ?_) (fun hb => ?_)
      · have H := of_if_t hb H
        refine c_skip ?_
        refine x_qs ?_
        refine c_seq ?_
        refine c_block ?_
        refine c_seq ?_
        refine c_reg ?_
        refine ow_batch [.p, .p] rfl ?_
        refine ow_nil ?_
        refine x_qs ?_
        refine c_seq ?_
        refine c_regQ mixed (by kernel_rfl) ?_
        refine ow_batch [.p, .p] rfl ?_
        obtain ⟨e12, h13, H⟩ := of_bind H
        refine ow_ixE (e := eTimpl_Pair) (xs := p0) (j := i6) rfl rfl rfl rfl rfl sl50 ty84 rfl (fun w1 hw1 => rds_bor g0 w1 hw1) h13 rfl ?_
        refine ow_r rfl (dstOk_lt rfl) (ry_load (cs := [.int .i64 e12.Truth_, .int .i64 e12.Said_]) rfl rfl ty84 (at_castA (at_eltE (fun w1 hw1 => rds_bor g0 w1 hw1) h13 (fun _ _ h => h)) rfl) rfl) ?_
        refine ow_batch [.p, .p] rfl ?_
        obtain ⟨e14, h15, H⟩ := of_bind H
        refine ow_ixE (e := eTimpl_Pair) (xs := p1) (j := i6) rfl rfl rfl rfl rfl sl50 ty84 rfl (fun w1 hw1 => rds_bor g1 w1 hw1) h15 rfl ?_
        refine ow_r rfl (dstOk_lt rfl) (ry_load (cs := [.int .i64 e14.Truth_, .int .i64 e14.Said_]) rfl rfl ty84 (at_castA (at_eltE (fun w1 hw1 => rds_bor g1 w1 hw1) h15 (fun _ _ h => h)) rfl) rfl) ?_
        refine ow_r rfl (dstOk_lt rfl) (ry_sneq (xs := [.int .i64 e12.Truth_, .int .i64 e12.Said_]) (ys := [.int .i64 e14.Truth_, .int .i64 e14.Said_]) rfl rfl rfl (se84 e12.Truth_ e14.Truth_ e12.Said_ e14.Said_)) ?_
        refine ow_nilQ ?_
        refine x_qs ?_
        refine c_if rfl (fun hb => ?_) (fun hb => ?_)
        · have H := of_if_t hb H
          refine c_seq ?_
          refine c_reg ?_
          refine ow_batch [.p] rfl ?_
          refine ow_nil ?_
          refine x_qs ?_
          refine c_ret ?_
          refine x_qb_ret ?_
          refine x_qs_ret ?_
          refine x_ql_ret ?_
          refine x_qb_ret ?_
          refine x_qs_ret ?_
          exact x_retR (rs := [.tmp 4]) (vs := [.bool false]) rfl ⟨rfl, trivial⟩ (fun w' hw' => by
              obtain rfl := of_some H
              exact ⟨rfl, hw'.ext⟩)
        · have H := of_if_f hb H
          refine c_skip ?_
          refine x_qb ?_
          refine x_qs ?_
          refine c_reg ?_
          refine ow_batch [.p, .p] rfl ?_
          refine ow_nil ?_
          exact x_ql (RW.at (ihk1 (IntKind.i64.wrap (i6 + 1)) (H)) (fun _ h => St.sel [] rfl rfl h) ⟨rfl, rfl, rfl, rfl, trivial⟩)
      · have H := of_if_f hb H
        refine c_exit ?_
        refine x_qs_exit ?_
        refine x_ql_exit ?_
        refine x_qb_here ?_
        refine x_qs ?_
        refine c_seq ?_
        refine c_reg ?_
        refine ow_batch [.p] rfl ?_
        refine ow_nil ?_
        refine x_qs ?_
        refine c_ret ?_
        exact x_retR (rs := [.tmp 4]) (vs := [.bool true]) rfl ⟨rfl, trivial⟩ (fun w' hw' => by
            obtain rfl := of_some H
            exact ⟨rfl, hw'.ext⟩)

set_option maxHeartbeats 4000000 in
set_option maxRecDepth 100000 in
theorem impl_ScoreSame_ok (w : World) {p0 : Timpl_Score} {p1 : Timpl_Score} {cs0 : List Value} {cs1 : List Value} {r : Bool} (H : impl_ScoreSame p0 p1 = some r)  (g0 : (eTimpl_Score).rd w [] p0 cs0) (g1 : (eTimpl_Score).rd w [] p1 cs1) :
    Calls Try.prog 20 #[.agg cs0.toArray, .agg cs1.toArray] w (fun en w' => en = .returned (.bool r) ∧ Ext [] w w') := by
  obtain ⟨c1, c2, rfl, g3, g4⟩ := rdo_Timpl_Score g0
  obtain ⟨a5, c6, rfl⟩ := rd_sl1 g3
  obtain ⟨a7, c8, rfl⟩ := rd_sl1 g4
  obtain ⟨c9, c10, rfl, g11, g12⟩ := rdo_Timpl_Score g1
  obtain ⟨a13, c14, rfl⟩ := rd_sl1 g11
  obtain ⟨a15, c16, rfl⟩ := rd_sl1 g12
  unfold impl_ScoreSame at H
  refine f_enter (vs := [.agg #[.slice a5 p0.Table_.length c6, .slice a7 p0.Last_.length c8], .agg #[.slice a13 p1.Table_.length c14, .slice a15 p1.Last_.length c16]]) Try.func20 rfl Try.ntmps20 rfl (St.init w []) ?_
  refine c_seq ?_
  refine c_reg ?_
  refine ow_box (cs := [.slice a5 p0.Table_.length c6, .slice a7 p0.Last_.length c8]) rfl rfl rfl rfl rfl rfl (fun _ => kp) (fun b17 => ?_)
  refine ow_box (cs := [.slice a13 p1.Table_.length c14, .slice a15 p1.Last_.length c16]) rfl rfl rfl rfl rfl rfl (fun _ => kp) (fun b18 => ?_)
  refine ow_batch [.p] rfl ?_
  refine ow_nil ?_
  refine x_qs ?_
  refine c_seq ?_
  refine c_reg ?_
  refine ow_batch [.fa 52 0 0 fa52_0] rfl ?_
  refine ow_r rfl (dstOk_lt rfl) (ry_box1 (off := 0) rfl rfl ty33 (boxIn (i := 0) rfl) rfl) ?_
  refine ow_batch [.fa 52 0 0 fa52_0] rfl ?_
  refine ow_r rfl (dstOk_lt rfl) (ry_box1 (off := 0) rfl rfl ty33 (boxIn (i := 1) rfl) rfl) ?_
  obtain ⟨y19, h20, H⟩ := of_bind H
  refine ow_q rfl rfl (dstOk_lt rfl) (qy_call rfl fn39 rfl (fun w1 hw1 => impl_sameLists_ok w1  h20 (rds_bor g3 w1 hw1) (rds_bor g11 w1 hw1))) (fun _ _ => trivial) ?_
  refine ow_batch [.p] rfl ?_
  obtain ⟨u21, hu25, H⟩ := of_bind H
  refine ow_cut [(16, .bool u21), (4, .bool false)] 6 ?_ (fun key => OW.sub (R := [(2, .pointer (some ⟨b17, 0, none⟩)), (3, .pointer (some ⟨b18, 0, none⟩)), (4, .bool false), (10, .bool y19)]) ?_ ⟨rfl, rfl, rfl, rfl, trivial⟩)
  · refine ow_batch [.p] rfl ?_
    refine ow_nil ?_
    refine x_qs ?_
    refine c_ret ?_
    exact x_retR (rs := [.tmp 4]) (vs := [.bool u21]) rfl ⟨rfl, trivial⟩ (fun w' hw' => by
        obtain rfl := of_some H
        exact ⟨rfl, hw'.ext⟩)
  · clear H
    have H := hu25
    clear hu25
    generalize y19 = t24 at H ⊢
    cases t24
    · have H := of_if_f rfl H
      refine ow_batch [.p, .p, .p, .p, .p, .p] rfl ?_
      obtain rfl := of_some H
      exact OW.sub key ⟨rfl, rfl, trivial⟩
    · have H := of_if_t rfl H
      refine ow_batch [.fa 52 1 1 fa52_1] rfl ?_
      refine ow_r rfl (dstOk_lt rfl) (ry_box1 (off := 1) rfl rfl ty50 (boxIn (i := 0) rfl) rfl) ?_
      refine ow_batch [.fa 52 1 1 fa52_1] rfl ?_
      refine ow_r rfl (dstOk_lt rfl) (ry_box1 (off := 1) rfl rfl ty50 (boxIn (i := 1) rfl) rfl) ?_
      obtain ⟨y22, h23, H⟩ := of_bind H
      refine ow_q rfl rfl (dstOk_lt rfl) (qy_call rfl fn40 rfl (fun w1 hw1 => lib_slices_Equal___impl_Pair_impl_Pair__ok w1  h23 (rds_bor g4 w1 hw1) (rds_bor g12 w1 hw1))) (fun _ _ => trivial) ?_
      refine ow_batch [.p] rfl ?_
      obtain rfl := of_some H
      exact OW.sub key ⟨rfl, rfl, trivial⟩

set_option maxHeartbeats 4000000 in
set_option maxRecDepth 100000 in
theorem impl_StateSame_ok (w : World) {p0 : Timpl_State} {p1 : Timpl_State} {cs0 : List Value} {cs1 : List Value} {r : Bool} (H : impl_StateSame p0 p1 = some r)  (g0 : (eTimpl_State).rd w [] p0 cs0) (g1 : (eTimpl_State).rd w [] p1 cs1) :
    Calls Try.prog 7 #[.agg cs0.toArray, .agg cs1.toArray] w (fun en w' => en = .returned (.bool r) ∧ Ext [] w w') := by
  obtain ⟨c1, c2, c3, rfl, g4, g5, g6⟩ := rdo_Timpl_State g0
  obtain ⟨c7, c8, c9, c10, c11, c12, c13, rfl, g14, g15, g16, g17, g18, g19, g20⟩ := rdo_Timpl_Conf g4
  obtain ⟨c21, c22, rfl, g23, g24⟩ := rdo_Timpl_Schema g14
  obtain ⟨a25, c26, rfl⟩ := rd_sl1 g23
  obtain ⟨a27, c28, rfl⟩ := rd_sl1 g24
  obtain rfl : c8 = [.int .i64 p0.Conf_.Rule_.Sure_, .int .i64 p0.Conf_.Rule_.Tie_, .int .i64 p0.Conf_.Rule_.Grace_, .int .i64 p0.Conf_.Rule_.Depth_, .int .i64 p0.Conf_.Rule_.Nodes_, .int .i64 p0.Conf_.Rule_.Units_, .bool p0.Conf_.Rule_.Two_] := g15
  obtain rfl : c9 = [.int .i64 p0.Conf_.Members_] := g16
  obtain rfl : c10 = [.int .i64 p0.Conf_.Pick_] := g17
  obtain rfl : c11 = [.int .i64 p0.Conf_.Lambda_] := g18
  obtain rfl : c12 = [.int .i64 p0.Conf_.Warn_] := g19
  obtain rfl : c13 = [.int .i64 p0.Conf_.Drift_] := g20
  obtain ⟨c29, rfl, g30⟩ := rdo_Timpl_Forest g5
  obtain ⟨a31, c32, rfl⟩ := rd_sl1 g30
  obtain ⟨c33, c34, rfl, g35, g36⟩ := rdo_Timpl_Score g6
  obtain ⟨a37, c38, rfl⟩ := rd_sl1 g35
  obtain ⟨a39, c40, rfl⟩ := rd_sl1 g36
  obtain ⟨c41, c42, c43, rfl, g44, g45, g46⟩ := rdo_Timpl_State g1
  obtain ⟨c47, c48, c49, c50, c51, c52, c53, rfl, g54, g55, g56, g57, g58, g59, g60⟩ := rdo_Timpl_Conf g44
  obtain ⟨c61, c62, rfl, g63, g64⟩ := rdo_Timpl_Schema g54
  obtain ⟨a65, c66, rfl⟩ := rd_sl1 g63
  obtain ⟨a67, c68, rfl⟩ := rd_sl1 g64
  obtain rfl : c48 = [.int .i64 p1.Conf_.Rule_.Sure_, .int .i64 p1.Conf_.Rule_.Tie_, .int .i64 p1.Conf_.Rule_.Grace_, .int .i64 p1.Conf_.Rule_.Depth_, .int .i64 p1.Conf_.Rule_.Nodes_, .int .i64 p1.Conf_.Rule_.Units_, .bool p1.Conf_.Rule_.Two_] := g55
  obtain rfl : c49 = [.int .i64 p1.Conf_.Members_] := g56
  obtain rfl : c50 = [.int .i64 p1.Conf_.Pick_] := g57
  obtain rfl : c51 = [.int .i64 p1.Conf_.Lambda_] := g58
  obtain rfl : c52 = [.int .i64 p1.Conf_.Warn_] := g59
  obtain rfl : c53 = [.int .i64 p1.Conf_.Drift_] := g60
  obtain ⟨c69, rfl, g70⟩ := rdo_Timpl_Forest g45
  obtain ⟨a71, c72, rfl⟩ := rd_sl1 g70
  obtain ⟨c73, c74, rfl, g75, g76⟩ := rdo_Timpl_Score g46
  obtain ⟨a77, c78, rfl⟩ := rd_sl1 g75
  obtain ⟨a79, c80, rfl⟩ := rd_sl1 g76
  unfold impl_StateSame at H
  refine f_enter (vs := [.agg #[.slice a25 p0.Conf_.Schema_.Attrs_.length c26, .slice a27 p0.Conf_.Schema_.Classes_.length c28, .int .i64 p0.Conf_.Rule_.Sure_, .int .i64 p0.Conf_.Rule_.Tie_, .int .i64 p0.Conf_.Rule_.Grace_, .int .i64 p0.Conf_.Rule_.Depth_, .int .i64 p0.Conf_.Rule_.Nodes_, .int .i64 p0.Conf_.Rule_.Units_, .bool p0.Conf_.Rule_.Two_, .int .i64 p0.Conf_.Members_, .int .i64 p0.Conf_.Pick_, .int .i64 p0.Conf_.Lambda_, .int .i64 p0.Conf_.Warn_, .int .i64 p0.Conf_.Drift_, .slice a31 p0.Forest_.Members_.length c32, .slice a37 p0.Score_.Table_.length c38, .slice a39 p0.Score_.Last_.length c40], .agg #[.slice a65 p1.Conf_.Schema_.Attrs_.length c66, .slice a67 p1.Conf_.Schema_.Classes_.length c68, .int .i64 p1.Conf_.Rule_.Sure_, .int .i64 p1.Conf_.Rule_.Tie_, .int .i64 p1.Conf_.Rule_.Grace_, .int .i64 p1.Conf_.Rule_.Depth_, .int .i64 p1.Conf_.Rule_.Nodes_, .int .i64 p1.Conf_.Rule_.Units_, .bool p1.Conf_.Rule_.Two_, .int .i64 p1.Conf_.Members_, .int .i64 p1.Conf_.Pick_, .int .i64 p1.Conf_.Lambda_, .int .i64 p1.Conf_.Warn_, .int .i64 p1.Conf_.Drift_, .slice a71 p1.Forest_.Members_.length c72, .slice a77 p1.Score_.Table_.length c78, .slice a79 p1.Score_.Last_.length c80]]) Try.func7 rfl Try.ntmps7 rfl (St.init w []) ?_
  refine c_seq ?_
  refine c_reg ?_
  refine ow_box (cs := [.slice a25 p0.Conf_.Schema_.Attrs_.length c26, .slice a27 p0.Conf_.Schema_.Classes_.length c28, .int .i64 p0.Conf_.Rule_.Sure_, .int .i64 p0.Conf_.Rule_.Tie_, .int .i64 p0.Conf_.Rule_.Grace_, .int .i64 p0.Conf_.Rule_.Depth_, .int .i64 p0.Conf_.Rule_.Nodes_, .int .i64 p0.Conf_.Rule_.Units_, .bool p0.Conf_.Rule_.Two_, .int .i64 p0.Conf_.Members_, .int .i64 p0.Conf_.Pick_, .int .i64 p0.Conf_.Lambda_, .int .i64 p0.Conf_.Warn_, .int .i64 p0.Conf_.Drift_, .slice a31 p0.Forest_.Members_.length c32, .slice a37 p0.Score_.Table_.length c38, .slice a39 p0.Score_.Last_.length c40]) rfl rfl rfl rfl rfl rfl (fun _ => kp) (fun b81 => ?_)
  refine ow_box (cs := [.slice a65 p1.Conf_.Schema_.Attrs_.length c66, .slice a67 p1.Conf_.Schema_.Classes_.length c68, .int .i64 p1.Conf_.Rule_.Sure_, .int .i64 p1.Conf_.Rule_.Tie_, .int .i64 p1.Conf_.Rule_.Grace_, .int .i64 p1.Conf_.Rule_.Depth_, .int .i64 p1.Conf_.Rule_.Nodes_, .int .i64 p1.Conf_.Rule_.Units_, .bool p1.Conf_.Rule_.Two_, .int .i64 p1.Conf_.Members_, .int .i64 p1.Conf_.Pick_, .int .i64 p1.Conf_.Lambda_, .int .i64 p1.Conf_.Warn_, .int .i64 p1.Conf_.Drift_, .slice a71 p1.Forest_.Members_.length c72, .slice a77 p1.Score_.Table_.length c78, .slice a79 p1.Score_.Last_.length c80]) rfl rfl rfl rfl rfl rfl (fun _ => kp) (fun b82 => ?_)
  refine ow_batch [.p] rfl ?_
  refine ow_nil ?_
  refine x_qs ?_
  refine c_seq ?_
  refine c_reg ?_
  refine ow_batch [.fa 54 0 0 fa54_0] rfl ?_
  refine ow_r rfl (dstOk_lt rfl) (ry_box (off := 0) (ds := [.slice a25 p0.Conf_.Schema_.Attrs_.length c26, .slice a27 p0.Conf_.Schema_.Classes_.length c28, .int .i64 p0.Conf_.Rule_.Sure_, .int .i64 p0.Conf_.Rule_.Tie_, .int .i64 p0.Conf_.Rule_.Grace_, .int .i64 p0.Conf_.Rule_.Depth_, .int .i64 p0.Conf_.Rule_.Nodes_, .int .i64 p0.Conf_.Rule_.Units_, .bool p0.Conf_.Rule_.Two_, .int .i64 p0.Conf_.Members_, .int .i64 p0.Conf_.Pick_, .int .i64 p0.Conf_.Lambda_, .int .i64 p0.Conf_.Warn_, .int .i64 p0.Conf_.Drift_]) rfl rfl ty46 (boxIn (i := 0) rfl) rfl rfl) ?_
  refine ow_batch [.fa 54 0 0 fa54_0] rfl ?_
  refine ow_r rfl (dstOk_lt rfl) (ry_box (off := 0) (ds := [.slice a65 p1.Conf_.Schema_.Attrs_.length c66, .slice a67 p1.Conf_.Schema_.Classes_.length c68, .int .i64 p1.Conf_.Rule_.Sure_, .int .i64 p1.Conf_.Rule_.Tie_, .int .i64 p1.Conf_.Rule_.Grace_, .int .i64 p1.Conf_.Rule_.Depth_, .int .i64 p1.Conf_.Rule_.Nodes_, .int .i64 p1.Conf_.Rule_.Units_, .bool p1.Conf_.Rule_.Two_, .int .i64 p1.Conf_.Members_, .int .i64 p1.Conf_.Pick_, .int .i64 p1.Conf_.Lambda_, .int .i64 p1.Conf_.Warn_, .int .i64 p1.Conf_.Drift_]) rfl rfl ty46 (boxIn (i := 1) rfl) rfl rfl) ?_
  obtain ⟨y83, h84, H⟩ := of_bind H
  refine ow_q rfl rfl (dstOk_lt rfl) (qy_call rfl fn18 rfl (fun w1 hw1 => impl_ConfSame_ok w1 (cs0 := [.slice a25 p0.Conf_.Schema_.Attrs_.length c26, .slice a27 p0.Conf_.Schema_.Classes_.length c28, .int .i64 p0.Conf_.Rule_.Sure_, .int .i64 p0.Conf_.Rule_.Tie_, .int .i64 p0.Conf_.Rule_.Grace_, .int .i64 p0.Conf_.Rule_.Depth_, .int .i64 p0.Conf_.Rule_.Nodes_, .int .i64 p0.Conf_.Rule_.Units_, .bool p0.Conf_.Rule_.Two_, .int .i64 p0.Conf_.Members_, .int .i64 p0.Conf_.Pick_, .int .i64 p0.Conf_.Lambda_, .int .i64 p0.Conf_.Warn_, .int .i64 p0.Conf_.Drift_]) (cs1 := [.slice a65 p1.Conf_.Schema_.Attrs_.length c66, .slice a67 p1.Conf_.Schema_.Classes_.length c68, .int .i64 p1.Conf_.Rule_.Sure_, .int .i64 p1.Conf_.Rule_.Tie_, .int .i64 p1.Conf_.Rule_.Grace_, .int .i64 p1.Conf_.Rule_.Depth_, .int .i64 p1.Conf_.Rule_.Nodes_, .int .i64 p1.Conf_.Rule_.Units_, .bool p1.Conf_.Rule_.Two_, .int .i64 p1.Conf_.Members_, .int .i64 p1.Conf_.Pick_, .int .i64 p1.Conf_.Lambda_, .int .i64 p1.Conf_.Warn_, .int .i64 p1.Conf_.Drift_]) h84 (rdm_Timpl_Conf (x := p0.Conf_) (c0 := [.slice a25 p0.Conf_.Schema_.Attrs_.length c26, .slice a27 p0.Conf_.Schema_.Classes_.length c28]) (c1 := [.int .i64 p0.Conf_.Rule_.Sure_, .int .i64 p0.Conf_.Rule_.Tie_, .int .i64 p0.Conf_.Rule_.Grace_, .int .i64 p0.Conf_.Rule_.Depth_, .int .i64 p0.Conf_.Rule_.Nodes_, .int .i64 p0.Conf_.Rule_.Units_, .bool p0.Conf_.Rule_.Two_]) (c2 := [.int .i64 p0.Conf_.Members_]) (c3 := [.int .i64 p0.Conf_.Pick_]) (c4 := [.int .i64 p0.Conf_.Lambda_]) (c5 := [.int .i64 p0.Conf_.Warn_]) (c6 := [.int .i64 p0.Conf_.Drift_]) (rdm_Timpl_Schema (x := p0.Conf_.Schema_) (c0 := [.slice a25 p0.Conf_.Schema_.Attrs_.length c26]) (c1 := [.slice a27 p0.Conf_.Schema_.Classes_.length c28]) (rds_bor g23 w1 hw1) (rds_bor g24 w1 hw1)) rfl rfl rfl rfl rfl rfl) (rdm_Timpl_Conf (x := p1.Conf_) (c0 := [.slice a65 p1.Conf_.Schema_.Attrs_.length c66, .slice a67 p1.Conf_.Schema_.Classes_.length c68]) (c1 := [.int .i64 p1.Conf_.Rule_.Sure_, .int .i64 p1.Conf_.Rule_.Tie_, .int .i64 p1.Conf_.Rule_.Grace_, .int .i64 p1.Conf_.Rule_.Depth_, .int .i64 p1.Conf_.Rule_.Nodes_, .int .i64 p1.Conf_.Rule_.Units_, .bool p1.Conf_.Rule_.Two_]) (c2 := [.int .i64 p1.Conf_.Members_]) (c3 := [.int .i64 p1.Conf_.Pick_]) (c4 := [.int .i64 p1.Conf_.Lambda_]) (c5 := [.int .i64 p1.Conf_.Warn_]) (c6 := [.int .i64 p1.Conf_.Drift_]) (rdm_Timpl_Schema (x := p1.Conf_.Schema_) (c0 := [.slice a65 p1.Conf_.Schema_.Attrs_.length c66]) (c1 := [.slice a67 p1.Conf_.Schema_.Classes_.length c68]) (rds_bor g63 w1 hw1) (rds_bor g64 w1 hw1)) rfl rfl rfl rfl rfl rfl))) (fun _ _ => trivial) ?_
  refine ow_batch [.p] rfl ?_
  obtain ⟨u85, hu89, H⟩ := of_bind H
  refine ow_cut [(16, .bool u85), (2, .pointer (some ⟨b81, 0, none⟩)), (3, .pointer (some ⟨b82, 0, none⟩)), (4, .bool false)] 6 ?_ (fun key => OW.sub (R := [(2, .pointer (some ⟨b81, 0, none⟩)), (3, .pointer (some ⟨b82, 0, none⟩)), (4, .bool false), (10, .bool y83)]) ?_ ⟨rfl, rfl, rfl, rfl, trivial⟩)
  · refine ow_batch [.p] rfl ?_
    obtain ⟨u90, hu94, H⟩ := of_bind H
    refine ow_cut [(23, .bool u90), (4, .bool false)] 6 ?_ (fun key => OW.sub (R := [(2, .pointer (some ⟨b81, 0, none⟩)), (3, .pointer (some ⟨b82, 0, none⟩)), (4, .bool false), (17, .bool u85)]) ?_ ⟨rfl, rfl, rfl, rfl, trivial⟩)
    · refine ow_batch [.p] rfl ?_
      refine ow_nil ?_
      refine x_qs ?_
      refine c_ret ?_
      exact x_retR (rs := [.tmp 4]) (vs := [.bool u90]) rfl ⟨rfl, trivial⟩ (fun w' hw' => by
          obtain rfl := of_some H
          exact ⟨rfl, hw'.ext⟩)
    · clear H
      have H := hu94
      clear hu94
      generalize u85 = t93 at H ⊢
      cases t93
      · have H := of_if_f rfl H
        refine ow_batch [.p, .p, .p, .p, .p, .p] rfl ?_
        obtain rfl := of_some H
        exact OW.sub key ⟨rfl, rfl, trivial⟩
      · have H := of_if_t rfl H
        refine ow_batch [.fa 54 2 15 fa54_2] rfl ?_
        refine ow_r rfl (dstOk_lt rfl) (ry_box (off := 15) (ds := [.slice a37 p0.Score_.Table_.length c38, .slice a39 p0.Score_.Last_.length c40]) rfl rfl ty52 (boxIn (i := 0) rfl) rfl rfl) ?_
        refine ow_batch [.fa 54 2 15 fa54_2] rfl ?_
        refine ow_r rfl (dstOk_lt rfl) (ry_box (off := 15) (ds := [.slice a77 p1.Score_.Table_.length c78, .slice a79 p1.Score_.Last_.length c80]) rfl rfl ty52 (boxIn (i := 1) rfl) rfl rfl) ?_
        obtain ⟨y91, h92, H⟩ := of_bind H
        refine ow_q rfl rfl (dstOk_lt rfl) (qy_call rfl fn20 rfl (fun w1 hw1 => impl_ScoreSame_ok w1 (cs0 := [.slice a37 p0.Score_.Table_.length c38, .slice a39 p0.Score_.Last_.length c40]) (cs1 := [.slice a77 p1.Score_.Table_.length c78, .slice a79 p1.Score_.Last_.length c80]) h92 (rdm_Timpl_Score (x := p0.Score_) (c0 := [.slice a37 p0.Score_.Table_.length c38]) (c1 := [.slice a39 p0.Score_.Last_.length c40]) (rds_bor g35 w1 hw1) (rds_bor g36 w1 hw1)) (rdm_Timpl_Score (x := p1.Score_) (c0 := [.slice a77 p1.Score_.Table_.length c78]) (c1 := [.slice a79 p1.Score_.Last_.length c80]) (rds_bor g75 w1 hw1) (rds_bor g76 w1 hw1)))) (fun _ _ => trivial) ?_
        refine ow_batch [.p] rfl ?_
        obtain rfl := of_some H
        exact OW.sub key ⟨rfl, rfl, trivial⟩
  · clear H
    have H := hu89
    clear hu89
    generalize y83 = t88 at H ⊢
    cases t88
    · have H := of_if_f rfl H
      refine ow_batch [.p, .p, .p, .p, .p, .p] rfl ?_
      obtain rfl := of_some H
      exact OW.sub key ⟨rfl, rfl, rfl, rfl, trivial⟩
    · have H := of_if_t rfl H
      refine ow_batch [.fa 54 1 14 fa54_1] rfl ?_
      refine ow_r rfl (dstOk_lt rfl) (ry_box (off := 14) (ds := [.slice a31 p0.Forest_.Members_.length c32]) rfl rfl ty49 (boxIn (i := 0) rfl) rfl rfl) ?_
      refine ow_batch [.fa 54 1 14 fa54_1] rfl ?_
      refine ow_r rfl (dstOk_lt rfl) (ry_box (off := 14) (ds := [.slice a71 p1.Forest_.Members_.length c72]) rfl rfl ty49 (boxIn (i := 1) rfl) rfl rfl) ?_
      obtain ⟨y86, h87, H⟩ := of_bind H
      refine ow_q rfl rfl (dstOk_lt rfl) (qy_call rfl fn19 rfl (fun w1 hw1 => impl_ForestSame_ok w1 (cs0 := [.slice a31 p0.Forest_.Members_.length c32]) (cs1 := [.slice a71 p1.Forest_.Members_.length c72]) h87 (rdm_Timpl_Forest (x := p0.Forest_) (c0 := [.slice a31 p0.Forest_.Members_.length c32]) (rds_bor g30 w1 hw1)) (rdm_Timpl_Forest (x := p1.Forest_) (c0 := [.slice a71 p1.Forest_.Members_.length c72]) (rds_bor g70 w1 hw1)))) (fun _ _ => trivial) ?_
      refine ow_batch [.p] rfl ?_
      obtain rfl := of_some H
      exact OW.sub key ⟨rfl, rfl, rfl, rfl, trivial⟩

set_option maxHeartbeats 4000000 in
set_option maxRecDepth 100000 in
theorem laws_eqIntS_ok (w : World) {p0 : List Int} {p1 : List Int} {a_0 : Option Addr} {n_0 c_0 : Nat} {a_1 : Option Addr} {n_1 c_1 : Nat} {r : Bool} (H : laws_eqIntS p0 p1 = some r)  (g0 : (eList (eVal (Value.int .i64) (fun _ => rfl)) 3).rd w [] p0 [.slice a_0 n_0 c_0]) (g1 : (eList (eVal (Value.int .i64) (fun _ => rfl)) 3).rd w [] p1 [.slice a_1 n_1 c_1]) :
    Calls Try.prog 69 #[.slice a_0 n_0 c_0, .slice a_1 n_1 c_1] w (fun en w' => en = .returned (.bool r) ∧ Ext [] w w') := by
  obtain rfl := rd_n g0
  obtain rfl := rd_n g1
  unfold laws_eqIntS at H
  refine f_enter (vs := [.slice a_0 p0.length c_0, .slice a_1 p1.length c_1]) Try.func69 rfl Try.ntmps69 rfl (St.init w []) ?_
  refine c_seq ?_
  refine c_reg ?_
  refine ow_batch [.p] rfl ?_
  refine ow_nil ?_
  refine x_qs ?_
  refine c_seq ?_
  refine c_seq ?_
  refine c_reg ?_
  refine ow_batch [.p, .lenS 82 3 sl82, .p, .lenS 82 3 sl82, .p] rfl ?_
  refine ow_nil ?_
  refine x_qs ?_
  refine c_if rfl (fun hb => ?_) (fun hb => ?_)
  · have H := of_if_t hb H
    refine c_seq ?_
    refine c_reg ?_
    refine ow_batch [.p] rfl ?_
    refine ow_nil ?_
    refine x_qs ?_
    refine c_ret ?_
    refine x_qs_ret ?_
    exact x_retR (rs := [.tmp 4]) (vs := [.bool false]) rfl ⟨rfl, trivial⟩ (fun w' hw' => by
        obtain rfl := of_some H
        exact ⟨rfl, hw'.ext⟩)
  · have H := of_if_f hb H
    refine c_skip ?_
    refine x_qs ?_
    refine c_seq ?_
    refine c_seq ?_
    refine c_reg ?_
    refine ow_batch [.p] rfl ?_
    refine ow_nil ?_
    refine x_qs ?_
    refine c_block ?_
    refine CW.at (loopI1 (fun (i6 : Int) => St w [] []) (fun (i6 : Int) => [(0, .slice a_0 p0.length c_0), (1, .slice a_1 p1.length c_1), (5, .int .i64 i6)]) (fun kk => fun (i6 : Int) => laws_eqIntS_L1 p0 p1 kk i6 = some r) (fun _ H => ?_) (fun k1 ihk1 i6 H => ?_) Fuel (0) (H)) (fun _ h => St.sel [] rfl rfl h) ⟨rfl, rfl, rfl,  trivial⟩
    · unfold laws_eqIntS_L1 at H
      exact absurd H (by simp)
    · unfold laws_eqIntS_L1 at H
      refine c_seq ?_
      refine c_seq ?_
      refine c_reg ?_
      refine ow_batch [.p, .p, .lenS 82 3 sl82, .p] rfl ?_
      refine ow_nil ?_
      refine x_qs ?_
      refine c_if rfl (fun hb => ?_) (fun hb => ?_)
      · have H := of_if_t hb H
        refine c_skip ?_
        refine x_qs ?_
        refine c_seq ?_
        refine c_block ?_
        refine c_seq ?_
        refine c_regQ mixed (by kernel_rfl) ?_
        refine ow_batch [.p, .p] rfl ?_
        obtain ⟨e12, h13, H⟩ := of_bind H
        refine ow_ixE (e := eVal (Value.int .i64) (fun _ => rfl)) (xs := p0) (j := i6) rfl rfl rfl rfl rfl sl82 ty3 rfl (fun w1 hw1 => rds_bor g0 w1 hw1) h13 (by rw [Nat.mul_one]) ?_
        refine ow_r rfl (dstOk_lt rfl) (ry_load1 rfl rfl ty3 (at_elV (fun w1 hw1 => rds_bor g0 w1 hw1) h13)) ?_
        refine ow_batch [.p, .p] rfl ?_
        obtain ⟨e14, h15, H⟩ := of_bind H
        refine ow_ixE (e := eVal (Value.int .i64) (fun _ => rfl)) (xs := p1) (j := i6) rfl rfl rfl rfl rfl sl82 ty3 rfl (fun w1 hw1 => rds_bor g1 w1 hw1) h15 (by rw [Nat.mul_one]) ?_
        refine ow_r rfl (dstOk_lt rfl) (ry_load1 rfl rfl ty3 (at_elV (fun w1 hw1 => rds_bor g1 w1 hw1) h15)) ?_
        refine ow_batch [.p] rfl ?_
        refine ow_nilQ ?_
        refine x_qs ?_
        refine c_if rfl (fun hb => ?_) (fun hb => ?_)
        · have H := of_if_t hb H
          refine c_seq ?_
          refine c_reg ?_
          refine ow_batch [.p] rfl ?_
          refine ow_nil ?_
          refine x_qs ?_
          refine c_ret ?_
          refine x_qb_ret ?_
          refine x_qs_ret ?_
          refine x_ql_ret ?_
          refine x_qb_ret ?_
          refine x_qs_ret ?_
          exact x_retR (rs := [.tmp 4]) (vs := [.bool false]) rfl ⟨rfl, trivial⟩ (fun w' hw' => by
              obtain rfl := of_some H
              exact ⟨rfl, hw'.ext⟩)
        · have H := of_if_f hb H
          refine c_skip ?_
          refine x_qb ?_
          refine x_qs ?_
          refine c_reg ?_
          refine ow_batch [.p, .p, .p] rfl ?_
          refine ow_nil ?_
          exact x_ql (RW.at (ihk1 (IntKind.i64.wrap (i6 + 1)) (H)) (fun _ h => St.sel [] rfl rfl h) ⟨rfl, rfl, rfl, trivial⟩)
      · have H := of_if_f hb H
        refine c_exit ?_
        refine x_qs_exit ?_
        refine x_ql_exit ?_
        refine x_qb_here ?_
        refine x_qs ?_
        refine c_seq ?_
        refine c_reg ?_
        refine ow_batch [.p] rfl ?_
        refine ow_nil ?_
        refine x_qs ?_
        refine c_ret ?_
        exact x_retR (rs := [.tmp 4]) (vs := [.bool true]) rfl ⟨rfl, trivial⟩ (fun w' hw' => by
            obtain rfl := of_some H
            exact ⟨rfl, hw'.ext⟩)

set_option maxHeartbeats 4000000 in
set_option maxRecDepth 100000 in
theorem laws_eqStringS_ok (w : World) {p0 : List (List UInt8)} {p1 : List (List UInt8)} {a_0 : Option Addr} {n_0 c_0 : Nat} {a_1 : Option Addr} {n_1 c_1 : Nat} {r : Bool} (H : laws_eqStringS p0 p1 = some r)  (g0 : (eList (eStr) 9).rd w [] p0 [.slice a_0 n_0 c_0]) (g1 : (eList (eStr) 9).rd w [] p1 [.slice a_1 n_1 c_1]) :
    Calls Try.prog 67 #[.slice a_0 n_0 c_0, .slice a_1 n_1 c_1] w (fun en w' => en = .returned (.bool r) ∧ Ext [] w w') := by
  obtain rfl := rd_n g0
  obtain rfl := rd_n g1
  unfold laws_eqStringS at H
  refine f_enter (vs := [.slice a_0 p0.length c_0, .slice a_1 p1.length c_1]) Try.func67 rfl Try.ntmps67 rfl (St.init w []) ?_
  refine c_seq ?_
  refine c_reg ?_
  refine ow_batch [.p] rfl ?_
  refine ow_nil ?_
  refine x_qs ?_
  refine c_seq ?_
  refine c_seq ?_
  refine c_reg ?_
  refine ow_batch [.p, .lenS 23 9 sl23, .p, .lenS 23 9 sl23, .p] rfl ?_
  refine ow_nil ?_
  refine x_qs ?_
  refine c_if rfl (fun hb => ?_) (fun hb => ?_)
  · have H := of_if_t hb H
    refine c_seq ?_
    refine c_reg ?_
    refine ow_batch [.p] rfl ?_
    refine ow_nil ?_
    refine x_qs ?_
    refine c_ret ?_
    refine x_qs_ret ?_
    exact x_retR (rs := [.tmp 4]) (vs := [.bool false]) rfl ⟨rfl, trivial⟩ (fun w' hw' => by
        obtain rfl := of_some H
        exact ⟨rfl, hw'.ext⟩)
  · have H := of_if_f hb H
    refine c_skip ?_
    refine x_qs ?_
    refine c_seq ?_
    refine c_seq ?_
    refine c_reg ?_
    refine ow_batch [.p] rfl ?_
    refine ow_nil ?_
    refine x_qs ?_
    refine c_block ?_
    refine CW.at (loopI1 (fun (i6 : Int) => St w [] []) (fun (i6 : Int) => [(0, .slice a_0 p0.length c_0), (1, .slice a_1 p1.length c_1), (5, .int .i64 i6)]) (fun kk => fun (i6 : Int) => laws_eqStringS_L1 p0 p1 kk i6 = some r) (fun _ H => ?_) (fun k1 ihk1 i6 H => ?_) Fuel (0) (H)) (fun _ h => St.sel [] rfl rfl h) ⟨rfl, rfl, rfl,  trivial⟩
    · unfold laws_eqStringS_L1 at H
      exact absurd H (by simp)
    · unfold laws_eqStringS_L1 at H
      refine c_seq ?_
      refine c_seq ?_
      refine c_reg ?_
      refine ow_batch [.p, .p, .lenS 23 9 sl23, .p] rfl ?_
      refine ow_nil ?_
      refine x_qs ?_
      refine c_if rfl (fun hb => ?_) (fun hb => ?_)
      · have H := of_if_t hb H
        refine c_skip ?_
        refine x_qs ?_
        refine c_seq ?_
        refine c_block ?_
        refine c_seq ?_
        refine c_regQ mixed (by kernel_rfl) ?_
        refine ow_batch [.p, .p] rfl ?_
        obtain ⟨e12, h13, H⟩ := of_bind H
        refine ow_ixE (e := eStr) (xs := p0) (j := i6) rfl rfl rfl rfl rfl sl23 ty9 rfl (fun w1 hw1 => rds_bor g0 w1 hw1) h13 (by rw [Nat.mul_one]) ?_
        refine ow_r rfl (dstOk_lt rfl) (ry_load1 rfl rfl ty9 (at_elV (fun w1 hw1 => rds_bor g0 w1 hw1) h13)) ?_
        refine ow_batch [.p, .p] rfl ?_
        obtain ⟨e14, h15, H⟩ := of_bind H
        refine ow_ixE (e := eStr) (xs := p1) (j := i6) rfl rfl rfl rfl rfl sl23 ty9 rfl (fun w1 hw1 => rds_bor g1 w1 hw1) h15 (by rw [Nat.mul_one]) ?_
        refine ow_r rfl (dstOk_lt rfl) (ry_load1 rfl rfl ty9 (at_elV (fun w1 hw1 => rds_bor g1 w1 hw1) h15)) ?_
        refine ow_batch [.p] rfl ?_
        refine ow_nilQ ?_
        refine x_qs ?_
        refine c_if rfl (fun hb => ?_) (fun hb => ?_)
        · have H := of_if_t hb H
          refine c_seq ?_
          refine c_reg ?_
          refine ow_batch [.p] rfl ?_
          refine ow_nil ?_
          refine x_qs ?_
          refine c_ret ?_
          refine x_qb_ret ?_
          refine x_qs_ret ?_
          refine x_ql_ret ?_
          refine x_qb_ret ?_
          refine x_qs_ret ?_
          exact x_retR (rs := [.tmp 4]) (vs := [.bool false]) rfl ⟨rfl, trivial⟩ (fun w' hw' => by
              obtain rfl := of_some H
              exact ⟨rfl, hw'.ext⟩)
        · have H := of_if_f hb H
          refine c_skip ?_
          refine x_qb ?_
          refine x_qs ?_
          refine c_reg ?_
          refine ow_batch [.p, .p, .p] rfl ?_
          refine ow_nil ?_
          exact x_ql (RW.at (ihk1 (IntKind.i64.wrap (i6 + 1)) (H)) (fun _ h => St.sel [] rfl rfl h) ⟨rfl, rfl, rfl, trivial⟩)
      · have H := of_if_f hb H
        refine c_exit ?_
        refine x_qs_exit ?_
        refine x_ql_exit ?_
        refine x_qb_here ?_
        refine x_qs ?_
        refine c_seq ?_
        refine c_reg ?_
        refine ow_batch [.p] rfl ?_
        refine ow_nil ?_
        refine x_qs ?_
        refine c_ret ?_
        exact x_retR (rs := [.tmp 4]) (vs := [.bool true]) rfl ⟨rfl, trivial⟩ (fun w' hw' => by
            obtain rfl := of_some H
            exact ⟨rfl, hw'.ext⟩)

set_option maxHeartbeats 4000000 in
set_option maxRecDepth 100000 in
theorem laws_eqAttr_ok (w : World) {p0 : Timpl_Attr} {p1 : Timpl_Attr} {cs0 : List Value} {cs1 : List Value} {r : Bool} (H : laws_eqAttr p0 p1 = some r)  (g0 : (eTimpl_Attr).rd w [] p0 cs0) (g1 : (eTimpl_Attr).rd w [] p1 cs1) :
    Calls Try.prog 82 #[.agg cs0.toArray, .agg cs1.toArray] w (fun en w' => en = .returned (.bool r) ∧ Ext [] w w') := by
  obtain ⟨c1, c2, c3, rfl, g4, g5, g6⟩ := rdo_Timpl_Attr g0
  obtain rfl : c1 = [vS p0.Name_] := g4
  obtain ⟨a7, c8, rfl⟩ := rd_sl1 g5
  obtain ⟨a9, c10, rfl⟩ := rd_sl1 g6
  obtain ⟨c11, c12, c13, rfl, g14, g15, g16⟩ := rdo_Timpl_Attr g1
  obtain rfl : c11 = [vS p1.Name_] := g14
  obtain ⟨a17, c18, rfl⟩ := rd_sl1 g15
  obtain ⟨a19, c20, rfl⟩ := rd_sl1 g16
  unfold laws_eqAttr at H
  refine f_enter (vs := [.agg #[vS p0.Name_, .slice a7 p0.Cuts_.length c8, .slice a9 p0.Values_.length c10], .agg #[vS p1.Name_, .slice a17 p1.Cuts_.length c18, .slice a19 p1.Values_.length c20]]) Try.func82 rfl Try.ntmps82 rfl (St.init w []) ?_
  refine c_seq ?_
  refine c_reg ?_
  refine ow_box (cs := [vS p0.Name_, .slice a7 p0.Cuts_.length c8, .slice a9 p0.Values_.length c10]) rfl rfl rfl rfl rfl rfl (fun _ => kp) (fun b21 => ?_)
  refine ow_box (cs := [vS p1.Name_, .slice a17 p1.Cuts_.length c18, .slice a19 p1.Values_.length c20]) rfl rfl rfl rfl rfl rfl (fun _ => kp) (fun b22 => ?_)
  refine ow_batch [.p] rfl ?_
  refine ow_nil ?_
  refine x_qs ?_
  refine c_seq ?_
  refine c_seq ?_
  refine c_reg ?_
  refine ow_batch [.fa 109 0 0 fa109_0] rfl ?_
  refine ow_r rfl (dstOk_lt rfl) (ry_box1 (off := 0) rfl rfl ty9 (boxIn (i := 0) rfl) rfl) ?_
  refine ow_batch [.fa 109 0 0 fa109_0] rfl ?_
  refine ow_r rfl (dstOk_lt rfl) (ry_box1 (off := 0) rfl rfl ty9 (boxIn (i := 1) rfl) rfl) ?_
  refine ow_batch [.p] rfl ?_
  refine ow_nil ?_
  refine x_qs ?_
  refine c_if rfl (fun hb => ?_) (fun hb => ?_)
  · have H := of_if_t hb H
    refine c_seq ?_
    refine c_reg ?_
    refine ow_batch [.p] rfl ?_
    refine ow_nil ?_
    refine x_qs ?_
    refine c_ret ?_
    refine x_qs_ret ?_
    exact x_retR (rs := [.tmp 4]) (vs := [.bool false]) rfl ⟨rfl, trivial⟩ (fun w' hw' => by
        obtain rfl := of_some H
        exact ⟨rfl, hw'.ext⟩)
  · have H := of_if_f hb H
    refine c_skip ?_
    refine x_qs ?_
    refine c_seq ?_
    refine c_seq ?_
    refine c_reg ?_
    refine ow_batch [.fa 109 1 1 fa109_1] rfl ?_
    refine ow_r rfl (dstOk_lt rfl) (ry_box1 (off := 1) rfl rfl ty82 (boxIn (i := 0) rfl) rfl) ?_
    refine ow_batch [.fa 109 1 1 fa109_1] rfl ?_
    refine ow_r rfl (dstOk_lt rfl) (ry_box1 (off := 1) rfl rfl ty82 (boxIn (i := 1) rfl) rfl) ?_
    obtain ⟨y23, h24, H⟩ := of_bind H
    refine ow_q rfl rfl (dstOk_lt rfl) (qy_call rfl fn69 rfl (fun w1 hw1 => laws_eqIntS_ok w1  h24 (rds_bor g5 w1 hw1) (rds_bor g15 w1 hw1))) (fun _ _ => trivial) ?_
    refine ow_batch [.p] rfl ?_
    refine ow_nil ?_
    refine x_qs ?_
    refine c_if rfl (fun hb => ?_) (fun hb => ?_)
    · have H := of_if_t hb H
      refine c_seq ?_
      refine c_reg ?_
      refine ow_batch [.p] rfl ?_
      refine ow_nil ?_
      refine x_qs ?_
      refine c_ret ?_
      refine x_qs_ret ?_
      exact x_retR (rs := [.tmp 4]) (vs := [.bool false]) rfl ⟨rfl, trivial⟩ (fun w' hw' => by
          obtain rfl := of_some H
          exact ⟨rfl, hw'.ext⟩)
    · have H := of_if_f hb H
      refine c_skip ?_
      refine x_qs ?_
      refine c_seq ?_
      refine c_seq ?_
      refine c_reg ?_
      refine ow_batch [.fa 109 2 2 fa109_2] rfl ?_
      refine ow_r rfl (dstOk_lt rfl) (ry_box1 (off := 2) rfl rfl ty23 (boxIn (i := 0) rfl) rfl) ?_
      refine ow_batch [.fa 109 2 2 fa109_2] rfl ?_
      refine ow_r rfl (dstOk_lt rfl) (ry_box1 (off := 2) rfl rfl ty23 (boxIn (i := 1) rfl) rfl) ?_
      obtain ⟨y25, h26, H⟩ := of_bind H
      refine ow_q rfl rfl (dstOk_lt rfl) (qy_call rfl fn67 rfl (fun w1 hw1 => laws_eqStringS_ok w1  h26 (rds_bor g6 w1 hw1) (rds_bor g16 w1 hw1))) (fun _ _ => trivial) ?_
      refine ow_batch [.p] rfl ?_
      refine ow_nil ?_
      refine x_qs ?_
      refine c_if rfl (fun hb => ?_) (fun hb => ?_)
      · have H := of_if_t hb H
        refine c_seq ?_
        refine c_reg ?_
        refine ow_batch [.p] rfl ?_
        refine ow_nil ?_
        refine x_qs ?_
        refine c_ret ?_
        refine x_qs_ret ?_
        exact x_retR (rs := [.tmp 4]) (vs := [.bool false]) rfl ⟨rfl, trivial⟩ (fun w' hw' => by
            obtain rfl := of_some H
            exact ⟨rfl, hw'.ext⟩)
      · have H := of_if_f hb H
        refine c_skip ?_
        refine x_qs ?_
        refine c_seq ?_
        refine c_reg ?_
        refine ow_batch [.p] rfl ?_
        refine ow_nil ?_
        refine x_qs ?_
        refine c_ret ?_
        exact x_retR (rs := [.tmp 4]) (vs := [.bool true]) rfl ⟨rfl, trivial⟩ (fun w' hw' => by
            obtain rfl := of_some H
            exact ⟨rfl, hw'.ext⟩)

set_option maxHeartbeats 4000000 in
set_option maxRecDepth 100000 in
theorem laws_eqAttrS_ok (w : World) {p0 : List Timpl_Attr} {p1 : List Timpl_Attr} {a_0 : Option Addr} {n_0 c_0 : Nat} {a_1 : Option Addr} {n_1 c_1 : Nat} {r : Bool} (H : laws_eqAttrS p0 p1 = some r)  (g0 : (eList (eTimpl_Attr) 109).rd w [] p0 [.slice a_0 n_0 c_0]) (g1 : (eList (eTimpl_Attr) 109).rd w [] p1 [.slice a_1 n_1 c_1]) :
    Calls Try.prog 66 #[.slice a_0 n_0 c_0, .slice a_1 n_1 c_1] w (fun en w' => en = .returned (.bool r) ∧ Ext [] w w') := by
  obtain rfl := rd_n g0
  obtain rfl := rd_n g1
  unfold laws_eqAttrS at H
  refine f_enter (vs := [.slice a_0 p0.length c_0, .slice a_1 p1.length c_1]) Try.func66 rfl Try.ntmps66 rfl (St.init w []) ?_
  refine c_seq ?_
  refine c_reg ?_
  refine ow_batch [.p] rfl ?_
  refine ow_nil ?_
  refine x_qs ?_
  refine c_seq ?_
  refine c_seq ?_
  refine c_reg ?_
  refine ow_batch [.p, .lenS 41 109 sl41, .p, .lenS 41 109 sl41, .p] rfl ?_
  refine ow_nil ?_
  refine x_qs ?_
  refine c_if rfl (fun hb => ?_) (fun hb => ?_)
  · have H := of_if_t hb H
    refine c_seq ?_
    refine c_reg ?_
    refine ow_batch [.p] rfl ?_
    refine ow_nil ?_
    refine x_qs ?_
    refine c_ret ?_
    refine x_qs_ret ?_
    exact x_retR (rs := [.tmp 4]) (vs := [.bool false]) rfl ⟨rfl, trivial⟩ (fun w' hw' => by
        obtain rfl := of_some H
        exact ⟨rfl, hw'.ext⟩)
  · have H := of_if_f hb H
    refine c_skip ?_
    refine x_qs ?_
    refine c_seq ?_
    refine c_seq ?_
    refine c_reg ?_
    refine ow_batch [.p] rfl ?_
    refine ow_nil ?_
    refine x_qs ?_
    refine c_block ?_
    refine CW.at (loopI1 (fun (i36 : Int) => St w [] []) (fun (i36 : Int) => [(0, .slice a_0 p0.length c_0), (1, .slice a_1 p1.length c_1), (5, .int .i64 i36)]) (fun kk => fun (i36 : Int) => laws_eqAttrS_L1 p0 p1 kk i36 = some r) (fun _ H => ?_) (fun k1 ihk1 i36 H => ?_) Fuel (0) (H)) (fun _ h => St.sel [] rfl rfl h) ⟨rfl, rfl, rfl,  trivial⟩
    · unfold laws_eqAttrS_L1 at H
      exact absurd H (by simp)
    · unfold laws_eqAttrS_L1 at H
      refine c_seq ?_
      refine c_seq ?_
      refine c_reg ?_
      refine ow_batch [.p, .p, .lenS 41 109 sl41, .p] rfl ?_
      refine ow_nil ?_
      refine x_qs ?_
      refine c_if rfl (fun hb => ?_) (fun hb => ?_)
      · have H := of_if_t hb H
        refine c_skip ?_
        refine x_qs ?_
        refine c_seq ?_
        refine c_block ?_
        refine c_seq ?_
        refine c_regQ mixed (by kernel_rfl) ?_
        refine ow_batch [.p, .p] rfl ?_
        obtain ⟨e72, h73, H⟩ := of_bind H
        refine ow_ixB rfl rfl rfl rfl rfl sl41 ty109 rfl g0 h73 (fun q76 c77 hd74 hA75 => ?_)
        obtain ⟨c78, c79, c80, rfl, g81, g82, g83⟩ := rdo_Timpl_Attr hd74
        obtain rfl : c78 = [vS e72.Name_] := g81
        obtain ⟨a84, c85, rfl⟩ := rd_sl1 g82
        obtain ⟨a86, c87, rfl⟩ := rd_sl1 g83
        refine ow_r rfl (dstOk_lt rfl) (ry_load (cs := [vS e72.Name_, .slice a84 e72.Cuts_.length c85, .slice a86 e72.Values_.length c87]) rfl rfl ty109 (at_bor bor hA75) rfl) ?_
        refine ow_batch [.p, .p] rfl ?_
        obtain ⟨e88, h89, H⟩ := of_bind H
        refine ow_ixB rfl rfl rfl rfl rfl sl41 ty109 rfl g1 h89 (fun q92 c93 hd90 hA91 => ?_)
        obtain ⟨c94, c95, c96, rfl, g97, g98, g99⟩ := rdo_Timpl_Attr hd90
        obtain rfl : c94 = [vS e88.Name_] := g97
        obtain ⟨a100, c101, rfl⟩ := rd_sl1 g98
        obtain ⟨a102, c103, rfl⟩ := rd_sl1 g99
        refine ow_r rfl (dstOk_lt rfl) (ry_load (cs := [vS e88.Name_, .slice a100 e88.Cuts_.length c101, .slice a102 e88.Values_.length c103]) rfl rfl ty109 (at_bor bor hA91) rfl) ?_
        obtain ⟨y104, h105, H⟩ := of_bind H
        refine ow_q rfl rfl (dstOk_lt rfl) (qy_call rfl fn82 rfl (fun w1 hw1 => laws_eqAttr_ok w1 (cs0 := [vS e72.Name_, .slice a84 e72.Cuts_.length c85, .slice a86 e72.Values_.length c87]) (cs1 := [vS e88.Name_, .slice a100 e88.Cuts_.length c101, .slice a102 e88.Values_.length c103]) h105 (rdm_Timpl_Attr (x := e72) (c0 := [vS e72.Name_]) (c1 := [.slice a84 e72.Cuts_.length c85]) (c2 := [.slice a86 e72.Values_.length c87]) rfl (rds_bor g82 w1 hw1) (rds_bor g83 w1 hw1)) (rdm_Timpl_Attr (x := e88) (c0 := [vS e88.Name_]) (c1 := [.slice a100 e88.Cuts_.length c101]) (c2 := [.slice a102 e88.Values_.length c103]) rfl (rds_bor g98 w1 hw1) (rds_bor g99 w1 hw1)))) (fun _ _ => trivial) ?_
        refine ow_batch [.p] rfl ?_
        refine ow_nilQ ?_
        refine x_qs ?_
        refine c_if rfl (fun hb => ?_) (fun hb => ?_)
        · have H := of_if_t hb H
          refine c_seq ?_
          refine c_reg ?_
          refine ow_batch [.p] rfl ?_
          refine ow_nil ?_
          refine x_qs ?_
          refine c_ret ?_
          refine x_qb_ret ?_
          refine x_qs_ret ?_
          refine x_ql_ret ?_
          refine x_qb_ret ?_
          refine x_qs_ret ?_
          exact x_retR (rs := [.tmp 4]) (vs := [.bool false]) rfl ⟨rfl, trivial⟩ (fun w' hw' => by
              obtain rfl := of_some H
              exact ⟨rfl, hw'.ext⟩)
        · have H := of_if_f hb H
          refine c_skip ?_
          refine x_qb ?_
          refine x_qs ?_
          refine c_reg ?_
          refine ow_batch [.p, .p, .p] rfl ?_
          refine ow_nil ?_
          exact x_ql (RW.at (ihk1 (IntKind.i64.wrap (i36 + 1)) (H)) (fun _ h => St.sel [] rfl rfl h) ⟨rfl, rfl, rfl, trivial⟩)
      · have H := of_if_f hb H
        refine c_exit ?_
        refine x_qs_exit ?_
        refine x_ql_exit ?_
        refine x_qb_here ?_
        refine x_qs ?_
        refine c_seq ?_
        refine c_reg ?_
        refine ow_batch [.p] rfl ?_
        refine ow_nil ?_
        refine x_qs ?_
        refine c_ret ?_
        exact x_retR (rs := [.tmp 4]) (vs := [.bool true]) rfl ⟨rfl, trivial⟩ (fun w' hw' => by
            obtain rfl := of_some H
            exact ⟨rfl, hw'.ext⟩)

set_option maxHeartbeats 4000000 in
set_option maxRecDepth 100000 in
theorem laws_eqSchema_ok (w : World) {p0 : Timpl_Schema} {p1 : Timpl_Schema} {cs0 : List Value} {cs1 : List Value} {r : Bool} (H : laws_eqSchema p0 p1 = some r)  (g0 : (eTimpl_Schema).rd w [] p0 cs0) (g1 : (eTimpl_Schema).rd w [] p1 cs1) :
    Calls Try.prog 41 #[.agg cs0.toArray, .agg cs1.toArray] w (fun en w' => en = .returned (.bool r) ∧ Ext [] w w') := by
  obtain ⟨c1, c2, rfl, g3, g4⟩ := rdo_Timpl_Schema g0
  obtain ⟨a5, c6, rfl⟩ := rd_sl1 g3
  obtain ⟨a7, c8, rfl⟩ := rd_sl1 g4
  obtain ⟨c9, c10, rfl, g11, g12⟩ := rdo_Timpl_Schema g1
  obtain ⟨a13, c14, rfl⟩ := rd_sl1 g11
  obtain ⟨a15, c16, rfl⟩ := rd_sl1 g12
  unfold laws_eqSchema at H
  refine f_enter (vs := [.agg #[.slice a5 p0.Attrs_.length c6, .slice a7 p0.Classes_.length c8], .agg #[.slice a13 p1.Attrs_.length c14, .slice a15 p1.Classes_.length c16]]) Try.func41 rfl Try.ntmps41 rfl (St.init w []) ?_
  refine c_seq ?_
  refine c_reg ?_
  refine ow_box (cs := [.slice a5 p0.Attrs_.length c6, .slice a7 p0.Classes_.length c8]) rfl rfl rfl rfl rfl rfl (fun _ => kp) (fun b17 => ?_)
  refine ow_box (cs := [.slice a13 p1.Attrs_.length c14, .slice a15 p1.Classes_.length c16]) rfl rfl rfl rfl rfl rfl (fun _ => kp) (fun b18 => ?_)
  refine ow_batch [.p] rfl ?_
  refine ow_nil ?_
  refine x_qs ?_
  refine c_seq ?_
  refine c_seq ?_
  refine c_reg ?_
  refine ow_batch [.fa 43 0 0 fa43_0] rfl ?_
  refine ow_r rfl (dstOk_lt rfl) (ry_box1 (off := 0) rfl rfl ty41 (boxIn (i := 0) rfl) rfl) ?_
  refine ow_batch [.fa 43 0 0 fa43_0] rfl ?_
  refine ow_r rfl (dstOk_lt rfl) (ry_box1 (off := 0) rfl rfl ty41 (boxIn (i := 1) rfl) rfl) ?_
  obtain ⟨y19, h20, H⟩ := of_bind H
  refine ow_q rfl rfl (dstOk_lt rfl) (qy_call rfl fn66 rfl (fun w1 hw1 => laws_eqAttrS_ok w1  h20 (rds_bor g3 w1 hw1) (rds_bor g11 w1 hw1))) (fun _ _ => trivial) ?_
  refine ow_batch [.p] rfl ?_
  refine ow_nil ?_
  refine x_qs ?_
  refine c_if rfl (fun hb => ?_) (fun hb => ?_)
  · have H := of_if_t hb H
    refine c_seq ?_
    refine c_reg ?_
    refine ow_batch [.p] rfl ?_
    refine ow_nil ?_
    refine x_qs ?_
    refine c_ret ?_
    refine x_qs_ret ?_
    exact x_retR (rs := [.tmp 4]) (vs := [.bool false]) rfl ⟨rfl, trivial⟩ (fun w' hw' => by
        obtain rfl := of_some H
        exact ⟨rfl, hw'.ext⟩)
  · have H := of_if_f hb H
    refine c_skip ?_
    refine x_qs ?_
    refine c_seq ?_
    refine c_seq ?_
    refine c_reg ?_
    refine ow_batch [.fa 43 1 1 fa43_1] rfl ?_
    refine ow_r rfl (dstOk_lt rfl) (ry_box1 (off := 1) rfl rfl ty23 (boxIn (i := 0) rfl) rfl) ?_
    refine ow_batch [.fa 43 1 1 fa43_1] rfl ?_
    refine ow_r rfl (dstOk_lt rfl) (ry_box1 (off := 1) rfl rfl ty23 (boxIn (i := 1) rfl) rfl) ?_
    obtain ⟨y21, h22, H⟩ := of_bind H
    refine ow_q rfl rfl (dstOk_lt rfl) (qy_call rfl fn67 rfl (fun w1 hw1 => laws_eqStringS_ok w1  h22 (rds_bor g4 w1 hw1) (rds_bor g12 w1 hw1))) (fun _ _ => trivial) ?_
    refine ow_batch [.p] rfl ?_
    refine ow_nil ?_
    refine x_qs ?_
    refine c_if rfl (fun hb => ?_) (fun hb => ?_)
    · have H := of_if_t hb H
      refine c_seq ?_
      refine c_reg ?_
      refine ow_batch [.p] rfl ?_
      refine ow_nil ?_
      refine x_qs ?_
      refine c_ret ?_
      refine x_qs_ret ?_
      exact x_retR (rs := [.tmp 4]) (vs := [.bool false]) rfl ⟨rfl, trivial⟩ (fun w' hw' => by
          obtain rfl := of_some H
          exact ⟨rfl, hw'.ext⟩)
    · have H := of_if_f hb H
      refine c_skip ?_
      refine x_qs ?_
      refine c_seq ?_
      refine c_reg ?_
      refine ow_batch [.p] rfl ?_
      refine ow_nil ?_
      refine x_qs ?_
      refine c_ret ?_
      exact x_retR (rs := [.tmp 4]) (vs := [.bool true]) rfl ⟨rfl, trivial⟩ (fun w' hw' => by
          obtain rfl := of_some H
          exact ⟨rfl, hw'.ext⟩)

set_option maxHeartbeats 4000000 in
set_option maxRecDepth 100000 in
theorem laws_eqRule_ok (w : World) {p0 : Timpl_Rule} {p1 : Timpl_Rule}  {r : Bool} (H : laws_eqRule p0 p1 = some r)   :
    Calls Try.prog 42 #[.agg #[.int .i64 p0.Sure_, .int .i64 p0.Tie_, .int .i64 p0.Grace_, .int .i64 p0.Depth_, .int .i64 p0.Nodes_, .int .i64 p0.Units_, .bool p0.Two_], .agg #[.int .i64 p1.Sure_, .int .i64 p1.Tie_, .int .i64 p1.Grace_, .int .i64 p1.Depth_, .int .i64 p1.Nodes_, .int .i64 p1.Units_, .bool p1.Two_]] w (fun en w' => en = .returned (.bool r) ∧ Ext [] w w') := by
  unfold laws_eqRule at H
  refine f_enter (vs := [.agg #[.int .i64 p0.Sure_, .int .i64 p0.Tie_, .int .i64 p0.Grace_, .int .i64 p0.Depth_, .int .i64 p0.Nodes_, .int .i64 p0.Units_, .bool p0.Two_], .agg #[.int .i64 p1.Sure_, .int .i64 p1.Tie_, .int .i64 p1.Grace_, .int .i64 p1.Depth_, .int .i64 p1.Nodes_, .int .i64 p1.Units_, .bool p1.Two_]]) Try.func42 rfl Try.ntmps42 rfl (St.init w []) ?_
  refine c_seq ?_
  refine c_reg ?_
  refine ow_box (cs := [.int .i64 p0.Sure_, .int .i64 p0.Tie_, .int .i64 p0.Grace_, .int .i64 p0.Depth_, .int .i64 p0.Nodes_, .int .i64 p0.Units_, .bool p0.Two_]) rfl rfl rfl rfl rfl rfl (fun _ => kp) (fun b1 => ?_)
  refine ow_box (cs := [.int .i64 p1.Sure_, .int .i64 p1.Tie_, .int .i64 p1.Grace_, .int .i64 p1.Depth_, .int .i64 p1.Nodes_, .int .i64 p1.Units_, .bool p1.Two_]) rfl rfl rfl rfl rfl rfl (fun _ => kp) (fun b2 => ?_)
  refine ow_batch [.p] rfl ?_
  refine ow_nil ?_
  refine x_qs ?_
  refine c_seq ?_
  refine c_seq ?_
  refine c_reg ?_
  refine ow_batch [.fa 44 0 0 fa44_0] rfl ?_
  refine ow_r rfl (dstOk_lt rfl) (ry_box1 (off := 0) rfl rfl ty3 (boxIn (i := 0) rfl) rfl) ?_
  refine ow_batch [.fa 44 0 0 fa44_0] rfl ?_
  refine ow_r rfl (dstOk_lt rfl) (ry_box1 (off := 0) rfl rfl ty3 (boxIn (i := 1) rfl) rfl) ?_
  refine ow_batch [.p] rfl ?_
  refine ow_nil ?_
  refine x_qs ?_
  refine c_if rfl (fun hb => ?_) (fun hb => ?_)
  · have H := of_if_t hb H
    refine c_seq ?_
    refine c_reg ?_
    refine ow_batch [.p] rfl ?_
    refine ow_nil ?_
    refine x_qs ?_
    refine c_ret ?_
    refine x_qs_ret ?_
    exact x_retR (rs := [.tmp 4]) (vs := [.bool false]) rfl ⟨rfl, trivial⟩ (fun w' hw' => by
        obtain rfl := of_some H
        exact ⟨rfl, hw'.ext⟩)
  · have H := of_if_f hb H
    refine c_skip ?_
    refine x_qs ?_
    refine c_seq ?_
    refine c_seq ?_
    refine c_reg ?_
    refine ow_batch [.fa 44 1 1 fa44_1] rfl ?_
    refine ow_r rfl (dstOk_lt rfl) (ry_box1 (off := 1) rfl rfl ty3 (boxIn (i := 0) rfl) rfl) ?_
    refine ow_batch [.fa 44 1 1 fa44_1] rfl ?_
    refine ow_r rfl (dstOk_lt rfl) (ry_box1 (off := 1) rfl rfl ty3 (boxIn (i := 1) rfl) rfl) ?_
    refine ow_batch [.p] rfl ?_
    refine ow_nil ?_
    refine x_qs ?_
    refine c_if rfl (fun hb => ?_) (fun hb => ?_)
    · have H := of_if_t hb H
      refine c_seq ?_
      refine c_reg ?_
      refine ow_batch [.p] rfl ?_
      refine ow_nil ?_
      refine x_qs ?_
      refine c_ret ?_
      refine x_qs_ret ?_
      exact x_retR (rs := [.tmp 4]) (vs := [.bool false]) rfl ⟨rfl, trivial⟩ (fun w' hw' => by
          obtain rfl := of_some H
          exact ⟨rfl, hw'.ext⟩)
    · have H := of_if_f hb H
      refine c_skip ?_
      refine x_qs ?_
      refine c_seq ?_
      refine c_seq ?_
      refine c_reg ?_
      refine ow_batch [.fa 44 2 2 fa44_2] rfl ?_
      refine ow_r rfl (dstOk_lt rfl) (ry_box1 (off := 2) rfl rfl ty3 (boxIn (i := 0) rfl) rfl) ?_
      refine ow_batch [.fa 44 2 2 fa44_2] rfl ?_
      refine ow_r rfl (dstOk_lt rfl) (ry_box1 (off := 2) rfl rfl ty3 (boxIn (i := 1) rfl) rfl) ?_
      refine ow_batch [.p] rfl ?_
      refine ow_nil ?_
      refine x_qs ?_
      refine c_if rfl (fun hb => ?_) (fun hb => ?_)
      · have H := of_if_t hb H
        refine c_seq ?_
        refine c_reg ?_
        refine ow_batch [.p] rfl ?_
        refine ow_nil ?_
        refine x_qs ?_
        refine c_ret ?_
        refine x_qs_ret ?_
        exact x_retR (rs := [.tmp 4]) (vs := [.bool false]) rfl ⟨rfl, trivial⟩ (fun w' hw' => by
            obtain rfl := of_some H
            exact ⟨rfl, hw'.ext⟩)
      · have H := of_if_f hb H
        refine c_skip ?_
        refine x_qs ?_
        refine c_seq ?_
        refine c_seq ?_
        refine c_reg ?_
        refine ow_batch [.fa 44 3 3 fa44_3] rfl ?_
        refine ow_r rfl (dstOk_lt rfl) (ry_box1 (off := 3) rfl rfl ty3 (boxIn (i := 0) rfl) rfl) ?_
        refine ow_batch [.fa 44 3 3 fa44_3] rfl ?_
        refine ow_r rfl (dstOk_lt rfl) (ry_box1 (off := 3) rfl rfl ty3 (boxIn (i := 1) rfl) rfl) ?_
        refine ow_batch [.p] rfl ?_
        refine ow_nil ?_
        refine x_qs ?_
        refine c_if rfl (fun hb => ?_) (fun hb => ?_)
        · have H := of_if_t hb H
          refine c_seq ?_
          refine c_reg ?_
          refine ow_batch [.p] rfl ?_
          refine ow_nil ?_
          refine x_qs ?_
          refine c_ret ?_
          refine x_qs_ret ?_
          exact x_retR (rs := [.tmp 4]) (vs := [.bool false]) rfl ⟨rfl, trivial⟩ (fun w' hw' => by
              obtain rfl := of_some H
              exact ⟨rfl, hw'.ext⟩)
        · have H := of_if_f hb H
          refine c_skip ?_
          refine x_qs ?_
          refine c_seq ?_
          refine c_seq ?_
          refine c_reg ?_
          refine ow_batch [.fa 44 4 4 fa44_4] rfl ?_
          refine ow_r rfl (dstOk_lt rfl) (ry_box1 (off := 4) rfl rfl ty3 (boxIn (i := 0) rfl) rfl) ?_
          refine ow_batch [.fa 44 4 4 fa44_4] rfl ?_
          refine ow_r rfl (dstOk_lt rfl) (ry_box1 (off := 4) rfl rfl ty3 (boxIn (i := 1) rfl) rfl) ?_
          refine ow_batch [.p] rfl ?_
          refine ow_nil ?_
          refine x_qs ?_
          refine c_if rfl (fun hb => ?_) (fun hb => ?_)
          · have H := of_if_t hb H
            refine c_seq ?_
            refine c_reg ?_
            refine ow_batch [.p] rfl ?_
            refine ow_nil ?_
            refine x_qs ?_
            refine c_ret ?_
            refine x_qs_ret ?_
            exact x_retR (rs := [.tmp 4]) (vs := [.bool false]) rfl ⟨rfl, trivial⟩ (fun w' hw' => by
                obtain rfl := of_some H
                exact ⟨rfl, hw'.ext⟩)
          · have H := of_if_f hb H
            refine c_skip ?_
            refine x_qs ?_
            refine c_seq ?_
            refine c_seq ?_
            refine c_reg ?_
            refine ow_batch [.fa 44 5 5 fa44_5] rfl ?_
            refine ow_r rfl (dstOk_lt rfl) (ry_box1 (off := 5) rfl rfl ty3 (boxIn (i := 0) rfl) rfl) ?_
            refine ow_batch [.fa 44 5 5 fa44_5] rfl ?_
            refine ow_r rfl (dstOk_lt rfl) (ry_box1 (off := 5) rfl rfl ty3 (boxIn (i := 1) rfl) rfl) ?_
            refine ow_batch [.p] rfl ?_
            refine ow_nil ?_
            refine x_qs ?_
            refine c_if rfl (fun hb => ?_) (fun hb => ?_)
            · have H := of_if_t hb H
              refine c_seq ?_
              refine c_reg ?_
              refine ow_batch [.p] rfl ?_
              refine ow_nil ?_
              refine x_qs ?_
              refine c_ret ?_
              refine x_qs_ret ?_
              exact x_retR (rs := [.tmp 4]) (vs := [.bool false]) rfl ⟨rfl, trivial⟩ (fun w' hw' => by
                  obtain rfl := of_some H
                  exact ⟨rfl, hw'.ext⟩)
            · have H := of_if_f hb H
              refine c_skip ?_
              refine x_qs ?_
              refine c_seq ?_
              refine c_seq ?_
              refine c_reg ?_
              refine ow_batch [.fa 44 6 6 fa44_6] rfl ?_
              refine ow_r rfl (dstOk_lt rfl) (ry_box1 (off := 6) rfl rfl ty4 (boxIn (i := 0) rfl) rfl) ?_
              refine ow_batch [.fa 44 6 6 fa44_6] rfl ?_
              refine ow_r rfl (dstOk_lt rfl) (ry_box1 (off := 6) rfl rfl ty4 (boxIn (i := 1) rfl) rfl) ?_
              refine ow_r rfl (dstOk_lt rfl) (ry_bneq rfl rfl rfl bl4) ?_
              refine ow_nil ?_
              refine x_qs ?_
              refine c_if rfl (fun hb => ?_) (fun hb => ?_)
              · have H := of_if_t hb H
                refine c_seq ?_
                refine c_reg ?_
                refine ow_batch [.p] rfl ?_
                refine ow_nil ?_
                refine x_qs ?_
                refine c_ret ?_
                refine x_qs_ret ?_
                exact x_retR (rs := [.tmp 4]) (vs := [.bool false]) rfl ⟨rfl, trivial⟩ (fun w' hw' => by
                    obtain rfl := of_some H
                    exact ⟨rfl, hw'.ext⟩)
              · have H := of_if_f hb H
                refine c_skip ?_
                refine x_qs ?_
                refine c_seq ?_
                refine c_reg ?_
                refine ow_batch [.p] rfl ?_
                refine ow_nil ?_
                refine x_qs ?_
                refine c_ret ?_
                exact x_retR (rs := [.tmp 4]) (vs := [.bool true]) rfl ⟨rfl, trivial⟩ (fun w' hw' => by
                    obtain rfl := of_some H
                    exact ⟨rfl, hw'.ext⟩)

set_option maxHeartbeats 4000000 in
set_option maxRecDepth 100000 in
theorem laws_eqConf_ok (w : World) {p0 : Timpl_Conf} {p1 : Timpl_Conf} {cs0 : List Value} {cs1 : List Value} {r : Bool} (H : laws_eqConf p0 p1 = some r)  (g0 : (eTimpl_Conf).rd w [] p0 cs0) (g1 : (eTimpl_Conf).rd w [] p1 cs1) :
    Calls Try.prog 21 #[.agg cs0.toArray, .agg cs1.toArray] w (fun en w' => en = .returned (.bool r) ∧ Ext [] w w') := by
  obtain ⟨c1, c2, c3, c4, c5, c6, c7, rfl, g8, g9, g10, g11, g12, g13, g14⟩ := rdo_Timpl_Conf g0
  obtain ⟨c15, c16, rfl, g17, g18⟩ := rdo_Timpl_Schema g8
  obtain ⟨a19, c20, rfl⟩ := rd_sl1 g17
  obtain ⟨a21, c22, rfl⟩ := rd_sl1 g18
  obtain rfl : c2 = [.int .i64 p0.Rule_.Sure_, .int .i64 p0.Rule_.Tie_, .int .i64 p0.Rule_.Grace_, .int .i64 p0.Rule_.Depth_, .int .i64 p0.Rule_.Nodes_, .int .i64 p0.Rule_.Units_, .bool p0.Rule_.Two_] := g9
  obtain rfl : c3 = [.int .i64 p0.Members_] := g10
  obtain rfl : c4 = [.int .i64 p0.Pick_] := g11
  obtain rfl : c5 = [.int .i64 p0.Lambda_] := g12
  obtain rfl : c6 = [.int .i64 p0.Warn_] := g13
  obtain rfl : c7 = [.int .i64 p0.Drift_] := g14
  obtain ⟨c23, c24, c25, c26, c27, c28, c29, rfl, g30, g31, g32, g33, g34, g35, g36⟩ := rdo_Timpl_Conf g1
  obtain ⟨c37, c38, rfl, g39, g40⟩ := rdo_Timpl_Schema g30
  obtain ⟨a41, c42, rfl⟩ := rd_sl1 g39
  obtain ⟨a43, c44, rfl⟩ := rd_sl1 g40
  obtain rfl : c24 = [.int .i64 p1.Rule_.Sure_, .int .i64 p1.Rule_.Tie_, .int .i64 p1.Rule_.Grace_, .int .i64 p1.Rule_.Depth_, .int .i64 p1.Rule_.Nodes_, .int .i64 p1.Rule_.Units_, .bool p1.Rule_.Two_] := g31
  obtain rfl : c25 = [.int .i64 p1.Members_] := g32
  obtain rfl : c26 = [.int .i64 p1.Pick_] := g33
  obtain rfl : c27 = [.int .i64 p1.Lambda_] := g34
  obtain rfl : c28 = [.int .i64 p1.Warn_] := g35
  obtain rfl : c29 = [.int .i64 p1.Drift_] := g36
  unfold laws_eqConf at H
  refine f_enter (vs := [.agg #[.slice a19 p0.Schema_.Attrs_.length c20, .slice a21 p0.Schema_.Classes_.length c22, .int .i64 p0.Rule_.Sure_, .int .i64 p0.Rule_.Tie_, .int .i64 p0.Rule_.Grace_, .int .i64 p0.Rule_.Depth_, .int .i64 p0.Rule_.Nodes_, .int .i64 p0.Rule_.Units_, .bool p0.Rule_.Two_, .int .i64 p0.Members_, .int .i64 p0.Pick_, .int .i64 p0.Lambda_, .int .i64 p0.Warn_, .int .i64 p0.Drift_], .agg #[.slice a41 p1.Schema_.Attrs_.length c42, .slice a43 p1.Schema_.Classes_.length c44, .int .i64 p1.Rule_.Sure_, .int .i64 p1.Rule_.Tie_, .int .i64 p1.Rule_.Grace_, .int .i64 p1.Rule_.Depth_, .int .i64 p1.Rule_.Nodes_, .int .i64 p1.Rule_.Units_, .bool p1.Rule_.Two_, .int .i64 p1.Members_, .int .i64 p1.Pick_, .int .i64 p1.Lambda_, .int .i64 p1.Warn_, .int .i64 p1.Drift_]]) Try.func21 rfl Try.ntmps21 rfl (St.init w []) ?_
  refine c_seq ?_
  refine c_reg ?_
  refine ow_box (cs := [.slice a19 p0.Schema_.Attrs_.length c20, .slice a21 p0.Schema_.Classes_.length c22, .int .i64 p0.Rule_.Sure_, .int .i64 p0.Rule_.Tie_, .int .i64 p0.Rule_.Grace_, .int .i64 p0.Rule_.Depth_, .int .i64 p0.Rule_.Nodes_, .int .i64 p0.Rule_.Units_, .bool p0.Rule_.Two_, .int .i64 p0.Members_, .int .i64 p0.Pick_, .int .i64 p0.Lambda_, .int .i64 p0.Warn_, .int .i64 p0.Drift_]) rfl rfl rfl rfl rfl rfl (fun _ => kp) (fun b45 => ?_)
  refine ow_box (cs := [.slice a41 p1.Schema_.Attrs_.length c42, .slice a43 p1.Schema_.Classes_.length c44, .int .i64 p1.Rule_.Sure_, .int .i64 p1.Rule_.Tie_, .int .i64 p1.Rule_.Grace_, .int .i64 p1.Rule_.Depth_, .int .i64 p1.Rule_.Nodes_, .int .i64 p1.Rule_.Units_, .bool p1.Rule_.Two_, .int .i64 p1.Members_, .int .i64 p1.Pick_, .int .i64 p1.Lambda_, .int .i64 p1.Warn_, .int .i64 p1.Drift_]) rfl rfl rfl rfl rfl rfl (fun _ => kp) (fun b46 => ?_)
  refine ow_batch [.p] rfl ?_
  refine ow_nil ?_
  refine x_qs ?_
  refine c_seq ?_
  refine c_seq ?_
  refine c_reg ?_
  refine ow_batch [.fa 46 0 0 fa46_0] rfl ?_
  refine ow_r rfl (dstOk_lt rfl) (ry_box (off := 0) (ds := [.slice a19 p0.Schema_.Attrs_.length c20, .slice a21 p0.Schema_.Classes_.length c22]) rfl rfl ty43 (boxIn (i := 0) rfl) rfl rfl) ?_
  refine ow_batch [.fa 46 0 0 fa46_0] rfl ?_
  refine ow_r rfl (dstOk_lt rfl) (ry_box (off := 0) (ds := [.slice a41 p1.Schema_.Attrs_.length c42, .slice a43 p1.Schema_.Classes_.length c44]) rfl rfl ty43 (boxIn (i := 1) rfl) rfl rfl) ?_
  obtain ⟨y47, h48, H⟩ := of_bind H
  refine ow_q rfl rfl (dstOk_lt rfl) (qy_call rfl fn41 rfl (fun w1 hw1 => laws_eqSchema_ok w1 (cs0 := [.slice a19 p0.Schema_.Attrs_.length c20, .slice a21 p0.Schema_.Classes_.length c22]) (cs1 := [.slice a41 p1.Schema_.Attrs_.length c42, .slice a43 p1.Schema_.Classes_.length c44]) h48 (rdm_Timpl_Schema (x := p0.Schema_) (c0 := [.slice a19 p0.Schema_.Attrs_.length c20]) (c1 := [.slice a21 p0.Schema_.Classes_.length c22]) (rds_bor g17 w1 hw1) (rds_bor g18 w1 hw1)) (rdm_Timpl_Schema (x := p1.Schema_) (c0 := [.slice a41 p1.Schema_.Attrs_.length c42]) (c1 := [.slice a43 p1.Schema_.Classes_.length c44]) (rds_bor g39 w1 hw1) (rds_bor g40 w1 hw1)))) (fun _ _ => trivial) ?_
  refine ow_batch [.p] rfl ?_
  refine ow_nil ?_
  refine x_qs ?_
  refine c_if rfl (fun hb => ?_) (fun hb => ?_)
  · have H := of_if_t hb H
    refine c_seq ?_
    refine c_reg ?_
    refine ow_batch [.p] rfl ?_
    refine ow_nil ?_
    refine x_qs ?_
    refine c_ret ?_
    refine x_qs_ret ?_
    exact x_retR (rs := [.tmp 4]) (vs := [.bool false]) rfl ⟨rfl, trivial⟩ (fun w' hw' => by
        obtain rfl := of_some H
        exact ⟨rfl, hw'.ext⟩)
  · have H := of_if_f hb H
    refine c_skip ?_
    refine x_qs ?_
    refine c_seq ?_
    refine c_seq ?_
    refine c_reg ?_
    refine ow_batch [.fa 46 1 2 fa46_1] rfl ?_
    refine ow_r rfl (dstOk_lt rfl) (ry_box (off := 2) (ds := [.int .i64 p0.Rule_.Sure_, .int .i64 p0.Rule_.Tie_, .int .i64 p0.Rule_.Grace_, .int .i64 p0.Rule_.Depth_, .int .i64 p0.Rule_.Nodes_, .int .i64 p0.Rule_.Units_, .bool p0.Rule_.Two_]) rfl rfl ty44 (boxIn (i := 0) rfl) rfl rfl) ?_
    refine ow_batch [.fa 46 1 2 fa46_1] rfl ?_
    refine ow_r rfl (dstOk_lt rfl) (ry_box (off := 2) (ds := [.int .i64 p1.Rule_.Sure_, .int .i64 p1.Rule_.Tie_, .int .i64 p1.Rule_.Grace_, .int .i64 p1.Rule_.Depth_, .int .i64 p1.Rule_.Nodes_, .int .i64 p1.Rule_.Units_, .bool p1.Rule_.Two_]) rfl rfl ty44 (boxIn (i := 1) rfl) rfl rfl) ?_
    obtain ⟨y49, h50, H⟩ := of_bind H
    refine ow_q rfl rfl (dstOk_lt rfl) (qy_call rfl fn42 rfl (fun w1 hw1 => laws_eqRule_ok w1 (p0 := p0.Rule_) (p1 := p1.Rule_) h50)) (fun _ _ => trivial) ?_
    refine ow_batch [.p] rfl ?_
    refine ow_nil ?_
    refine x_qs ?_
    refine c_if rfl (fun hb => ?_) (fun hb => ?_)
    · have H := of_if_t hb H
      refine c_seq ?_
      refine c_reg ?_
      refine ow_batch [.p] rfl ?_
      refine ow_nil ?_
      refine x_qs ?_
      refine c_ret ?_
      refine x_qs_ret ?_
      exact x_retR (rs := [.tmp 4]) (vs := [.bool false]) rfl ⟨rfl, trivial⟩ (fun w' hw' => by
          obtain rfl := of_some H
          exact ⟨rfl, hw'.ext⟩)
    · have H := of_if_f hb H
      refine c_skip ?_
      refine x_qs ?_
      refine c_seq ?_
      refine c_seq ?_
      refine c_reg ?_
      refine ow_batch [.fa 46 2 9 fa46_2] rfl ?_
      refine ow_r rfl (dstOk_lt rfl) (ry_box1 (off := 9) rfl rfl ty3 (boxIn (i := 0) rfl) rfl) ?_
      refine ow_batch [.fa 46 2 9 fa46_2] rfl ?_
      refine ow_r rfl (dstOk_lt rfl) (ry_box1 (off := 9) rfl rfl ty3 (boxIn (i := 1) rfl) rfl) ?_
      refine ow_batch [.p] rfl ?_
      refine ow_nil ?_
      refine x_qs ?_
      refine c_if rfl (fun hb => ?_) (fun hb => ?_)
      · have H := of_if_t hb H
        refine c_seq ?_
        refine c_reg ?_
        refine ow_batch [.p] rfl ?_
        refine ow_nil ?_
        refine x_qs ?_
        refine c_ret ?_
        refine x_qs_ret ?_
        exact x_retR (rs := [.tmp 4]) (vs := [.bool false]) rfl ⟨rfl, trivial⟩ (fun w' hw' => by
            obtain rfl := of_some H
            exact ⟨rfl, hw'.ext⟩)
      · have H := of_if_f hb H
        refine c_skip ?_
        refine x_qs ?_
        refine c_seq ?_
        refine c_seq ?_
        refine c_reg ?_
        refine ow_batch [.fa 46 3 10 fa46_3] rfl ?_
        refine ow_r rfl (dstOk_lt rfl) (ry_box1 (off := 10) rfl rfl ty3 (boxIn (i := 0) rfl) rfl) ?_
        refine ow_batch [.fa 46 3 10 fa46_3] rfl ?_
        refine ow_r rfl (dstOk_lt rfl) (ry_box1 (off := 10) rfl rfl ty3 (boxIn (i := 1) rfl) rfl) ?_
        refine ow_batch [.p] rfl ?_
        refine ow_nil ?_
        refine x_qs ?_
        refine c_if rfl (fun hb => ?_) (fun hb => ?_)
        · have H := of_if_t hb H
          refine c_seq ?_
          refine c_reg ?_
          refine ow_batch [.p] rfl ?_
          refine ow_nil ?_
          refine x_qs ?_
          refine c_ret ?_
          refine x_qs_ret ?_
          exact x_retR (rs := [.tmp 4]) (vs := [.bool false]) rfl ⟨rfl, trivial⟩ (fun w' hw' => by
              obtain rfl := of_some H
              exact ⟨rfl, hw'.ext⟩)
        · have H := of_if_f hb H
          refine c_skip ?_
          refine x_qs ?_
          refine c_seq ?_
          refine c_seq ?_
          refine c_reg ?_
          refine ow_batch [.fa 46 4 11 fa46_4] rfl ?_
          refine ow_r rfl (dstOk_lt rfl) (ry_box1 (off := 11) rfl rfl ty3 (boxIn (i := 0) rfl) rfl) ?_
          refine ow_batch [.fa 46 4 11 fa46_4] rfl ?_
          refine ow_r rfl (dstOk_lt rfl) (ry_box1 (off := 11) rfl rfl ty3 (boxIn (i := 1) rfl) rfl) ?_
          refine ow_batch [.p] rfl ?_
          refine ow_nil ?_
          refine x_qs ?_
          refine c_if rfl (fun hb => ?_) (fun hb => ?_)
          · have H := of_if_t hb H
            refine c_seq ?_
            refine c_reg ?_
            refine ow_batch [.p] rfl ?_
            refine ow_nil ?_
            refine x_qs ?_
            refine c_ret ?_
            refine x_qs_ret ?_
            exact x_retR (rs := [.tmp 4]) (vs := [.bool false]) rfl ⟨rfl, trivial⟩ (fun w' hw' => by
                obtain rfl := of_some H
                exact ⟨rfl, hw'.ext⟩)
          · have H := of_if_f hb H
            refine c_skip ?_
            refine x_qs ?_
            refine c_seq ?_
            refine c_seq ?_
            refine c_reg ?_
            refine ow_batch [.fa 46 5 12 fa46_5] rfl ?_
            refine ow_r rfl (dstOk_lt rfl) (ry_box1 (off := 12) rfl rfl ty3 (boxIn (i := 0) rfl) rfl) ?_
            refine ow_batch [.fa 46 5 12 fa46_5] rfl ?_
            refine ow_r rfl (dstOk_lt rfl) (ry_box1 (off := 12) rfl rfl ty3 (boxIn (i := 1) rfl) rfl) ?_
            refine ow_batch [.p] rfl ?_
            refine ow_nil ?_
            refine x_qs ?_
            refine c_if rfl (fun hb => ?_) (fun hb => ?_)
            · have H := of_if_t hb H
              refine c_seq ?_
              refine c_reg ?_
              refine ow_batch [.p] rfl ?_
              refine ow_nil ?_
              refine x_qs ?_
              refine c_ret ?_
              refine x_qs_ret ?_
              exact x_retR (rs := [.tmp 4]) (vs := [.bool false]) rfl ⟨rfl, trivial⟩ (fun w' hw' => by
                  obtain rfl := of_some H
                  exact ⟨rfl, hw'.ext⟩)
            · have H := of_if_f hb H
              refine c_skip ?_
              refine x_qs ?_
              refine c_seq ?_
              refine c_seq ?_
              refine c_reg ?_
              refine ow_batch [.fa 46 6 13 fa46_6] rfl ?_
              refine ow_r rfl (dstOk_lt rfl) (ry_box1 (off := 13) rfl rfl ty3 (boxIn (i := 0) rfl) rfl) ?_
              refine ow_batch [.fa 46 6 13 fa46_6] rfl ?_
              refine ow_r rfl (dstOk_lt rfl) (ry_box1 (off := 13) rfl rfl ty3 (boxIn (i := 1) rfl) rfl) ?_
              refine ow_batch [.p] rfl ?_
              refine ow_nil ?_
              refine x_qs ?_
              refine c_if rfl (fun hb => ?_) (fun hb => ?_)
              · have H := of_if_t hb H
                refine c_seq ?_
                refine c_reg ?_
                refine ow_batch [.p] rfl ?_
                refine ow_nil ?_
                refine x_qs ?_
                refine c_ret ?_
                refine x_qs_ret ?_
                exact x_retR (rs := [.tmp 4]) (vs := [.bool false]) rfl ⟨rfl, trivial⟩ (fun w' hw' => by
                    obtain rfl := of_some H
                    exact ⟨rfl, hw'.ext⟩)
              · have H := of_if_f hb H
                refine c_skip ?_
                refine x_qs ?_
                refine c_seq ?_
                refine c_reg ?_
                refine ow_batch [.p] rfl ?_
                refine ow_nil ?_
                refine x_qs ?_
                refine c_ret ?_
                exact x_retR (rs := [.tmp 4]) (vs := [.bool true]) rfl ⟨rfl, trivial⟩ (fun w' hw' => by
                    obtain rfl := of_some H
                    exact ⟨rfl, hw'.ext⟩)

set_option maxHeartbeats 4000000 in
set_option maxRecDepth 100000 in
theorem laws_eqFork_ok (w : World) {p0 : Timpl_Fork} {p1 : Timpl_Fork}  {r : Bool} (H : laws_eqFork p0 p1 = some r)   :
    Calls Try.prog 99 #[.agg #[.int .i64 p0.Attr_, .int .i64 p0.At_], .agg #[.int .i64 p1.Attr_, .int .i64 p1.At_]] w (fun en w' => en = .returned (.bool r) ∧ Ext [] w w') := by
  unfold laws_eqFork at H
  refine f_enter (vs := [.agg #[.int .i64 p0.Attr_, .int .i64 p0.At_], .agg #[.int .i64 p1.Attr_, .int .i64 p1.At_]]) Try.func99 rfl Try.ntmps99 rfl (St.init w []) ?_
  refine c_seq ?_
  refine c_reg ?_
  refine ow_box (cs := [.int .i64 p0.Attr_, .int .i64 p0.At_]) rfl rfl rfl rfl rfl rfl (fun _ => kp) (fun b1 => ?_)
  refine ow_box (cs := [.int .i64 p1.Attr_, .int .i64 p1.At_]) rfl rfl rfl rfl rfl rfl (fun _ => kp) (fun b2 => ?_)
  refine ow_batch [.p] rfl ?_
  refine ow_nil ?_
  refine x_qs ?_
  refine c_seq ?_
  refine c_seq ?_
  refine c_reg ?_
  refine ow_batch [.fa 129 0 0 fa129_0] rfl ?_
  refine ow_r rfl (dstOk_lt rfl) (ry_box1 (off := 0) rfl rfl ty3 (boxIn (i := 0) rfl) rfl) ?_
  refine ow_batch [.fa 129 0 0 fa129_0] rfl ?_
  refine ow_r rfl (dstOk_lt rfl) (ry_box1 (off := 0) rfl rfl ty3 (boxIn (i := 1) rfl) rfl) ?_
  refine ow_batch [.p] rfl ?_
  refine ow_nil ?_
  refine x_qs ?_
  refine c_if rfl (fun hb => ?_) (fun hb => ?_)
  · have H := of_if_t hb H
    refine c_seq ?_
    refine c_reg ?_
    refine ow_batch [.p] rfl ?_
    refine ow_nil ?_
    refine x_qs ?_
    refine c_ret ?_
    refine x_qs_ret ?_
    exact x_retR (rs := [.tmp 4]) (vs := [.bool false]) rfl ⟨rfl, trivial⟩ (fun w' hw' => by
        obtain rfl := of_some H
        exact ⟨rfl, hw'.ext⟩)
  · have H := of_if_f hb H
    refine c_skip ?_
    refine x_qs ?_
    refine c_seq ?_
    refine c_seq ?_
    refine c_reg ?_
    refine ow_batch [.fa 129 1 1 fa129_1] rfl ?_
    refine ow_r rfl (dstOk_lt rfl) (ry_box1 (off := 1) rfl rfl ty3 (boxIn (i := 0) rfl) rfl) ?_
    refine ow_batch [.fa 129 1 1 fa129_1] rfl ?_
    refine ow_r rfl (dstOk_lt rfl) (ry_box1 (off := 1) rfl rfl ty3 (boxIn (i := 1) rfl) rfl) ?_
    refine ow_batch [.p] rfl ?_
    refine ow_nil ?_
    refine x_qs ?_
    refine c_if rfl (fun hb => ?_) (fun hb => ?_)
    · have H := of_if_t hb H
      refine c_seq ?_
      refine c_reg ?_
      refine ow_batch [.p] rfl ?_
      refine ow_nil ?_
      refine x_qs ?_
      refine c_ret ?_
      refine x_qs_ret ?_
      exact x_retR (rs := [.tmp 4]) (vs := [.bool false]) rfl ⟨rfl, trivial⟩ (fun w' hw' => by
          obtain rfl := of_some H
          exact ⟨rfl, hw'.ext⟩)
    · have H := of_if_f hb H
      refine c_skip ?_
      refine x_qs ?_
      refine c_seq ?_
      refine c_reg ?_
      refine ow_batch [.p] rfl ?_
      refine ow_nil ?_
      refine x_qs ?_
      refine c_ret ?_
      exact x_retR (rs := [.tmp 4]) (vs := [.bool true]) rfl ⟨rfl, trivial⟩ (fun w' hw' => by
          obtain rfl := of_some H
          exact ⟨rfl, hw'.ext⟩)

set_option maxHeartbeats 4000000 in
set_option maxRecDepth 100000 in
theorem laws_eqIntSS_ok (w : World) {p0 : List (List Int)} {p1 : List (List Int)} {a_0 : Option Addr} {n_0 c_0 : Nat} {a_1 : Option Addr} {n_1 c_1 : Nat} {r : Bool} (H : laws_eqIntSS p0 p1 = some r)  (g0 : (eList (eList (eVal (Value.int .i64) (fun _ => rfl)) 3) 82).rd w [] p0 [.slice a_0 n_0 c_0]) (g1 : (eList (eList (eVal (Value.int .i64) (fun _ => rfl)) 3) 82).rd w [] p1 [.slice a_1 n_1 c_1]) :
    Calls Try.prog 44 #[.slice a_0 n_0 c_0, .slice a_1 n_1 c_1] w (fun en w' => en = .returned (.bool r) ∧ Ext [] w w') := by
  obtain rfl := rd_n g0
  obtain rfl := rd_n g1
  unfold laws_eqIntSS at H
  refine f_enter (vs := [.slice a_0 p0.length c_0, .slice a_1 p1.length c_1]) Try.func44 rfl Try.ntmps44 rfl (St.init w []) ?_
  refine c_seq ?_
  refine c_reg ?_
  refine ow_batch [.p] rfl ?_
  refine ow_nil ?_
  refine x_qs ?_
  refine c_seq ?_
  refine c_seq ?_
  refine c_reg ?_
  refine ow_batch [.p, .lenS 33 82 sl33, .p, .lenS 33 82 sl33, .p] rfl ?_
  refine ow_nil ?_
  refine x_qs ?_
  refine c_if rfl (fun hb => ?_) (fun hb => ?_)
  · have H := of_if_t hb H
    refine c_seq ?_
    refine c_reg ?_
    refine ow_batch [.p] rfl ?_
    refine ow_nil ?_
    refine x_qs ?_
    refine c_ret ?_
    refine x_qs_ret ?_
    exact x_retR (rs := [.tmp 4]) (vs := [.bool false]) rfl ⟨rfl, trivial⟩ (fun w' hw' => by
        obtain rfl := of_some H
        exact ⟨rfl, hw'.ext⟩)
  · have H := of_if_f hb H
    refine c_skip ?_
    refine x_qs ?_
    refine c_seq ?_
    refine c_seq ?_
    refine c_reg ?_
    refine ow_batch [.p] rfl ?_
    refine ow_nil ?_
    refine x_qs ?_
    refine c_block ?_
    refine CW.at (loopI1 (fun (i20 : Int) => St w [] []) (fun (i20 : Int) => [(0, .slice a_0 p0.length c_0), (1, .slice a_1 p1.length c_1), (5, .int .i64 i20)]) (fun kk => fun (i20 : Int) => laws_eqIntSS_L1 p0 p1 kk i20 = some r) (fun _ H => ?_) (fun k1 ihk1 i20 H => ?_) Fuel (0) (H)) (fun _ h => St.sel [] rfl rfl h) ⟨rfl, rfl, rfl,  trivial⟩
    · unfold laws_eqIntSS_L1 at H
      exact absurd H (by simp)
    · unfold laws_eqIntSS_L1 at H
      refine c_seq ?_
      refine c_seq ?_
      refine c_reg ?_
      refine ow_batch [.p, .p, .lenS 33 82 sl33, .p] rfl ?_
      refine ow_nil ?_
      refine x_qs ?_
      refine c_if rfl (fun hb => ?_) (fun hb => ?_)
      · have H := of_if_t hb H
        refine c_skip ?_
        refine x_qs ?_
        refine c_seq ?_
        refine c_block ?_
        refine c_seq ?_
        refine c_regQ mixed (by kernel_rfl) ?_
        refine ow_batch [.p, .p] rfl ?_
        obtain ⟨e40, h41, H⟩ := of_bind H
        refine ow_ixB rfl rfl rfl rfl rfl sl33 ty82 rfl g0 h41 (fun q44 c45 hd42 hA43 => ?_)
        obtain ⟨a46, c47, rfl⟩ := rd_sl1 hd42
        refine ow_r rfl (dstOk_lt rfl) (ry_load1 rfl rfl ty82 (at_bor bor hA43)) ?_
        refine ow_batch [.p, .p] rfl ?_
        obtain ⟨e48, h49, H⟩ := of_bind H
        refine ow_ixB rfl rfl rfl rfl rfl sl33 ty82 rfl g1 h49 (fun q52 c53 hd50 hA51 => ?_)
        obtain ⟨a54, c55, rfl⟩ := rd_sl1 hd50
        refine ow_r rfl (dstOk_lt rfl) (ry_load1 rfl rfl ty82 (at_bor bor hA51)) ?_
        obtain ⟨y56, h57, H⟩ := of_bind H
        refine ow_q rfl rfl (dstOk_lt rfl) (qy_call rfl fn69 rfl (fun w1 hw1 => laws_eqIntS_ok w1  h57 (rds_bor hd42 w1 hw1) (rds_bor hd50 w1 hw1))) (fun _ _ => trivial) ?_
        refine ow_batch [.p] rfl ?_
        refine ow_nilQ ?_
        refine x_qs ?_
        refine c_if rfl (fun hb => ?_) (fun hb => ?_)
        · have H := of_if_t hb H
          refine c_seq ?_
          refine c_reg ?_
          refine ow_batch [.p] rfl ?_
          refine ow_nil ?_
          refine x_qs ?_
          refine c_ret ?_
          refine x_qb_ret ?_
          refine x_qs_ret ?_
          refine x_ql_ret ?_
          refine x_qb_ret ?_
          refine x_qs_ret ?_
          exact x_retR (rs := [.tmp 4]) (vs := [.bool false]) rfl ⟨rfl, trivial⟩ (fun w' hw' => by
              obtain rfl := of_some H
              exact ⟨rfl, hw'.ext⟩)
        · have H := of_if_f hb H
          refine c_skip ?_
          refine x_qb ?_
          refine x_qs ?_
          refine c_reg ?_
          refine ow_batch [.p, .p, .p] rfl ?_
          refine ow_nil ?_
          exact x_ql (RW.at (ihk1 (IntKind.i64.wrap (i20 + 1)) (H)) (fun _ h => St.sel [] rfl rfl h) ⟨rfl, rfl, rfl, trivial⟩)
      · have H := of_if_f hb H
        refine c_exit ?_
        refine x_qs_exit ?_
        refine x_ql_exit ?_
        refine x_qb_here ?_
        refine x_qs ?_
        refine c_seq ?_
        refine c_reg ?_
        refine ow_batch [.p] rfl ?_
        refine ow_nil ?_
        refine x_qs ?_
        refine c_ret ?_
        exact x_retR (rs := [.tmp 4]) (vs := [.bool true]) rfl ⟨rfl, trivial⟩ (fun w' hw' => by
            obtain rfl := of_some H
            exact ⟨rfl, hw'.ext⟩)

set_option maxHeartbeats 4000000 in
set_option maxRecDepth 100000 in
theorem laws_eqStats_ok (w : World) {p0 : Timpl_Stats} {p1 : Timpl_Stats} {cs0 : List Value} {cs1 : List Value} {r : Bool} (H : laws_eqStats p0 p1 = some r)  (g0 : (eTimpl_Stats).rd w [] p0 cs0) (g1 : (eTimpl_Stats).rd w [] p1 cs1) :
    Calls Try.prog 100 #[.agg cs0.toArray, .agg cs1.toArray] w (fun en w' => en = .returned (.bool r) ∧ Ext [] w w') := by
  obtain ⟨c1, c2, rfl, g3, g4⟩ := rdo_Timpl_Stats g0
  obtain ⟨a5, c6, rfl⟩ := rd_sl1 g3
  obtain ⟨a7, c8, rfl⟩ := rd_sl1 g4
  obtain ⟨c9, c10, rfl, g11, g12⟩ := rdo_Timpl_Stats g1
  obtain ⟨a13, c14, rfl⟩ := rd_sl1 g11
  obtain ⟨a15, c16, rfl⟩ := rd_sl1 g12
  unfold laws_eqStats at H
  refine f_enter (vs := [.agg #[.slice a5 p0.Totals_.length c6, .slice a7 p0.Cells_.length c8], .agg #[.slice a13 p1.Totals_.length c14, .slice a15 p1.Cells_.length c16]]) Try.func100 rfl Try.ntmps100 rfl (St.init w []) ?_
  refine c_seq ?_
  refine c_reg ?_
  refine ow_box (cs := [.slice a5 p0.Totals_.length c6, .slice a7 p0.Cells_.length c8]) rfl rfl rfl rfl rfl rfl (fun _ => kp) (fun b17 => ?_)
  refine ow_box (cs := [.slice a13 p1.Totals_.length c14, .slice a15 p1.Cells_.length c16]) rfl rfl rfl rfl rfl rfl (fun _ => kp) (fun b18 => ?_)
  refine ow_batch [.p] rfl ?_
  refine ow_nil ?_
  refine x_qs ?_
  refine c_seq ?_
  refine c_seq ?_
  refine c_reg ?_
  refine ow_batch [.fa 131 0 0 fa131_0] rfl ?_
  refine ow_r rfl (dstOk_lt rfl) (ry_box1 (off := 0) rfl rfl ty82 (boxIn (i := 0) rfl) rfl) ?_
  refine ow_batch [.fa 131 0 0 fa131_0] rfl ?_
  refine ow_r rfl (dstOk_lt rfl) (ry_box1 (off := 0) rfl rfl ty82 (boxIn (i := 1) rfl) rfl) ?_
  obtain ⟨y19, h20, H⟩ := of_bind H
  refine ow_q rfl rfl (dstOk_lt rfl) (qy_call rfl fn69 rfl (fun w1 hw1 => laws_eqIntS_ok w1  h20 (rds_bor g3 w1 hw1) (rds_bor g11 w1 hw1))) (fun _ _ => trivial) ?_
  refine ow_batch [.p] rfl ?_
  refine ow_nil ?_
  refine x_qs ?_
  refine c_if rfl (fun hb => ?_) (fun hb => ?_)
  · have H := of_if_t hb H
    refine c_seq ?_
    refine c_reg ?_
    refine ow_batch [.p] rfl ?_
    refine ow_nil ?_
    refine x_qs ?_
    refine c_ret ?_
    refine x_qs_ret ?_
    exact x_retR (rs := [.tmp 4]) (vs := [.bool false]) rfl ⟨rfl, trivial⟩ (fun w' hw' => by
        obtain rfl := of_some H
        exact ⟨rfl, hw'.ext⟩)
  · have H := of_if_f hb H
    refine c_skip ?_
    refine x_qs ?_
    refine c_seq ?_
    refine c_seq ?_
    refine c_reg ?_
    refine ow_batch [.fa 131 1 1 fa131_1] rfl ?_
    refine ow_r rfl (dstOk_lt rfl) (ry_box1 (off := 1) rfl rfl ty33 (boxIn (i := 0) rfl) rfl) ?_
    refine ow_batch [.fa 131 1 1 fa131_1] rfl ?_
    refine ow_r rfl (dstOk_lt rfl) (ry_box1 (off := 1) rfl rfl ty33 (boxIn (i := 1) rfl) rfl) ?_
    obtain ⟨y21, h22, H⟩ := of_bind H
    refine ow_q rfl rfl (dstOk_lt rfl) (qy_call rfl fn44 rfl (fun w1 hw1 => laws_eqIntSS_ok w1  h22 (rds_bor g4 w1 hw1) (rds_bor g12 w1 hw1))) (fun _ _ => trivial) ?_
    refine ow_batch [.p] rfl ?_
    refine ow_nil ?_
    refine x_qs ?_
    refine c_if rfl (fun hb => ?_) (fun hb => ?_)
    · have H := of_if_t hb H
      refine c_seq ?_
      refine c_reg ?_
      refine ow_batch [.p] rfl ?_
      refine ow_nil ?_
      refine x_qs ?_
      refine c_ret ?_
      refine x_qs_ret ?_
      exact x_retR (rs := [.tmp 4]) (vs := [.bool false]) rfl ⟨rfl, trivial⟩ (fun w' hw' => by
          obtain rfl := of_some H
          exact ⟨rfl, hw'.ext⟩)
    · have H := of_if_f hb H
      refine c_skip ?_
      refine x_qs ?_
      refine c_seq ?_
      refine c_reg ?_
      refine ow_batch [.p] rfl ?_
      refine ow_nil ?_
      refine x_qs ?_
      refine c_ret ?_
      exact x_retR (rs := [.tmp 4]) (vs := [.bool true]) rfl ⟨rfl, trivial⟩ (fun w' hw' => by
          obtain rfl := of_some H
          exact ⟨rfl, hw'.ext⟩)

set_option maxHeartbeats 4000000 in
set_option maxRecDepth 100000 in
theorem laws_eqNode_ok (w : World) {p0 : Timpl_Node} {p1 : Timpl_Node} {cs0 : List Value} {cs1 : List Value} {r : Bool} (H : laws_eqNode p0 p1 = some r)  (g0 : (eTimpl_Node).rd w [] p0 cs0) (g1 : (eTimpl_Node).rd w [] p1 cs1) :
    Calls Try.prog 95 #[.agg cs0.toArray, .agg cs1.toArray] w (fun en w' => en = .returned (.bool r) ∧ Ext [] w w') := by
  obtain ⟨c1, c2, c3, c4, c5, c6, c7, c8, c9, c10, rfl, g11, g12, g13, g14, g15, g16, g17, g18, g19, g20⟩ := rdo_Timpl_Node g0
  obtain rfl : c1 = [.bool p0.Leaf_] := g11
  obtain rfl : c2 = [.int .i64 p0.Fork_.Attr_, .int .i64 p0.Fork_.At_] := g12
  obtain ⟨a21, c22, rfl⟩ := rd_sl1 g13
  obtain rfl : c4 = [.int .i64 p0.Miss_] := g14
  obtain ⟨c23, c24, rfl, g25, g26⟩ := rdo_Timpl_Stats g15
  obtain ⟨a27, c28, rfl⟩ := rd_sl1 g25
  obtain ⟨a29, c30, rfl⟩ := rd_sl1 g26
  obtain rfl : c6 = [.int .i64 p0.Since_] := g16
  obtain ⟨a31, c32, rfl⟩ := rd_sl1 g17
  obtain rfl : c8 = [.int .i64 p0.Depth_] := g18
  obtain rfl : c9 = [.int .i64 p0.Up_] := g19
  obtain rfl : c10 = [.int .i64 p0.Born_] := g20
  obtain ⟨c33, c34, c35, c36, c37, c38, c39, c40, c41, c42, rfl, g43, g44, g45, g46, g47, g48, g49, g50, g51, g52⟩ := rdo_Timpl_Node g1
  obtain rfl : c33 = [.bool p1.Leaf_] := g43
  obtain rfl : c34 = [.int .i64 p1.Fork_.Attr_, .int .i64 p1.Fork_.At_] := g44
  obtain ⟨a53, c54, rfl⟩ := rd_sl1 g45
  obtain rfl : c36 = [.int .i64 p1.Miss_] := g46
  obtain ⟨c55, c56, rfl, g57, g58⟩ := rdo_Timpl_Stats g47
  obtain ⟨a59, c60, rfl⟩ := rd_sl1 g57
  obtain ⟨a61, c62, rfl⟩ := rd_sl1 g58
  obtain rfl : c38 = [.int .i64 p1.Since_] := g48
  obtain ⟨a63, c64, rfl⟩ := rd_sl1 g49
  obtain rfl : c40 = [.int .i64 p1.Depth_] := g50
  obtain rfl : c41 = [.int .i64 p1.Up_] := g51
  obtain rfl : c42 = [.int .i64 p1.Born_] := g52
  unfold laws_eqNode at H
  refine f_enter (vs := [.agg #[.bool p0.Leaf_, .int .i64 p0.Fork_.Attr_, .int .i64 p0.Fork_.At_, .slice a21 p0.Kids_.length c22, .int .i64 p0.Miss_, .slice a27 p0.Stats_.Totals_.length c28, .slice a29 p0.Stats_.Cells_.length c30, .int .i64 p0.Since_, .slice a31 p0.Attrs_.length c32, .int .i64 p0.Depth_, .int .i64 p0.Up_, .int .i64 p0.Born_], .agg #[.bool p1.Leaf_, .int .i64 p1.Fork_.Attr_, .int .i64 p1.Fork_.At_, .slice a53 p1.Kids_.length c54, .int .i64 p1.Miss_, .slice a59 p1.Stats_.Totals_.length c60, .slice a61 p1.Stats_.Cells_.length c62, .int .i64 p1.Since_, .slice a63 p1.Attrs_.length c64, .int .i64 p1.Depth_, .int .i64 p1.Up_, .int .i64 p1.Born_]]) Try.func95 rfl Try.ntmps95 rfl (St.init w []) ?_
  refine c_seq ?_
  refine c_reg ?_
  refine ow_box (cs := [.bool p0.Leaf_, .int .i64 p0.Fork_.Attr_, .int .i64 p0.Fork_.At_, .slice a21 p0.Kids_.length c22, .int .i64 p0.Miss_, .slice a27 p0.Stats_.Totals_.length c28, .slice a29 p0.Stats_.Cells_.length c30, .int .i64 p0.Since_, .slice a31 p0.Attrs_.length c32, .int .i64 p0.Depth_, .int .i64 p0.Up_, .int .i64 p0.Born_]) rfl rfl rfl rfl rfl rfl (fun _ => kp) (fun b65 => ?_)
  refine ow_box (cs := [.bool p1.Leaf_, .int .i64 p1.Fork_.Attr_, .int .i64 p1.Fork_.At_, .slice a53 p1.Kids_.length c54, .int .i64 p1.Miss_, .slice a59 p1.Stats_.Totals_.length c60, .slice a61 p1.Stats_.Cells_.length c62, .int .i64 p1.Since_, .slice a63 p1.Attrs_.length c64, .int .i64 p1.Depth_, .int .i64 p1.Up_, .int .i64 p1.Born_]) rfl rfl rfl rfl rfl rfl (fun _ => kp) (fun b66 => ?_)
  refine ow_batch [.p] rfl ?_
  refine ow_nil ?_
  refine x_qs ?_
  refine c_seq ?_
  refine c_seq ?_
  refine c_reg ?_
  refine ow_batch [.fa 133 0 0 fa133_0] rfl ?_
  refine ow_r rfl (dstOk_lt rfl) (ry_box1 (off := 0) rfl rfl ty4 (boxIn (i := 0) rfl) rfl) ?_
  refine ow_batch [.fa 133 0 0 fa133_0] rfl ?_
  refine ow_r rfl (dstOk_lt rfl) (ry_box1 (off := 0) rfl rfl ty4 (boxIn (i := 1) rfl) rfl) ?_
  refine ow_r rfl (dstOk_lt rfl) (ry_bneq rfl rfl rfl bl4) ?_
  refine ow_nil ?_
  refine x_qs ?_
  refine c_if rfl (fun hb => ?_) (fun hb => ?_)
  · have H := of_if_t hb H
    refine c_seq ?_
    refine c_reg ?_
    refine ow_batch [.p] rfl ?_
    refine ow_nil ?_
    refine x_qs ?_
    refine c_ret ?_
    refine x_qs_ret ?_
    exact x_retR (rs := [.tmp 4]) (vs := [.bool false]) rfl ⟨rfl, trivial⟩ (fun w' hw' => by
        obtain rfl := of_some H
        exact ⟨rfl, hw'.ext⟩)
  · have H := of_if_f hb H
    refine c_skip ?_
    refine x_qs ?_
    refine c_seq ?_
    refine c_seq ?_
    refine c_reg ?_
    refine ow_batch [.fa 133 1 1 fa133_1] rfl ?_
    refine ow_r rfl (dstOk_lt rfl) (ry_box (off := 1) (ds := [.int .i64 p0.Fork_.Attr_, .int .i64 p0.Fork_.At_]) rfl rfl ty129 (boxIn (i := 0) rfl) rfl rfl) ?_
    refine ow_batch [.fa 133 1 1 fa133_1] rfl ?_
    refine ow_r rfl (dstOk_lt rfl) (ry_box (off := 1) (ds := [.int .i64 p1.Fork_.Attr_, .int .i64 p1.Fork_.At_]) rfl rfl ty129 (boxIn (i := 1) rfl) rfl rfl) ?_
    obtain ⟨y67, h68, H⟩ := of_bind H
    refine ow_q rfl rfl (dstOk_lt rfl) (qy_call rfl fn99 rfl (fun w1 hw1 => laws_eqFork_ok w1 (p0 := p0.Fork_) (p1 := p1.Fork_) h68)) (fun _ _ => trivial) ?_
    refine ow_batch [.p] rfl ?_
    refine ow_nil ?_
    refine x_qs ?_
    refine c_if rfl (fun hb => ?_) (fun hb => ?_)
    · have H := of_if_t hb H
      refine c_seq ?_
      refine c_reg ?_
      refine ow_batch [.p] rfl ?_
      refine ow_nil ?_
      refine x_qs ?_
      refine c_ret ?_
      refine x_qs_ret ?_
      exact x_retR (rs := [.tmp 4]) (vs := [.bool false]) rfl ⟨rfl, trivial⟩ (fun w' hw' => by
          obtain rfl := of_some H
          exact ⟨rfl, hw'.ext⟩)
    · have H := of_if_f hb H
      refine c_skip ?_
      refine x_qs ?_
      refine c_seq ?_
      refine c_seq ?_
      refine c_reg ?_
      refine ow_batch [.fa 133 2 3 fa133_2] rfl ?_
      refine ow_r rfl (dstOk_lt rfl) (ry_box1 (off := 3) rfl rfl ty82 (boxIn (i := 0) rfl) rfl) ?_
      refine ow_batch [.fa 133 2 3 fa133_2] rfl ?_
      refine ow_r rfl (dstOk_lt rfl) (ry_box1 (off := 3) rfl rfl ty82 (boxIn (i := 1) rfl) rfl) ?_
      obtain ⟨y69, h70, H⟩ := of_bind H
      refine ow_q rfl rfl (dstOk_lt rfl) (qy_call rfl fn69 rfl (fun w1 hw1 => laws_eqIntS_ok w1  h70 (rds_bor g13 w1 hw1) (rds_bor g45 w1 hw1))) (fun _ _ => trivial) ?_
      refine ow_batch [.p] rfl ?_
      refine ow_nil ?_
      refine x_qs ?_
      refine c_if rfl (fun hb => ?_) (fun hb => ?_)
      · have H := of_if_t hb H
        refine c_seq ?_
        refine c_reg ?_
        refine ow_batch [.p] rfl ?_
        refine ow_nil ?_
        refine x_qs ?_
        refine c_ret ?_
        refine x_qs_ret ?_
        exact x_retR (rs := [.tmp 4]) (vs := [.bool false]) rfl ⟨rfl, trivial⟩ (fun w' hw' => by
            obtain rfl := of_some H
            exact ⟨rfl, hw'.ext⟩)
      · have H := of_if_f hb H
        refine c_skip ?_
        refine x_qs ?_
        refine c_seq ?_
        refine c_seq ?_
        refine c_reg ?_
        refine ow_batch [.fa 133 3 4 fa133_3] rfl ?_
        refine ow_r rfl (dstOk_lt rfl) (ry_box1 (off := 4) rfl rfl ty3 (boxIn (i := 0) rfl) rfl) ?_
        refine ow_batch [.fa 133 3 4 fa133_3] rfl ?_
        refine ow_r rfl (dstOk_lt rfl) (ry_box1 (off := 4) rfl rfl ty3 (boxIn (i := 1) rfl) rfl) ?_
        refine ow_batch [.p] rfl ?_
        refine ow_nil ?_
        refine x_qs ?_
        refine c_if rfl (fun hb => ?_) (fun hb => ?_)
        · have H := of_if_t hb H
          refine c_seq ?_
          refine c_reg ?_
          refine ow_batch [.p] rfl ?_
          refine ow_nil ?_
          refine x_qs ?_
          refine c_ret ?_
          refine x_qs_ret ?_
          exact x_retR (rs := [.tmp 4]) (vs := [.bool false]) rfl ⟨rfl, trivial⟩ (fun w' hw' => by
              obtain rfl := of_some H
              exact ⟨rfl, hw'.ext⟩)
        · have H := of_if_f hb H
          refine c_skip ?_
          refine x_qs ?_
          refine c_seq ?_
          refine c_seq ?_
          refine c_reg ?_
          refine ow_batch [.fa 133 4 5 fa133_4] rfl ?_
          refine ow_r rfl (dstOk_lt rfl) (ry_box (off := 5) (ds := [.slice a27 p0.Stats_.Totals_.length c28, .slice a29 p0.Stats_.Cells_.length c30]) rfl rfl ty131 (boxIn (i := 0) rfl) rfl rfl) ?_
          refine ow_batch [.fa 133 4 5 fa133_4] rfl ?_
          refine ow_r rfl (dstOk_lt rfl) (ry_box (off := 5) (ds := [.slice a59 p1.Stats_.Totals_.length c60, .slice a61 p1.Stats_.Cells_.length c62]) rfl rfl ty131 (boxIn (i := 1) rfl) rfl rfl) ?_
          obtain ⟨y71, h72, H⟩ := of_bind H
          refine ow_q rfl rfl (dstOk_lt rfl) (qy_call rfl fn100 rfl (fun w1 hw1 => laws_eqStats_ok w1 (cs0 := [.slice a27 p0.Stats_.Totals_.length c28, .slice a29 p0.Stats_.Cells_.length c30]) (cs1 := [.slice a59 p1.Stats_.Totals_.length c60, .slice a61 p1.Stats_.Cells_.length c62]) h72 (rdm_Timpl_Stats (x := p0.Stats_) (c0 := [.slice a27 p0.Stats_.Totals_.length c28]) (c1 := [.slice a29 p0.Stats_.Cells_.length c30]) (rds_bor g25 w1 hw1) (rds_bor g26 w1 hw1)) (rdm_Timpl_Stats (x := p1.Stats_) (c0 := [.slice a59 p1.Stats_.Totals_.length c60]) (c1 := [.slice a61 p1.Stats_.Cells_.length c62]) (rds_bor g57 w1 hw1) (rds_bor g58 w1 hw1)))) (fun _ _ => trivial) ?_
          refine ow_batch [.p] rfl ?_
          refine ow_nil ?_
          refine x_qs ?_
          refine c_if rfl (fun hb => ?_) (fun hb => ?_)
          · have H := of_if_t hb H
            refine c_seq ?_
            refine c_reg ?_
            refine ow_batch [.p] rfl ?_
            refine ow_nil ?_
            refine x_qs ?_
            refine c_ret ?_
            refine x_qs_ret ?_
            exact x_retR (rs := [.tmp 4]) (vs := [.bool false]) rfl ⟨rfl, trivial⟩ (fun w' hw' => by
                obtain rfl := of_some H
                exact ⟨rfl, hw'.ext⟩)
          · have H := of_if_f hb H
            refine c_skip ?_
            refine x_qs ?_
            refine c_seq ?_
            refine c_seq ?_
            refine c_reg ?_
            refine ow_batch [.fa 133 5 7 fa133_5] rfl ?_
            refine ow_r rfl (dstOk_lt rfl) (ry_box1 (off := 7) rfl rfl ty3 (boxIn (i := 0) rfl) rfl) ?_
            refine ow_batch [.fa 133 5 7 fa133_5] rfl ?_
            refine ow_r rfl (dstOk_lt rfl) (ry_box1 (off := 7) rfl rfl ty3 (boxIn (i := 1) rfl) rfl) ?_
            refine ow_batch [.p] rfl ?_
            refine ow_nil ?_
            refine x_qs ?_
            refine c_if rfl (fun hb => ?_) (fun hb => ?_)
            · have H := of_if_t hb H
              refine c_seq ?_
              refine c_reg ?_
              refine ow_batch [.p] rfl ?_
              refine ow_nil ?_
              refine x_qs ?_
              refine c_ret ?_
              refine x_qs_ret ?_
              exact x_retR (rs := [.tmp 4]) (vs := [.bool false]) rfl ⟨rfl, trivial⟩ (fun w' hw' => by
                  obtain rfl := of_some H
                  exact ⟨rfl, hw'.ext⟩)
            · have H := of_if_f hb H
              refine c_skip ?_
              refine x_qs ?_
              refine c_seq ?_
              refine c_seq ?_
              refine c_reg ?_
              refine ow_batch [.fa 133 6 8 fa133_6] rfl ?_
              refine ow_r rfl (dstOk_lt rfl) (ry_box1 (off := 8) rfl rfl ty82 (boxIn (i := 0) rfl) rfl) ?_
              refine ow_batch [.fa 133 6 8 fa133_6] rfl ?_
              refine ow_r rfl (dstOk_lt rfl) (ry_box1 (off := 8) rfl rfl ty82 (boxIn (i := 1) rfl) rfl) ?_
              obtain ⟨y73, h74, H⟩ := of_bind H
              refine ow_q rfl rfl (dstOk_lt rfl) (qy_call rfl fn69 rfl (fun w1 hw1 => laws_eqIntS_ok w1  h74 (rds_bor g17 w1 hw1) (rds_bor g49 w1 hw1))) (fun _ _ => trivial) ?_
              refine ow_batch [.p] rfl ?_
              refine ow_nil ?_
              refine x_qs ?_
              refine c_if rfl (fun hb => ?_) (fun hb => ?_)
              · have H := of_if_t hb H
                refine c_seq ?_
                refine c_reg ?_
                refine ow_batch [.p] rfl ?_
                refine ow_nil ?_
                refine x_qs ?_
                refine c_ret ?_
                refine x_qs_ret ?_
                exact x_retR (rs := [.tmp 4]) (vs := [.bool false]) rfl ⟨rfl, trivial⟩ (fun w' hw' => by
                    obtain rfl := of_some H
                    exact ⟨rfl, hw'.ext⟩)
              · have H := of_if_f hb H
                refine c_skip ?_
                refine x_qs ?_
                refine c_seq ?_
                refine c_seq ?_
                refine c_reg ?_
                refine ow_batch [.fa 133 7 9 fa133_7] rfl ?_
                refine ow_r rfl (dstOk_lt rfl) (ry_box1 (off := 9) rfl rfl ty3 (boxIn (i := 0) rfl) rfl) ?_
                refine ow_batch [.fa 133 7 9 fa133_7] rfl ?_
                refine ow_r rfl (dstOk_lt rfl) (ry_box1 (off := 9) rfl rfl ty3 (boxIn (i := 1) rfl) rfl) ?_
                refine ow_batch [.p] rfl ?_
                refine ow_nil ?_
                refine x_qs ?_
                refine c_if rfl (fun hb => ?_) (fun hb => ?_)
                · have H := of_if_t hb H
                  refine c_seq ?_
                  refine c_reg ?_
                  refine ow_batch [.p] rfl ?_
                  refine ow_nil ?_
                  refine x_qs ?_
                  refine c_ret ?_
                  refine x_qs_ret ?_
                  exact x_retR (rs := [.tmp 4]) (vs := [.bool false]) rfl ⟨rfl, trivial⟩ (fun w' hw' => by
                      obtain rfl := of_some H
                      exact ⟨rfl, hw'.ext⟩)
                · have H := of_if_f hb H
                  refine c_skip ?_
                  refine x_qs ?_
                  refine c_seq ?_
                  refine c_seq ?_
                  refine c_reg ?_
                  refine ow_batch [.fa 133 8 10 fa133_8] rfl ?_
                  refine ow_r rfl (dstOk_lt rfl) (ry_box1 (off := 10) rfl rfl ty3 (boxIn (i := 0) rfl) rfl) ?_
                  refine ow_batch [.fa 133 8 10 fa133_8] rfl ?_
                  refine ow_r rfl (dstOk_lt rfl) (ry_box1 (off := 10) rfl rfl ty3 (boxIn (i := 1) rfl) rfl) ?_
                  refine ow_batch [.p] rfl ?_
                  refine ow_nil ?_
                  refine x_qs ?_
                  refine c_if rfl (fun hb => ?_) (fun hb => ?_)
                  · have H := of_if_t hb H
                    refine c_seq ?_
                    refine c_reg ?_
                    refine ow_batch [.p] rfl ?_
                    refine ow_nil ?_
                    refine x_qs ?_
                    refine c_ret ?_
                    refine x_qs_ret ?_
                    exact x_retR (rs := [.tmp 4]) (vs := [.bool false]) rfl ⟨rfl, trivial⟩ (fun w' hw' => by
                        obtain rfl := of_some H
                        exact ⟨rfl, hw'.ext⟩)
                  · have H := of_if_f hb H
                    refine c_skip ?_
                    refine x_qs ?_
                    refine c_seq ?_
                    refine c_seq ?_
                    refine c_reg ?_
                    refine ow_batch [.fa 133 9 11 fa133_9] rfl ?_
                    refine ow_r rfl (dstOk_lt rfl) (ry_box1 (off := 11) rfl rfl ty3 (boxIn (i := 0) rfl) rfl) ?_
                    refine ow_batch [.fa 133 9 11 fa133_9] rfl ?_
                    refine ow_r rfl (dstOk_lt rfl) (ry_box1 (off := 11) rfl rfl ty3 (boxIn (i := 1) rfl) rfl) ?_
                    refine ow_batch [.p] rfl ?_
                    refine ow_nil ?_
                    refine x_qs ?_
                    refine c_if rfl (fun hb => ?_) (fun hb => ?_)
                    · have H := of_if_t hb H
                      refine c_seq ?_
                      refine c_reg ?_
                      refine ow_batch [.p] rfl ?_
                      refine ow_nil ?_
                      refine x_qs ?_
                      refine c_ret ?_
                      refine x_qs_ret ?_
                      exact x_retR (rs := [.tmp 4]) (vs := [.bool false]) rfl ⟨rfl, trivial⟩ (fun w' hw' => by
                          obtain rfl := of_some H
                          exact ⟨rfl, hw'.ext⟩)
                    · have H := of_if_f hb H
                      refine c_skip ?_
                      refine x_qs ?_
                      refine c_seq ?_
                      refine c_reg ?_
                      refine ow_batch [.p] rfl ?_
                      refine ow_nil ?_
                      refine x_qs ?_
                      refine c_ret ?_
                      exact x_retR (rs := [.tmp 4]) (vs := [.bool true]) rfl ⟨rfl, trivial⟩ (fun w' hw' => by
                          obtain rfl := of_some H
                          exact ⟨rfl, hw'.ext⟩)

set_option maxHeartbeats 4000000 in
set_option maxRecDepth 100000 in
theorem laws_eqNodeS_ok (w : World) {p0 : List Timpl_Node} {p1 : List Timpl_Node} {a_0 : Option Addr} {n_0 c_0 : Nat} {a_1 : Option Addr} {n_1 c_1 : Nat} {r : Bool} (H : laws_eqNodeS p0 p1 = some r)  (g0 : (eList (eTimpl_Node) 133).rd w [] p0 [.slice a_0 n_0 c_0]) (g1 : (eList (eTimpl_Node) 133).rd w [] p1 [.slice a_1 n_1 c_1]) :
    Calls Try.prog 91 #[.slice a_0 n_0 c_0, .slice a_1 n_1 c_1] w (fun en w' => en = .returned (.bool r) ∧ Ext [] w w') := by
  obtain rfl := rd_n g0
  obtain rfl := rd_n g1
  unfold laws_eqNodeS at H
  refine f_enter (vs := [.slice a_0 p0.length c_0, .slice a_1 p1.length c_1]) Try.func91 rfl Try.ntmps91 rfl (St.init w []) ?_
  refine c_seq ?_
  refine c_reg ?_
  refine ow_batch [.p] rfl ?_
  refine ow_nil ?_
  refine x_qs ?_
  refine c_seq ?_
  refine c_seq ?_
  refine c_reg ?_
  refine ow_batch [.p, .lenS 72 133 sl72, .p, .lenS 72 133 sl72, .p] rfl ?_
  refine ow_nil ?_
  refine x_qs ?_
  refine c_if rfl (fun hb => ?_) (fun hb => ?_)
  · have H := of_if_t hb H
    refine c_seq ?_
    refine c_reg ?_
    refine ow_batch [.p] rfl ?_
    refine ow_nil ?_
    refine x_qs ?_
    refine c_ret ?_
    refine x_qs_ret ?_
    exact x_retR (rs := [.tmp 4]) (vs := [.bool false]) rfl ⟨rfl, trivial⟩ (fun w' hw' => by
        obtain rfl := of_some H
        exact ⟨rfl, hw'.ext⟩)
  · have H := of_if_f hb H
    refine c_skip ?_
    refine x_qs ?_
    refine c_seq ?_
    refine c_seq ?_
    refine c_reg ?_
    refine ow_batch [.p] rfl ?_
    refine ow_nil ?_
    refine x_qs ?_
    refine c_block ?_
    refine CW.at (loopI1 (fun (i80 : Int) => St w [] []) (fun (i80 : Int) => [(0, .slice a_0 p0.length c_0), (1, .slice a_1 p1.length c_1), (5, .int .i64 i80)]) (fun kk => fun (i80 : Int) => laws_eqNodeS_L1 p0 p1 kk i80 = some r) (fun _ H => ?_) (fun k1 ihk1 i80 H => ?_) Fuel (0) (H)) (fun _ h => St.sel [] rfl rfl h) ⟨rfl, rfl, rfl,  trivial⟩
    · unfold laws_eqNodeS_L1 at H
      exact absurd H (by simp)
    · unfold laws_eqNodeS_L1 at H
      refine c_seq ?_
      refine c_seq ?_
      refine c_reg ?_
      refine ow_batch [.p, .p, .lenS 72 133 sl72, .p] rfl ?_
      refine ow_nil ?_
      refine x_qs ?_
      refine c_if rfl (fun hb => ?_) (fun hb => ?_)
      · have H := of_if_t hb H
        refine c_skip ?_
        refine x_qs ?_
        refine c_seq ?_
        refine c_block ?_
        refine c_seq ?_
        refine c_regQ mixed (by kernel_rfl) ?_
        refine ow_batch [.p, .p] rfl ?_
        obtain ⟨e160, h161, H⟩ := of_bind H
        refine ow_ixB rfl rfl rfl rfl rfl sl72 ty133 rfl g0 h161 (fun q164 c165 hd162 hA163 => ?_)
        obtain ⟨c166, c167, c168, c169, c170, c171, c172, c173, c174, c175, rfl, g176, g177, g178, g179, g180, g181, g182, g183, g184, g185⟩ := rdo_Timpl_Node hd162
        obtain rfl : c166 = [.bool e160.Leaf_] := g176
        obtain rfl : c167 = [.int .i64 e160.Fork_.Attr_, .int .i64 e160.Fork_.At_] := g177
        obtain ⟨a186, c187, rfl⟩ := rd_sl1 g178
        obtain rfl : c169 = [.int .i64 e160.Miss_] := g179
        obtain ⟨c188, c189, rfl, g190, g191⟩ := rdo_Timpl_Stats g180
        obtain ⟨a192, c193, rfl⟩ := rd_sl1 g190
        obtain ⟨a194, c195, rfl⟩ := rd_sl1 g191
        obtain rfl : c171 = [.int .i64 e160.Since_] := g181
        obtain ⟨a196, c197, rfl⟩ := rd_sl1 g182
        obtain rfl : c173 = [.int .i64 e160.Depth_] := g183
        obtain rfl : c174 = [.int .i64 e160.Up_] := g184
        obtain rfl : c175 = [.int .i64 e160.Born_] := g185
        refine ow_r rfl (dstOk_lt rfl) (ry_load (cs := [.bool e160.Leaf_, .int .i64 e160.Fork_.Attr_, .int .i64 e160.Fork_.At_, .slice a186 e160.Kids_.length c187, .int .i64 e160.Miss_, .slice a192 e160.Stats_.Totals_.length c193, .slice a194 e160.Stats_.Cells_.length c195, .int .i64 e160.Since_, .slice a196 e160.Attrs_.length c197, .int .i64 e160.Depth_, .int .i64 e160.Up_, .int .i64 e160.Born_]) rfl rfl ty133 (at_bor bor hA163) rfl) ?_
        refine ow_batch [.p, .p] rfl ?_
        obtain ⟨e198, h199, H⟩ := of_bind H
        refine ow_ixB rfl rfl rfl rfl rfl sl72 ty133 rfl g1 h199 (fun q202 c203 hd200 hA201 => ?_)
        obtain ⟨c204, c205, c206, c207, c208, c209, c210, c211, c212, c213, rfl, g214, g215, g216, g217, g218, g219, g220, g221, g222, g223⟩ := rdo_Timpl_Node hd200
        obtain rfl : c204 = [.bool e198.Leaf_] := g214
        obtain rfl : c205 = [.int .i64 e198.Fork_.Attr_, .int .i64 e198.Fork_.At_] := g215
        obtain ⟨a224, c225, rfl⟩ := rd_sl1 g216
        obtain rfl : c207 = [.int .i64 e198.Miss_] := g217
        obtain ⟨c226, c227, rfl, g228, g229⟩ := rdo_Timpl_Stats g218
        obtain ⟨a230, c231, rfl⟩ := rd_sl1 g228
        obtain ⟨a232, c233, rfl⟩ := rd_sl1 g229
        obtain rfl : c209 = [.int .i64 e198.Since_] := g219
        obtain ⟨a234, c235, rfl⟩ := rd_sl1 g220
        obtain rfl : c211 = [.int .i64 e198.Depth_] := g221
        obtain rfl : c212 = [.int .i64 e198.Up_] := g222
        obtain rfl : c213 = [.int .i64 e198.Born_] := g223
        refine ow_r rfl (dstOk_lt rfl) (ry_load (cs := [.bool e198.Leaf_, .int .i64 e198.Fork_.Attr_, .int .i64 e198.Fork_.At_, .slice a224 e198.Kids_.length c225, .int .i64 e198.Miss_, .slice a230 e198.Stats_.Totals_.length c231, .slice a232 e198.Stats_.Cells_.length c233, .int .i64 e198.Since_, .slice a234 e198.Attrs_.length c235, .int .i64 e198.Depth_, .int .i64 e198.Up_, .int .i64 e198.Born_]) rfl rfl ty133 (at_bor bor hA201) rfl) ?_
        obtain ⟨y236, h237, H⟩ := of_bind H
        refine ow_q rfl rfl (dstOk_lt rfl) (qy_call rfl fn95 rfl (fun w1 hw1 => laws_eqNode_ok w1 (cs0 := [.bool e160.Leaf_, .int .i64 e160.Fork_.Attr_, .int .i64 e160.Fork_.At_, .slice a186 e160.Kids_.length c187, .int .i64 e160.Miss_, .slice a192 e160.Stats_.Totals_.length c193, .slice a194 e160.Stats_.Cells_.length c195, .int .i64 e160.Since_, .slice a196 e160.Attrs_.length c197, .int .i64 e160.Depth_, .int .i64 e160.Up_, .int .i64 e160.Born_]) (cs1 := [.bool e198.Leaf_, .int .i64 e198.Fork_.Attr_, .int .i64 e198.Fork_.At_, .slice a224 e198.Kids_.length c225, .int .i64 e198.Miss_, .slice a230 e198.Stats_.Totals_.length c231, .slice a232 e198.Stats_.Cells_.length c233, .int .i64 e198.Since_, .slice a234 e198.Attrs_.length c235, .int .i64 e198.Depth_, .int .i64 e198.Up_, .int .i64 e198.Born_]) h237 (rdm_Timpl_Node (x := e160) (c0 := [.bool e160.Leaf_]) (c1 := [.int .i64 e160.Fork_.Attr_, .int .i64 e160.Fork_.At_]) (c2 := [.slice a186 e160.Kids_.length c187]) (c3 := [.int .i64 e160.Miss_]) (c4 := [.slice a192 e160.Stats_.Totals_.length c193, .slice a194 e160.Stats_.Cells_.length c195]) (c5 := [.int .i64 e160.Since_]) (c6 := [.slice a196 e160.Attrs_.length c197]) (c7 := [.int .i64 e160.Depth_]) (c8 := [.int .i64 e160.Up_]) (c9 := [.int .i64 e160.Born_]) rfl rfl (rds_bor g178 w1 hw1) rfl (rdm_Timpl_Stats (x := e160.Stats_) (c0 := [.slice a192 e160.Stats_.Totals_.length c193]) (c1 := [.slice a194 e160.Stats_.Cells_.length c195]) (rds_bor g190 w1 hw1) (rds_bor g191 w1 hw1)) rfl (rds_bor g182 w1 hw1) rfl rfl rfl) (rdm_Timpl_Node (x := e198) (c0 := [.bool e198.Leaf_]) (c1 := [.int .i64 e198.Fork_.Attr_, .int .i64 e198.Fork_.At_]) (c2 := [.slice a224 e198.Kids_.length c225]) (c3 := [.int .i64 e198.Miss_]) (c4 := [.slice a230 e198.Stats_.Totals_.length c231, .slice a232 e198.Stats_.Cells_.length c233]) (c5 := [.int .i64 e198.Since_]) (c6 := [.slice a234 e198.Attrs_.length c235]) (c7 := [.int .i64 e198.Depth_]) (c8 := [.int .i64 e198.Up_]) (c9 := [.int .i64 e198.Born_]) rfl rfl (rds_bor g216 w1 hw1) rfl (rdm_Timpl_Stats (x := e198.Stats_) (c0 := [.slice a230 e198.Stats_.Totals_.length c231]) (c1 := [.slice a232 e198.Stats_.Cells_.length c233]) (rds_bor g228 w1 hw1) (rds_bor g229 w1 hw1)) rfl (rds_bor g220 w1 hw1) rfl rfl rfl))) (fun _ _ => trivial) ?_
        refine ow_batch [.p] rfl ?_
        refine ow_nilQ ?_
        refine x_qs ?_
        refine c_if rfl (fun hb => ?_) (fun hb => ?_)
        · have H := of_if_t hb H
          refine c_seq ?_
          refine c_reg ?_
          refine ow_batch [.p] rfl ?_
          refine ow_nil ?_
          refine x_qs ?_
          refine c_ret ?_
          refine x_qb_ret ?_
          refine x_qs_ret ?_
          refine x_ql_ret ?_
          refine x_qb_ret ?_
          refine x_qs_ret ?_
          exact x_retR (rs := [.tmp 4]) (vs := [.bool false]) rfl ⟨rfl, trivial⟩ (fun w' hw' => by
              obtain rfl := of_some H
              exact ⟨rfl, hw'.ext⟩)
        · have H := of_if_f hb H
          refine c_skip ?_
          refine x_qb ?_
          refine x_qs ?_
          refine c_reg ?_
          refine ow_batch [.p, .p, .p] rfl ?_
          refine ow_nil ?_
          exact x_ql (RW.at (ihk1 (IntKind.i64.wrap (i80 + 1)) (H)) (fun _ h => St.sel [] rfl rfl h) ⟨rfl, rfl, rfl, trivial⟩)
      · have H := of_if_f hb H
        refine c_exit ?_
        refine x_qs_exit ?_
        refine x_ql_exit ?_
        refine x_qb_here ?_
        refine x_qs ?_
        refine c_seq ?_
        refine c_reg ?_
        refine ow_batch [.p] rfl ?_
        refine ow_nil ?_
        refine x_qs ?_
        refine c_ret ?_
        exact x_retR (rs := [.tmp 4]) (vs := [.bool true]) rfl ⟨rfl, trivial⟩ (fun w' hw' => by
            obtain rfl := of_some H
            exact ⟨rfl, hw'.ext⟩)

set_option maxHeartbeats 4000000 in
set_option maxRecDepth 100000 in
theorem laws_eqTree_ok (w : World) {p0 : Timpl_Tree} {p1 : Timpl_Tree} {cs0 : List Value} {cs1 : List Value} {r : Bool} (H : laws_eqTree p0 p1 = some r)  (g0 : (eTimpl_Tree).rd w [] p0 cs0) (g1 : (eTimpl_Tree).rd w [] p1 cs1) :
    Calls Try.prog 83 #[.agg cs0.toArray, .agg cs1.toArray] w (fun en w' => en = .returned (.bool r) ∧ Ext [] w w') := by
  obtain ⟨c1, c2, rfl, g3, g4⟩ := rdo_Timpl_Tree g0
  obtain ⟨a5, c6, rfl⟩ := rd_sl1 g3
  obtain rfl : c2 = [.int .i64 p0.Seen_] := g4
  obtain ⟨c7, c8, rfl, g9, g10⟩ := rdo_Timpl_Tree g1
  obtain ⟨a11, c12, rfl⟩ := rd_sl1 g9
  obtain rfl : c8 = [.int .i64 p1.Seen_] := g10
  unfold laws_eqTree at H
  refine f_enter (vs := [.agg #[.slice a5 p0.Nodes_.length c6, .int .i64 p0.Seen_], .agg #[.slice a11 p1.Nodes_.length c12, .int .i64 p1.Seen_]]) Try.func83 rfl Try.ntmps83 rfl (St.init w []) ?_
  refine c_seq ?_
  refine c_reg ?_
  refine ow_box (cs := [.slice a5 p0.Nodes_.length c6, .int .i64 p0.Seen_]) rfl rfl rfl rfl rfl rfl (fun _ => kp) (fun b13 => ?_)
  refine ow_box (cs := [.slice a11 p1.Nodes_.length c12, .int .i64 p1.Seen_]) rfl rfl rfl rfl rfl rfl (fun _ => kp) (fun b14 => ?_)
  refine ow_batch [.p] rfl ?_
  refine ow_nil ?_
  refine x_qs ?_
  refine c_seq ?_
  refine c_seq ?_
  refine c_reg ?_
  refine ow_batch [.fa 74 0 0 fa74_0] rfl ?_
  refine ow_r rfl (dstOk_lt rfl) (ry_box1 (off := 0) rfl rfl ty72 (boxIn (i := 0) rfl) rfl) ?_
  refine ow_batch [.fa 74 0 0 fa74_0] rfl ?_
  refine ow_r rfl (dstOk_lt rfl) (ry_box1 (off := 0) rfl rfl ty72 (boxIn (i := 1) rfl) rfl) ?_
  obtain ⟨y15, h16, H⟩ := of_bind H
  refine ow_q rfl rfl (dstOk_lt rfl) (qy_call rfl fn91 rfl (fun w1 hw1 => laws_eqNodeS_ok w1  h16 (rds_bor g3 w1 hw1) (rds_bor g9 w1 hw1))) (fun _ _ => trivial) ?_
  refine ow_batch [.p] rfl ?_
  refine ow_nil ?_
  refine x_qs ?_
  refine c_if rfl (fun hb => ?_) (fun hb => ?_)
  · have H := of_if_t hb H
    refine c_seq ?_
    refine c_reg ?_
    refine ow_batch [.p] rfl ?_
    refine ow_nil ?_
    refine x_qs ?_
    refine c_ret ?_
    refine x_qs_ret ?_
    exact x_retR (rs := [.tmp 4]) (vs := [.bool false]) rfl ⟨rfl, trivial⟩ (fun w' hw' => by
        obtain rfl := of_some H
        exact ⟨rfl, hw'.ext⟩)
  · have H := of_if_f hb H
    refine c_skip ?_
    refine x_qs ?_
    refine c_seq ?_
    refine c_seq ?_
    refine c_reg ?_
    refine ow_batch [.fa 74 1 1 fa74_1] rfl ?_
    refine ow_r rfl (dstOk_lt rfl) (ry_box1 (off := 1) rfl rfl ty3 (boxIn (i := 0) rfl) rfl) ?_
    refine ow_batch [.fa 74 1 1 fa74_1] rfl ?_
    refine ow_r rfl (dstOk_lt rfl) (ry_box1 (off := 1) rfl rfl ty3 (boxIn (i := 1) rfl) rfl) ?_
    refine ow_batch [.p] rfl ?_
    refine ow_nil ?_
    refine x_qs ?_
    refine c_if rfl (fun hb => ?_) (fun hb => ?_)
    · have H := of_if_t hb H
      refine c_seq ?_
      refine c_reg ?_
      refine ow_batch [.p] rfl ?_
      refine ow_nil ?_
      refine x_qs ?_
      refine c_ret ?_
      refine x_qs_ret ?_
      exact x_retR (rs := [.tmp 4]) (vs := [.bool false]) rfl ⟨rfl, trivial⟩ (fun w' hw' => by
          obtain rfl := of_some H
          exact ⟨rfl, hw'.ext⟩)
    · have H := of_if_f hb H
      refine c_skip ?_
      refine x_qs ?_
      refine c_seq ?_
      refine c_reg ?_
      refine ow_batch [.p] rfl ?_
      refine ow_nil ?_
      refine x_qs ?_
      refine c_ret ?_
      exact x_retR (rs := [.tmp 4]) (vs := [.bool true]) rfl ⟨rfl, trivial⟩ (fun w' hw' => by
          obtain rfl := of_some H
          exact ⟨rfl, hw'.ext⟩)

set_option maxHeartbeats 4000000 in
set_option maxRecDepth 100000 in
theorem laws_eqWindow_ok (w : World) {p0 : Timpl_Window} {p1 : Timpl_Window} {cs0 : List Value} {cs1 : List Value} {r : Bool} (H : laws_eqWindow p0 p1 = some r)  (g0 : (eTimpl_Window).rd w [] p0 cs0) (g1 : (eTimpl_Window).rd w [] p1 cs1) :
    Calls Try.prog 92 #[.agg cs0.toArray, .agg cs1.toArray] w (fun en w' => en = .returned (.bool r) ∧ Ext [] w w') := by
  obtain ⟨c1, rfl, g2⟩ := rdo_Timpl_Window g0
  obtain ⟨a3, c4, rfl⟩ := rd_sl1 g2
  obtain ⟨c5, rfl, g6⟩ := rdo_Timpl_Window g1
  obtain ⟨a7, c8, rfl⟩ := rd_sl1 g6
  unfold laws_eqWindow at H
  refine f_enter (vs := [.agg #[.slice a3 p0.Rows_.length c4], .agg #[.slice a7 p1.Rows_.length c8]]) Try.func92 rfl Try.ntmps92 rfl (St.init w []) ?_
  refine c_seq ?_
  refine c_reg ?_
  refine ow_box (cs := [.slice a3 p0.Rows_.length c4]) rfl rfl rfl rfl rfl rfl (fun _ => kp) (fun b9 => ?_)
  refine ow_box (cs := [.slice a7 p1.Rows_.length c8]) rfl rfl rfl rfl rfl rfl (fun _ => kp) (fun b10 => ?_)
  refine ow_batch [.p] rfl ?_
  refine ow_nil ?_
  refine x_qs ?_
  refine c_seq ?_
  refine c_seq ?_
  refine c_reg ?_
  refine ow_batch [.fa 76 0 0 fa76_0] rfl ?_
  refine ow_r rfl (dstOk_lt rfl) (ry_box1 (off := 0) rfl rfl ty33 (boxIn (i := 0) rfl) rfl) ?_
  refine ow_batch [.fa 76 0 0 fa76_0] rfl ?_
  refine ow_r rfl (dstOk_lt rfl) (ry_box1 (off := 0) rfl rfl ty33 (boxIn (i := 1) rfl) rfl) ?_
  obtain ⟨y11, h12, H⟩ := of_bind H
  refine ow_q rfl rfl (dstOk_lt rfl) (qy_call rfl fn44 rfl (fun w1 hw1 => laws_eqIntSS_ok w1  h12 (rds_bor g2 w1 hw1) (rds_bor g6 w1 hw1))) (fun _ _ => trivial) ?_
  refine ow_batch [.p] rfl ?_
  refine ow_nil ?_
  refine x_qs ?_
  refine c_if rfl (fun hb => ?_) (fun hb => ?_)
  · have H := of_if_t hb H
    refine c_seq ?_
    refine c_reg ?_
    refine ow_batch [.p] rfl ?_
    refine ow_nil ?_
    refine x_qs ?_
    refine c_ret ?_
    refine x_qs_ret ?_
    exact x_retR (rs := [.tmp 4]) (vs := [.bool false]) rfl ⟨rfl, trivial⟩ (fun w' hw' => by
        obtain rfl := of_some H
        exact ⟨rfl, hw'.ext⟩)
  · have H := of_if_f hb H
    refine c_skip ?_
    refine x_qs ?_
    refine c_seq ?_
    refine c_reg ?_
    refine ow_batch [.p] rfl ?_
    refine ow_nil ?_
    refine x_qs ?_
    refine c_ret ?_
    exact x_retR (rs := [.tmp 4]) (vs := [.bool true]) rfl ⟨rfl, trivial⟩ (fun w' hw' => by
        obtain rfl := of_some H
        exact ⟨rfl, hw'.ext⟩)

set_option maxHeartbeats 4000000 in
set_option maxRecDepth 100000 in
theorem laws_eqDet_ok (w : World) {p0 : Timpl_Det} {p1 : Timpl_Det} {cs0 : List Value} {cs1 : List Value} {r : Bool} (H : laws_eqDet p0 p1 = some r)  (g0 : (eTimpl_Det).rd w [] p0 cs0) (g1 : (eTimpl_Det).rd w [] p1 cs1) :
    Calls Try.prog 84 #[.agg cs0.toArray, .agg cs1.toArray] w (fun en w' => en = .returned (.bool r) ∧ Ext [] w w') := by
  obtain ⟨c1, c2, rfl, g3, g4⟩ := rdo_Timpl_Det g0
  obtain ⟨c5, rfl, g6⟩ := rdo_Timpl_Window g3
  obtain ⟨a7, c8, rfl⟩ := rd_sl1 g6
  obtain ⟨c9, rfl, g10⟩ := rdo_Timpl_Window g4
  obtain ⟨a11, c12, rfl⟩ := rd_sl1 g10
  obtain ⟨c13, c14, rfl, g15, g16⟩ := rdo_Timpl_Det g1
  obtain ⟨c17, rfl, g18⟩ := rdo_Timpl_Window g15
  obtain ⟨a19, c20, rfl⟩ := rd_sl1 g18
  obtain ⟨c21, rfl, g22⟩ := rdo_Timpl_Window g16
  obtain ⟨a23, c24, rfl⟩ := rd_sl1 g22
  unfold laws_eqDet at H
  refine f_enter (vs := [.agg #[.slice a7 p0.Warn_.Rows_.length c8, .slice a11 p0.Drift_.Rows_.length c12], .agg #[.slice a19 p1.Warn_.Rows_.length c20, .slice a23 p1.Drift_.Rows_.length c24]]) Try.func84 rfl Try.ntmps84 rfl (St.init w []) ?_
  refine c_seq ?_
  refine c_reg ?_
  refine ow_box (cs := [.slice a7 p0.Warn_.Rows_.length c8, .slice a11 p0.Drift_.Rows_.length c12]) rfl rfl rfl rfl rfl rfl (fun _ => kp) (fun b25 => ?_)
  refine ow_box (cs := [.slice a19 p1.Warn_.Rows_.length c20, .slice a23 p1.Drift_.Rows_.length c24]) rfl rfl rfl rfl rfl rfl (fun _ => kp) (fun b26 => ?_)
  refine ow_batch [.p] rfl ?_
  refine ow_nil ?_
  refine x_qs ?_
  refine c_seq ?_
  refine c_seq ?_
  refine c_reg ?_
  refine ow_batch [.fa 78 0 0 fa78_0] rfl ?_
  refine ow_r rfl (dstOk_lt rfl) (ry_box (off := 0) (ds := [.slice a7 p0.Warn_.Rows_.length c8]) rfl rfl ty76 (boxIn (i := 0) rfl) rfl rfl) ?_
  refine ow_batch [.fa 78 0 0 fa78_0] rfl ?_
  refine ow_r rfl (dstOk_lt rfl) (ry_box (off := 0) (ds := [.slice a19 p1.Warn_.Rows_.length c20]) rfl rfl ty76 (boxIn (i := 1) rfl) rfl rfl) ?_
  obtain ⟨y27, h28, H⟩ := of_bind H
  refine ow_q rfl rfl (dstOk_lt rfl) (qy_call rfl fn92 rfl (fun w1 hw1 => laws_eqWindow_ok w1 (cs0 := [.slice a7 p0.Warn_.Rows_.length c8]) (cs1 := [.slice a19 p1.Warn_.Rows_.length c20]) h28 (rdm_Timpl_Window (x := p0.Warn_) (c0 := [.slice a7 p0.Warn_.Rows_.length c8]) (rds_bor g6 w1 hw1)) (rdm_Timpl_Window (x := p1.Warn_) (c0 := [.slice a19 p1.Warn_.Rows_.length c20]) (rds_bor g18 w1 hw1)))) (fun _ _ => trivial) ?_
  refine ow_batch [.p] rfl ?_
  refine ow_nil ?_
  refine x_qs ?_
  refine c_if rfl (fun hb => ?_) (fun hb => ?_)
  · have H := of_if_t hb H
    refine c_seq ?_
    refine c_reg ?_
    refine ow_batch [.p] rfl ?_
    refine ow_nil ?_
    refine x_qs ?_
    refine c_ret ?_
    refine x_qs_ret ?_
    exact x_retR (rs := [.tmp 4]) (vs := [.bool false]) rfl ⟨rfl, trivial⟩ (fun w' hw' => by
        obtain rfl := of_some H
        exact ⟨rfl, hw'.ext⟩)
  · have H := of_if_f hb H
    refine c_skip ?_
    refine x_qs ?_
    refine c_seq ?_
    refine c_seq ?_
    refine c_reg ?_
    refine ow_batch [.fa 78 1 1 fa78_1] rfl ?_
    refine ow_r rfl (dstOk_lt rfl) (ry_box (off := 1) (ds := [.slice a11 p0.Drift_.Rows_.length c12]) rfl rfl ty76 (boxIn (i := 0) rfl) rfl rfl) ?_
    refine ow_batch [.fa 78 1 1 fa78_1] rfl ?_
    refine ow_r rfl (dstOk_lt rfl) (ry_box (off := 1) (ds := [.slice a23 p1.Drift_.Rows_.length c24]) rfl rfl ty76 (boxIn (i := 1) rfl) rfl rfl) ?_
    obtain ⟨y29, h30, H⟩ := of_bind H
    refine ow_q rfl rfl (dstOk_lt rfl) (qy_call rfl fn92 rfl (fun w1 hw1 => laws_eqWindow_ok w1 (cs0 := [.slice a11 p0.Drift_.Rows_.length c12]) (cs1 := [.slice a23 p1.Drift_.Rows_.length c24]) h30 (rdm_Timpl_Window (x := p0.Drift_) (c0 := [.slice a11 p0.Drift_.Rows_.length c12]) (rds_bor g10 w1 hw1)) (rdm_Timpl_Window (x := p1.Drift_) (c0 := [.slice a23 p1.Drift_.Rows_.length c24]) (rds_bor g22 w1 hw1)))) (fun _ _ => trivial) ?_
    refine ow_batch [.p] rfl ?_
    refine ow_nil ?_
    refine x_qs ?_
    refine c_if rfl (fun hb => ?_) (fun hb => ?_)
    · have H := of_if_t hb H
      refine c_seq ?_
      refine c_reg ?_
      refine ow_batch [.p] rfl ?_
      refine ow_nil ?_
      refine x_qs ?_
      refine c_ret ?_
      refine x_qs_ret ?_
      exact x_retR (rs := [.tmp 4]) (vs := [.bool false]) rfl ⟨rfl, trivial⟩ (fun w' hw' => by
          obtain rfl := of_some H
          exact ⟨rfl, hw'.ext⟩)
    · have H := of_if_f hb H
      refine c_skip ?_
      refine x_qs ?_
      refine c_seq ?_
      refine c_reg ?_
      refine ow_batch [.p] rfl ?_
      refine ow_nil ?_
      refine x_qs ?_
      refine c_ret ?_
      exact x_retR (rs := [.tmp 4]) (vs := [.bool true]) rfl ⟨rfl, trivial⟩ (fun w' hw' => by
          obtain rfl := of_some H
          exact ⟨rfl, hw'.ext⟩)

set_option maxHeartbeats 4000000 in
set_option maxRecDepth 100000 in
theorem laws_eqMember_ok (w : World) {p0 : Timpl_Member} {p1 : Timpl_Member} {cs0 : List Value} {cs1 : List Value} {r : Bool} (H : laws_eqMember p0 p1 = some r)  (g0 : (eTimpl_Member).rd w [] p0 cs0) (g1 : (eTimpl_Member).rd w [] p1 cs1) :
    Calls Try.prog 68 #[.agg cs0.toArray, .agg cs1.toArray] w (fun en w' => en = .returned (.bool r) ∧ Ext [] w w') := by
  obtain ⟨c1, c2, c3, c4, rfl, g5, g6, g7, g8⟩ := rdo_Timpl_Member g0
  obtain ⟨c9, c10, rfl, g11, g12⟩ := rdo_Timpl_Tree g5
  obtain ⟨a13, c14, rfl⟩ := rd_sl1 g11
  obtain rfl : c10 = [.int .i64 p0.Tree_.Seen_] := g12
  obtain rfl : c2 = [.bool p0.HasYoung_] := g6
  obtain ⟨c15, c16, rfl, g17, g18⟩ := rdo_Timpl_Tree g7
  obtain ⟨a19, c20, rfl⟩ := rd_sl1 g17
  obtain rfl : c16 = [.int .i64 p0.Young_.Seen_] := g18
  obtain ⟨c21, c22, rfl, g23, g24⟩ := rdo_Timpl_Det g8
  obtain ⟨c25, rfl, g26⟩ := rdo_Timpl_Window g23
  obtain ⟨a27, c28, rfl⟩ := rd_sl1 g26
  obtain ⟨c29, rfl, g30⟩ := rdo_Timpl_Window g24
  obtain ⟨a31, c32, rfl⟩ := rd_sl1 g30
  obtain ⟨c33, c34, c35, c36, rfl, g37, g38, g39, g40⟩ := rdo_Timpl_Member g1
  obtain ⟨c41, c42, rfl, g43, g44⟩ := rdo_Timpl_Tree g37
  obtain ⟨a45, c46, rfl⟩ := rd_sl1 g43
  obtain rfl : c42 = [.int .i64 p1.Tree_.Seen_] := g44
  obtain rfl : c34 = [.bool p1.HasYoung_] := g38
  obtain ⟨c47, c48, rfl, g49, g50⟩ := rdo_Timpl_Tree g39
  obtain ⟨a51, c52, rfl⟩ := rd_sl1 g49
  obtain rfl : c48 = [.int .i64 p1.Young_.Seen_] := g50
  obtain ⟨c53, c54, rfl, g55, g56⟩ := rdo_Timpl_Det g40
  obtain ⟨c57, rfl, g58⟩ := rdo_Timpl_Window g55
  obtain ⟨a59, c60, rfl⟩ := rd_sl1 g58
  obtain ⟨c61, rfl, g62⟩ := rdo_Timpl_Window g56
  obtain ⟨a63, c64, rfl⟩ := rd_sl1 g62
  unfold laws_eqMember at H
  refine f_enter (vs := [.agg #[.slice a13 p0.Tree_.Nodes_.length c14, .int .i64 p0.Tree_.Seen_, .bool p0.HasYoung_, .slice a19 p0.Young_.Nodes_.length c20, .int .i64 p0.Young_.Seen_, .slice a27 p0.Det_.Warn_.Rows_.length c28, .slice a31 p0.Det_.Drift_.Rows_.length c32], .agg #[.slice a45 p1.Tree_.Nodes_.length c46, .int .i64 p1.Tree_.Seen_, .bool p1.HasYoung_, .slice a51 p1.Young_.Nodes_.length c52, .int .i64 p1.Young_.Seen_, .slice a59 p1.Det_.Warn_.Rows_.length c60, .slice a63 p1.Det_.Drift_.Rows_.length c64]]) Try.func68 rfl Try.ntmps68 rfl (St.init w []) ?_
  refine c_seq ?_
  refine c_reg ?_
  refine ow_box (cs := [.slice a13 p0.Tree_.Nodes_.length c14, .int .i64 p0.Tree_.Seen_, .bool p0.HasYoung_, .slice a19 p0.Young_.Nodes_.length c20, .int .i64 p0.Young_.Seen_, .slice a27 p0.Det_.Warn_.Rows_.length c28, .slice a31 p0.Det_.Drift_.Rows_.length c32]) rfl rfl rfl rfl rfl rfl (fun _ => kp) (fun b65 => ?_)
  refine ow_box (cs := [.slice a45 p1.Tree_.Nodes_.length c46, .int .i64 p1.Tree_.Seen_, .bool p1.HasYoung_, .slice a51 p1.Young_.Nodes_.length c52, .int .i64 p1.Young_.Seen_, .slice a59 p1.Det_.Warn_.Rows_.length c60, .slice a63 p1.Det_.Drift_.Rows_.length c64]) rfl rfl rfl rfl rfl rfl (fun _ => kp) (fun b66 => ?_)
  refine ow_batch [.p] rfl ?_
  refine ow_nil ?_
  refine x_qs ?_
  refine c_seq ?_
  refine c_seq ?_
  refine c_reg ?_
  refine ow_batch [.fa 80 0 0 fa80_0] rfl ?_
  refine ow_r rfl (dstOk_lt rfl) (ry_box (off := 0) (ds := [.slice a13 p0.Tree_.Nodes_.length c14, .int .i64 p0.Tree_.Seen_]) rfl rfl ty74 (boxIn (i := 0) rfl) rfl rfl) ?_
  refine ow_batch [.fa 80 0 0 fa80_0] rfl ?_
  refine ow_r rfl (dstOk_lt rfl) (ry_box (off := 0) (ds := [.slice a45 p1.Tree_.Nodes_.length c46, .int .i64 p1.Tree_.Seen_]) rfl rfl ty74 (boxIn (i := 1) rfl) rfl rfl) ?_
  obtain ⟨y67, h68, H⟩ := of_bind H
  refine ow_q rfl rfl (dstOk_lt rfl) (qy_call rfl fn83 rfl (fun w1 hw1 => laws_eqTree_ok w1 (cs0 := [.slice a13 p0.Tree_.Nodes_.length c14, .int .i64 p0.Tree_.Seen_]) (cs1 := [.slice a45 p1.Tree_.Nodes_.length c46, .int .i64 p1.Tree_.Seen_]) h68 (rdm_Timpl_Tree (x := p0.Tree_) (c0 := [.slice a13 p0.Tree_.Nodes_.length c14]) (c1 := [.int .i64 p0.Tree_.Seen_]) (rds_bor g11 w1 hw1) rfl) (rdm_Timpl_Tree (x := p1.Tree_) (c0 := [.slice a45 p1.Tree_.Nodes_.length c46]) (c1 := [.int .i64 p1.Tree_.Seen_]) (rds_bor g43 w1 hw1) rfl))) (fun _ _ => trivial) ?_
  refine ow_batch [.p] rfl ?_
  refine ow_nil ?_
  refine x_qs ?_
  refine c_if rfl (fun hb => ?_) (fun hb => ?_)
  · have H := of_if_t hb H
    refine c_seq ?_
    refine c_reg ?_
    refine ow_batch [.p] rfl ?_
    refine ow_nil ?_
    refine x_qs ?_
    refine c_ret ?_
    refine x_qs_ret ?_
    exact x_retR (rs := [.tmp 4]) (vs := [.bool false]) rfl ⟨rfl, trivial⟩ (fun w' hw' => by
        obtain rfl := of_some H
        exact ⟨rfl, hw'.ext⟩)
  · have H := of_if_f hb H
    refine c_skip ?_
    refine x_qs ?_
    refine c_seq ?_
    refine c_seq ?_
    refine c_reg ?_
    refine ow_batch [.fa 80 1 2 fa80_1] rfl ?_
    refine ow_r rfl (dstOk_lt rfl) (ry_box1 (off := 2) rfl rfl ty4 (boxIn (i := 0) rfl) rfl) ?_
    refine ow_batch [.fa 80 1 2 fa80_1] rfl ?_
    refine ow_r rfl (dstOk_lt rfl) (ry_box1 (off := 2) rfl rfl ty4 (boxIn (i := 1) rfl) rfl) ?_
    refine ow_r rfl (dstOk_lt rfl) (ry_bneq rfl rfl rfl bl4) ?_
    refine ow_nil ?_
    refine x_qs ?_
    refine c_if rfl (fun hb => ?_) (fun hb => ?_)
    · have H := of_if_t hb H
      refine c_seq ?_
      refine c_reg ?_
      refine ow_batch [.p] rfl ?_
      refine ow_nil ?_
      refine x_qs ?_
      refine c_ret ?_
      refine x_qs_ret ?_
      exact x_retR (rs := [.tmp 4]) (vs := [.bool false]) rfl ⟨rfl, trivial⟩ (fun w' hw' => by
          obtain rfl := of_some H
          exact ⟨rfl, hw'.ext⟩)
    · have H := of_if_f hb H
      refine c_skip ?_
      refine x_qs ?_
      refine c_seq ?_
      refine c_seq ?_
      refine c_reg ?_
      refine ow_batch [.fa 80 2 3 fa80_2] rfl ?_
      refine ow_r rfl (dstOk_lt rfl) (ry_box (off := 3) (ds := [.slice a19 p0.Young_.Nodes_.length c20, .int .i64 p0.Young_.Seen_]) rfl rfl ty74 (boxIn (i := 0) rfl) rfl rfl) ?_
      refine ow_batch [.fa 80 2 3 fa80_2] rfl ?_
      refine ow_r rfl (dstOk_lt rfl) (ry_box (off := 3) (ds := [.slice a51 p1.Young_.Nodes_.length c52, .int .i64 p1.Young_.Seen_]) rfl rfl ty74 (boxIn (i := 1) rfl) rfl rfl) ?_
      obtain ⟨y69, h70, H⟩ := of_bind H
      refine ow_q rfl rfl (dstOk_lt rfl) (qy_call rfl fn83 rfl (fun w1 hw1 => laws_eqTree_ok w1 (cs0 := [.slice a19 p0.Young_.Nodes_.length c20, .int .i64 p0.Young_.Seen_]) (cs1 := [.slice a51 p1.Young_.Nodes_.length c52, .int .i64 p1.Young_.Seen_]) h70 (rdm_Timpl_Tree (x := p0.Young_) (c0 := [.slice a19 p0.Young_.Nodes_.length c20]) (c1 := [.int .i64 p0.Young_.Seen_]) (rds_bor g17 w1 hw1) rfl) (rdm_Timpl_Tree (x := p1.Young_) (c0 := [.slice a51 p1.Young_.Nodes_.length c52]) (c1 := [.int .i64 p1.Young_.Seen_]) (rds_bor g49 w1 hw1) rfl))) (fun _ _ => trivial) ?_
      refine ow_batch [.p] rfl ?_
      refine ow_nil ?_
      refine x_qs ?_
      refine c_if rfl (fun hb => ?_) (fun hb => ?_)
      · have H := of_if_t hb H
        refine c_seq ?_
        refine c_reg ?_
        refine ow_batch [.p] rfl ?_
        refine ow_nil ?_
        refine x_qs ?_
        refine c_ret ?_
        refine x_qs_ret ?_
        exact x_retR (rs := [.tmp 4]) (vs := [.bool false]) rfl ⟨rfl, trivial⟩ (fun w' hw' => by
            obtain rfl := of_some H
            exact ⟨rfl, hw'.ext⟩)
      · have H := of_if_f hb H
        refine c_skip ?_
        refine x_qs ?_
        refine c_seq ?_
        refine c_seq ?_
        refine c_reg ?_
        refine ow_batch [.fa 80 3 5 fa80_3] rfl ?_
        refine ow_r rfl (dstOk_lt rfl) (ry_box (off := 5) (ds := [.slice a27 p0.Det_.Warn_.Rows_.length c28, .slice a31 p0.Det_.Drift_.Rows_.length c32]) rfl rfl ty78 (boxIn (i := 0) rfl) rfl rfl) ?_
        refine ow_batch [.fa 80 3 5 fa80_3] rfl ?_
        refine ow_r rfl (dstOk_lt rfl) (ry_box (off := 5) (ds := [.slice a59 p1.Det_.Warn_.Rows_.length c60, .slice a63 p1.Det_.Drift_.Rows_.length c64]) rfl rfl ty78 (boxIn (i := 1) rfl) rfl rfl) ?_
        obtain ⟨y71, h72, H⟩ := of_bind H
        refine ow_q rfl rfl (dstOk_lt rfl) (qy_call rfl fn84 rfl (fun w1 hw1 => laws_eqDet_ok w1 (cs0 := [.slice a27 p0.Det_.Warn_.Rows_.length c28, .slice a31 p0.Det_.Drift_.Rows_.length c32]) (cs1 := [.slice a59 p1.Det_.Warn_.Rows_.length c60, .slice a63 p1.Det_.Drift_.Rows_.length c64]) h72 (rdm_Timpl_Det (x := p0.Det_) (c0 := [.slice a27 p0.Det_.Warn_.Rows_.length c28]) (c1 := [.slice a31 p0.Det_.Drift_.Rows_.length c32]) (rdm_Timpl_Window (x := p0.Det_.Warn_) (c0 := [.slice a27 p0.Det_.Warn_.Rows_.length c28]) (rds_bor g26 w1 hw1)) (rdm_Timpl_Window (x := p0.Det_.Drift_) (c0 := [.slice a31 p0.Det_.Drift_.Rows_.length c32]) (rds_bor g30 w1 hw1))) (rdm_Timpl_Det (x := p1.Det_) (c0 := [.slice a59 p1.Det_.Warn_.Rows_.length c60]) (c1 := [.slice a63 p1.Det_.Drift_.Rows_.length c64]) (rdm_Timpl_Window (x := p1.Det_.Warn_) (c0 := [.slice a59 p1.Det_.Warn_.Rows_.length c60]) (rds_bor g58 w1 hw1)) (rdm_Timpl_Window (x := p1.Det_.Drift_) (c0 := [.slice a63 p1.Det_.Drift_.Rows_.length c64]) (rds_bor g62 w1 hw1))))) (fun _ _ => trivial) ?_
        refine ow_batch [.p] rfl ?_
        refine ow_nil ?_
        refine x_qs ?_
        refine c_if rfl (fun hb => ?_) (fun hb => ?_)
        · have H := of_if_t hb H
          refine c_seq ?_
          refine c_reg ?_
          refine ow_batch [.p] rfl ?_
          refine ow_nil ?_
          refine x_qs ?_
          refine c_ret ?_
          refine x_qs_ret ?_
          exact x_retR (rs := [.tmp 4]) (vs := [.bool false]) rfl ⟨rfl, trivial⟩ (fun w' hw' => by
              obtain rfl := of_some H
              exact ⟨rfl, hw'.ext⟩)
        · have H := of_if_f hb H
          refine c_skip ?_
          refine x_qs ?_
          refine c_seq ?_
          refine c_reg ?_
          refine ow_batch [.p] rfl ?_
          refine ow_nil ?_
          refine x_qs ?_
          refine c_ret ?_
          exact x_retR (rs := [.tmp 4]) (vs := [.bool true]) rfl ⟨rfl, trivial⟩ (fun w' hw' => by
              obtain rfl := of_some H
              exact ⟨rfl, hw'.ext⟩)

set_option maxHeartbeats 4000000 in
set_option maxRecDepth 100000 in
theorem laws_eqMemberS_ok (w : World) {p0 : List Timpl_Member} {p1 : List Timpl_Member} {a_0 : Option Addr} {n_0 c_0 : Nat} {a_1 : Option Addr} {n_1 c_1 : Nat} {r : Bool} (H : laws_eqMemberS p0 p1 = some r)  (g0 : (eList (eTimpl_Member) 80).rd w [] p0 [.slice a_0 n_0 c_0]) (g1 : (eList (eTimpl_Member) 80).rd w [] p1 [.slice a_1 n_1 c_1]) :
    Calls Try.prog 43 #[.slice a_0 n_0 c_0, .slice a_1 n_1 c_1] w (fun en w' => en = .returned (.bool r) ∧ Ext [] w w') := by
  obtain rfl := rd_n g0
  obtain rfl := rd_n g1
  unfold laws_eqMemberS at H
  refine f_enter (vs := [.slice a_0 p0.length c_0, .slice a_1 p1.length c_1]) Try.func43 rfl Try.ntmps43 rfl (St.init w []) ?_
  refine c_seq ?_
  refine c_reg ?_
  refine ow_batch [.p] rfl ?_
  refine ow_nil ?_
  refine x_qs ?_
  refine c_seq ?_
  refine c_seq ?_
  refine c_reg ?_
  refine ow_batch [.p, .lenS 47 80 sl47, .p, .lenS 47 80 sl47, .p] rfl ?_
  refine ow_nil ?_
  refine x_qs ?_
  refine c_if rfl (fun hb => ?_) (fun hb => ?_)
  · have H := of_if_t hb H
    refine c_seq ?_
    refine c_reg ?_
    refine ow_batch [.p] rfl ?_
    refine ow_nil ?_
    refine x_qs ?_
    refine c_ret ?_
    refine x_qs_ret ?_
    exact x_retR (rs := [.tmp 4]) (vs := [.bool false]) rfl ⟨rfl, trivial⟩ (fun w' hw' => by
        obtain rfl := of_some H
        exact ⟨rfl, hw'.ext⟩)
  · have H := of_if_f hb H
    refine c_skip ?_
    refine x_qs ?_
    refine c_seq ?_
    refine c_seq ?_
    refine c_reg ?_
    refine ow_batch [.p] rfl ?_
    refine ow_nil ?_
    refine x_qs ?_
    refine c_block ?_
    refine CW.at (loopI1 (fun (i80 : Int) => St w [] []) (fun (i80 : Int) => [(0, .slice a_0 p0.length c_0), (1, .slice a_1 p1.length c_1), (5, .int .i64 i80)]) (fun kk => fun (i80 : Int) => laws_eqMemberS_L1 p0 p1 kk i80 = some r) (fun _ H => ?_) (fun k1 ihk1 i80 H => ?_) Fuel (0) (H)) (fun _ h => St.sel [] rfl rfl h) ⟨rfl, rfl, rfl,  trivial⟩
    · unfold laws_eqMemberS_L1 at H
      exact absurd H (by simp)
    · unfold laws_eqMemberS_L1 at H
      refine c_seq ?_
      refine c_seq ?_
      refine c_reg ?_
      refine ow_batch [.p, .p, .lenS 47 80 sl47, .p] rfl ?_
      refine ow_nil ?_
      refine x_qs ?_
      refine c_if rfl (fun hb => ?_) (fun hb => ?_)
      · have H := of_if_t hb H
        refine c_skip ?_
        refine x_qs ?_
        refine c_seq ?_
        refine c_block ?_
        refine c_seq ?_
        refine c_regQ mixed (by kernel_rfl) ?_
        refine ow_batch [.p, .p] rfl ?_
        obtain ⟨e160, h161, H⟩ := of_bind H
        refine ow_ixB rfl rfl rfl rfl rfl sl47 ty80 rfl g0 h161 (fun q164 c165 hd162 hA163 => ?_)
        obtain ⟨c166, c167, c168, c169, rfl, g170, g171, g172, g173⟩ := rdo_Timpl_Member hd162
        obtain ⟨c174, c175, rfl, g176, g177⟩ := rdo_Timpl_Tree g170
        obtain ⟨a178, c179, rfl⟩ := rd_sl1 g176
        obtain rfl : c175 = [.int .i64 e160.Tree_.Seen_] := g177
        obtain rfl : c167 = [.bool e160.HasYoung_] := g171
        obtain ⟨c180, c181, rfl, g182, g183⟩ := rdo_Timpl_Tree g172
        obtain ⟨a184, c185, rfl⟩ := rd_sl1 g182
        obtain rfl : c181 = [.int .i64 e160.Young_.Seen_] := g183
        obtain ⟨c186, c187, rfl, g188, g189⟩ := rdo_Timpl_Det g173
        obtain ⟨c190, rfl, g191⟩ := rdo_Timpl_Window g188
        obtain ⟨a192, c193, rfl⟩ := rd_sl1 g191
        obtain ⟨c194, rfl, g195⟩ := rdo_Timpl_Window g189
        obtain ⟨a196, c197, rfl⟩ := rd_sl1 g195
        refine ow_r rfl (dstOk_lt rfl) (ry_load (cs := [.slice a178 e160.Tree_.Nodes_.length c179, .int .i64 e160.Tree_.Seen_, .bool e160.HasYoung_, .slice a184 e160.Young_.Nodes_.length c185, .int .i64 e160.Young_.Seen_, .slice a192 e160.Det_.Warn_.Rows_.length c193, .slice a196 e160.Det_.Drift_.Rows_.length c197]) rfl rfl ty80 (at_bor bor hA163) rfl) ?_
        refine ow_batch [.p, .p] rfl ?_
        obtain ⟨e198, h199, H⟩ := of_bind H
        refine ow_ixB rfl rfl rfl rfl rfl sl47 ty80 rfl g1 h199 (fun q202 c203 hd200 hA201 => ?_)
        obtain ⟨c204, c205, c206, c207, rfl, g208, g209, g210, g211⟩ := rdo_Timpl_Member hd200
        obtain ⟨c212, c213, rfl, g214, g215⟩ := rdo_Timpl_Tree g208
        obtain ⟨a216, c217, rfl⟩ := rd_sl1 g214
        obtain rfl : c213 = [.int .i64 e198.Tree_.Seen_] := g215
        obtain rfl : c205 = [.bool e198.HasYoung_] := g209
        obtain ⟨c218, c219, rfl, g220, g221⟩ := rdo_Timpl_Tree g210
        obtain ⟨a222, c223, rfl⟩ := rd_sl1 g220
        obtain rfl : c219 = [.int .i64 e198.Young_.Seen_] := g221
        obtain ⟨c224, c225, rfl, g226, g227⟩ := rdo_Timpl_Det g211
        obtain ⟨c228, rfl, g229⟩ := rdo_Timpl_Window g226
        obtain ⟨a230, c231, rfl⟩ := rd_sl1 g229
        obtain ⟨c232, rfl, g233⟩ := rdo_Timpl_Window g227
        obtain ⟨a234, c235, rfl⟩ := rd_sl1 g233
        refine ow_r rfl (dstOk_lt rfl) (ry_load (cs := [.slice a216 e198.Tree_.Nodes_.length c217, .int .i64 e198.Tree_.Seen_, .bool e198.HasYoung_, .slice a222 e198.Young_.Nodes_.length c223, .int .i64 e198.Young_.Seen_, .slice a230 e198.Det_.Warn_.Rows_.length c231, .slice a234 e198.Det_.Drift_.Rows_.length c235]) rfl rfl ty80 (at_bor bor hA201) rfl) ?_
        obtain ⟨y236, h237, H⟩ := of_bind H
        refine ow_q rfl rfl (dstOk_lt rfl) (qy_call rfl fn68 rfl (fun w1 hw1 => laws_eqMember_ok w1 (cs0 := [.slice a178 e160.Tree_.Nodes_.length c179, .int .i64 e160.Tree_.Seen_, .bool e160.HasYoung_, .slice a184 e160.Young_.Nodes_.length c185, .int .i64 e160.Young_.Seen_, .slice a192 e160.Det_.Warn_.Rows_.length c193, .slice a196 e160.Det_.Drift_.Rows_.length c197]) (cs1 := [.slice a216 e198.Tree_.Nodes_.length c217, .int .i64 e198.Tree_.Seen_, .bool e198.HasYoung_, .slice a222 e198.Young_.Nodes_.length c223, .int .i64 e198.Young_.Seen_, .slice a230 e198.Det_.Warn_.Rows_.length c231, .slice a234 e198.Det_.Drift_.Rows_.length c235]) h237 (rdm_Timpl_Member (x := e160) (c0 := [.slice a178 e160.Tree_.Nodes_.length c179, .int .i64 e160.Tree_.Seen_]) (c1 := [.bool e160.HasYoung_]) (c2 := [.slice a184 e160.Young_.Nodes_.length c185, .int .i64 e160.Young_.Seen_]) (c3 := [.slice a192 e160.Det_.Warn_.Rows_.length c193, .slice a196 e160.Det_.Drift_.Rows_.length c197]) (rdm_Timpl_Tree (x := e160.Tree_) (c0 := [.slice a178 e160.Tree_.Nodes_.length c179]) (c1 := [.int .i64 e160.Tree_.Seen_]) (rds_bor g176 w1 hw1) rfl) rfl (rdm_Timpl_Tree (x := e160.Young_) (c0 := [.slice a184 e160.Young_.Nodes_.length c185]) (c1 := [.int .i64 e160.Young_.Seen_]) (rds_bor g182 w1 hw1) rfl) (rdm_Timpl_Det (x := e160.Det_) (c0 := [.slice a192 e160.Det_.Warn_.Rows_.length c193]) (c1 := [.slice a196 e160.Det_.Drift_.Rows_.length c197]) (rdm_Timpl_Window (x := e160.Det_.Warn_) (c0 := [.slice a192 e160.Det_.Warn_.Rows_.length c193]) (rds_bor g191 w1 hw1)) (rdm_Timpl_Window (x := e160.Det_.Drift_) (c0 := [.slice a196 e160.Det_.Drift_.Rows_.length c197]) (rds_bor g195 w1 hw1)))) (rdm_Timpl_Member (x := e198) (c0 := [.slice a216 e198.Tree_.Nodes_.length c217, .int .i64 e198.Tree_.Seen_]) (c1 := [.bool e198.HasYoung_]) (c2 := [.slice a222 e198.Young_.Nodes_.length c223, .int .i64 e198.Young_.Seen_]) (c3 := [.slice a230 e198.Det_.Warn_.Rows_.length c231, .slice a234 e198.Det_.Drift_.Rows_.length c235]) (rdm_Timpl_Tree (x := e198.Tree_) (c0 := [.slice a216 e198.Tree_.Nodes_.length c217]) (c1 := [.int .i64 e198.Tree_.Seen_]) (rds_bor g214 w1 hw1) rfl) rfl (rdm_Timpl_Tree (x := e198.Young_) (c0 := [.slice a222 e198.Young_.Nodes_.length c223]) (c1 := [.int .i64 e198.Young_.Seen_]) (rds_bor g220 w1 hw1) rfl) (rdm_Timpl_Det (x := e198.Det_) (c0 := [.slice a230 e198.Det_.Warn_.Rows_.length c231]) (c1 := [.slice a234 e198.Det_.Drift_.Rows_.length c235]) (rdm_Timpl_Window (x := e198.Det_.Warn_) (c0 := [.slice a230 e198.Det_.Warn_.Rows_.length c231]) (rds_bor g229 w1 hw1)) (rdm_Timpl_Window (x := e198.Det_.Drift_) (c0 := [.slice a234 e198.Det_.Drift_.Rows_.length c235]) (rds_bor g233 w1 hw1)))))) (fun _ _ => trivial) ?_
        refine ow_batch [.p] rfl ?_
        refine ow_nilQ ?_
        refine x_qs ?_
        refine c_if rfl (fun hb => ?_) (fun hb => ?_)
        · have H := of_if_t hb H
          refine c_seq ?_
          refine c_reg ?_
          refine ow_batch [.p] rfl ?_
          refine ow_nil ?_
          refine x_qs ?_
          refine c_ret ?_
          refine x_qb_ret ?_
          refine x_qs_ret ?_
          refine x_ql_ret ?_
          refine x_qb_ret ?_
          refine x_qs_ret ?_
          exact x_retR (rs := [.tmp 4]) (vs := [.bool false]) rfl ⟨rfl, trivial⟩ (fun w' hw' => by
              obtain rfl := of_some H
              exact ⟨rfl, hw'.ext⟩)
        · have H := of_if_f hb H
          refine c_skip ?_
          refine x_qb ?_
          refine x_qs ?_
          refine c_reg ?_
          refine ow_batch [.p, .p, .p] rfl ?_
          refine ow_nil ?_
          exact x_ql (RW.at (ihk1 (IntKind.i64.wrap (i80 + 1)) (H)) (fun _ h => St.sel [] rfl rfl h) ⟨rfl, rfl, rfl, trivial⟩)
      · have H := of_if_f hb H
        refine c_exit ?_
        refine x_qs_exit ?_
        refine x_ql_exit ?_
        refine x_qb_here ?_
        refine x_qs ?_
        refine c_seq ?_
        refine c_reg ?_
        refine ow_batch [.p] rfl ?_
        refine ow_nil ?_
        refine x_qs ?_
        refine c_ret ?_
        exact x_retR (rs := [.tmp 4]) (vs := [.bool true]) rfl ⟨rfl, trivial⟩ (fun w' hw' => by
            obtain rfl := of_some H
            exact ⟨rfl, hw'.ext⟩)

set_option maxHeartbeats 4000000 in
set_option maxRecDepth 100000 in
theorem laws_eqForest_ok (w : World) {p0 : Timpl_Forest} {p1 : Timpl_Forest} {cs0 : List Value} {cs1 : List Value} {r : Bool} (H : laws_eqForest p0 p1 = some r)  (g0 : (eTimpl_Forest).rd w [] p0 cs0) (g1 : (eTimpl_Forest).rd w [] p1 cs1) :
    Calls Try.prog 22 #[.agg cs0.toArray, .agg cs1.toArray] w (fun en w' => en = .returned (.bool r) ∧ Ext [] w w') := by
  obtain ⟨c1, rfl, g2⟩ := rdo_Timpl_Forest g0
  obtain ⟨a3, c4, rfl⟩ := rd_sl1 g2
  obtain ⟨c5, rfl, g6⟩ := rdo_Timpl_Forest g1
  obtain ⟨a7, c8, rfl⟩ := rd_sl1 g6
  unfold laws_eqForest at H
  refine f_enter (vs := [.agg #[.slice a3 p0.Members_.length c4], .agg #[.slice a7 p1.Members_.length c8]]) Try.func22 rfl Try.ntmps22 rfl (St.init w []) ?_
  refine c_seq ?_
  refine c_reg ?_
  refine ow_box (cs := [.slice a3 p0.Members_.length c4]) rfl rfl rfl rfl rfl rfl (fun _ => kp) (fun b9 => ?_)
  refine ow_box (cs := [.slice a7 p1.Members_.length c8]) rfl rfl rfl rfl rfl rfl (fun _ => kp) (fun b10 => ?_)
  refine ow_batch [.p] rfl ?_
  refine ow_nil ?_
  refine x_qs ?_
  refine c_seq ?_
  refine c_seq ?_
  refine c_reg ?_
  refine ow_batch [.fa 49 0 0 fa49_0] rfl ?_
  refine ow_r rfl (dstOk_lt rfl) (ry_box1 (off := 0) rfl rfl ty47 (boxIn (i := 0) rfl) rfl) ?_
  refine ow_batch [.fa 49 0 0 fa49_0] rfl ?_
  refine ow_r rfl (dstOk_lt rfl) (ry_box1 (off := 0) rfl rfl ty47 (boxIn (i := 1) rfl) rfl) ?_
  obtain ⟨y11, h12, H⟩ := of_bind H
  refine ow_q rfl rfl (dstOk_lt rfl) (qy_call rfl fn43 rfl (fun w1 hw1 => laws_eqMemberS_ok w1  h12 (rds_bor g2 w1 hw1) (rds_bor g6 w1 hw1))) (fun _ _ => trivial) ?_
  refine ow_batch [.p] rfl ?_
  refine ow_nil ?_
  refine x_qs ?_
  refine c_if rfl (fun hb => ?_) (fun hb => ?_)
  · have H := of_if_t hb H
    refine c_seq ?_
    refine c_reg ?_
    refine ow_batch [.p] rfl ?_
    refine ow_nil ?_
    refine x_qs ?_
    refine c_ret ?_
    refine x_qs_ret ?_
    exact x_retR (rs := [.tmp 4]) (vs := [.bool false]) rfl ⟨rfl, trivial⟩ (fun w' hw' => by
        obtain rfl := of_some H
        exact ⟨rfl, hw'.ext⟩)
  · have H := of_if_f hb H
    refine c_skip ?_
    refine x_qs ?_
    refine c_seq ?_
    refine c_reg ?_
    refine ow_batch [.p] rfl ?_
    refine ow_nil ?_
    refine x_qs ?_
    refine c_ret ?_
    exact x_retR (rs := [.tmp 4]) (vs := [.bool true]) rfl ⟨rfl, trivial⟩ (fun w' hw' => by
        obtain rfl := of_some H
        exact ⟨rfl, hw'.ext⟩)

set_option maxHeartbeats 4000000 in
set_option maxRecDepth 100000 in
theorem laws_eqPair_ok (w : World) {p0 : Timpl_Pair} {p1 : Timpl_Pair}  {r : Bool} (H : laws_eqPair p0 p1 = some r)   :
    Calls Try.prog 70 #[.agg #[.int .i64 p0.Truth_, .int .i64 p0.Said_], .agg #[.int .i64 p1.Truth_, .int .i64 p1.Said_]] w (fun en w' => en = .returned (.bool r) ∧ Ext [] w w') := by
  unfold laws_eqPair at H
  refine f_enter (vs := [.agg #[.int .i64 p0.Truth_, .int .i64 p0.Said_], .agg #[.int .i64 p1.Truth_, .int .i64 p1.Said_]]) Try.func70 rfl Try.ntmps70 rfl (St.init w []) ?_
  refine c_seq ?_
  refine c_reg ?_
  refine ow_box (cs := [.int .i64 p0.Truth_, .int .i64 p0.Said_]) rfl rfl rfl rfl rfl rfl (fun _ => kp) (fun b1 => ?_)
  refine ow_box (cs := [.int .i64 p1.Truth_, .int .i64 p1.Said_]) rfl rfl rfl rfl rfl rfl (fun _ => kp) (fun b2 => ?_)
  refine ow_batch [.p] rfl ?_
  refine ow_nil ?_
  refine x_qs ?_
  refine c_seq ?_
  refine c_seq ?_
  refine c_reg ?_
  refine ow_batch [.fa 84 0 0 fa84_0] rfl ?_
  refine ow_r rfl (dstOk_lt rfl) (ry_box1 (off := 0) rfl rfl ty3 (boxIn (i := 0) rfl) rfl) ?_
  refine ow_batch [.fa 84 0 0 fa84_0] rfl ?_
  refine ow_r rfl (dstOk_lt rfl) (ry_box1 (off := 0) rfl rfl ty3 (boxIn (i := 1) rfl) rfl) ?_
  refine ow_batch [.p] rfl ?_
  refine ow_nil ?_
  refine x_qs ?_
  refine c_if rfl (fun hb => ?_) (fun hb => ?_)
  · have H := of_if_t hb H
    refine c_seq ?_
    refine c_reg ?_
    refine ow_batch [.p] rfl ?_
    refine ow_nil ?_
    refine x_qs ?_
    refine c_ret ?_
    refine x_qs_ret ?_
    exact x_retR (rs := [.tmp 4]) (vs := [.bool false]) rfl ⟨rfl, trivial⟩ (fun w' hw' => by
        obtain rfl := of_some H
        exact ⟨rfl, hw'.ext⟩)
  · have H := of_if_f hb H
    refine c_skip ?_
    refine x_qs ?_
    refine c_seq ?_
    refine c_seq ?_
    refine c_reg ?_
    refine ow_batch [.fa 84 1 1 fa84_1] rfl ?_
    refine ow_r rfl (dstOk_lt rfl) (ry_box1 (off := 1) rfl rfl ty3 (boxIn (i := 0) rfl) rfl) ?_
    refine ow_batch [.fa 84 1 1 fa84_1] rfl ?_
    refine ow_r rfl (dstOk_lt rfl) (ry_box1 (off := 1) rfl rfl ty3 (boxIn (i := 1) rfl) rfl) ?_
    refine ow_batch [.p] rfl ?_
    refine ow_nil ?_
    refine x_qs ?_
    refine c_if rfl (fun hb => ?_) (fun hb => ?_)
    · have H := of_if_t hb H
      refine c_seq ?_
      refine c_reg ?_
      refine ow_batch [.p] rfl ?_
      refine ow_nil ?_
      refine x_qs ?_
      refine c_ret ?_
      refine x_qs_ret ?_
      exact x_retR (rs := [.tmp 4]) (vs := [.bool false]) rfl ⟨rfl, trivial⟩ (fun w' hw' => by
          obtain rfl := of_some H
          exact ⟨rfl, hw'.ext⟩)
    · have H := of_if_f hb H
      refine c_skip ?_
      refine x_qs ?_
      refine c_seq ?_
      refine c_reg ?_
      refine ow_batch [.p] rfl ?_
      refine ow_nil ?_
      refine x_qs ?_
      refine c_ret ?_
      exact x_retR (rs := [.tmp 4]) (vs := [.bool true]) rfl ⟨rfl, trivial⟩ (fun w' hw' => by
          obtain rfl := of_some H
          exact ⟨rfl, hw'.ext⟩)

set_option maxHeartbeats 4000000 in
set_option maxRecDepth 100000 in
theorem laws_eqPairS_ok (w : World) {p0 : List Timpl_Pair} {p1 : List Timpl_Pair} {a_0 : Option Addr} {n_0 c_0 : Nat} {a_1 : Option Addr} {n_1 c_1 : Nat} {r : Bool} (H : laws_eqPairS p0 p1 = some r)  (g0 : (eList (eTimpl_Pair) 84).rd w [] p0 [.slice a_0 n_0 c_0]) (g1 : (eList (eTimpl_Pair) 84).rd w [] p1 [.slice a_1 n_1 c_1]) :
    Calls Try.prog 45 #[.slice a_0 n_0 c_0, .slice a_1 n_1 c_1] w (fun en w' => en = .returned (.bool r) ∧ Ext [] w w') := by
  obtain rfl := rd_n g0
  obtain rfl := rd_n g1
  unfold laws_eqPairS at H
  refine f_enter (vs := [.slice a_0 p0.length c_0, .slice a_1 p1.length c_1]) Try.func45 rfl Try.ntmps45 rfl (St.init w []) ?_
  refine c_seq ?_
  refine c_reg ?_
  refine ow_batch [.p] rfl ?_
  refine ow_nil ?_
  refine x_qs ?_
  refine c_seq ?_
  refine c_seq ?_
  refine c_reg ?_
  refine ow_batch [.p, .lenS 50 84 sl50, .p, .lenS 50 84 sl50, .p] rfl ?_
  refine ow_nil ?_
  refine x_qs ?_
  refine c_if rfl (fun hb => ?_) (fun hb => ?_)
  · have H := of_if_t hb H
    refine c_seq ?_
    refine c_reg ?_
    refine ow_batch [.p] rfl ?_
    refine ow_nil ?_
    refine x_qs ?_
    refine c_ret ?_
    refine x_qs_ret ?_
    exact x_retR (rs := [.tmp 4]) (vs := [.bool false]) rfl ⟨rfl, trivial⟩ (fun w' hw' => by
        obtain rfl := of_some H
        exact ⟨rfl, hw'.ext⟩)
  · have H := of_if_f hb H
    refine c_skip ?_
    refine x_qs ?_
    refine c_seq ?_
    refine c_seq ?_
    refine c_reg ?_
    refine ow_batch [.p] rfl ?_
    refine ow_nil ?_
    refine x_qs ?_
    refine c_block ?_
    refine CW.at (loopI1 (fun (i9 : Int) => St w [] []) (fun (i9 : Int) => [(0, .slice a_0 p0.length c_0), (1, .slice a_1 p1.length c_1), (5, .int .i64 i9)]) (fun kk => fun (i9 : Int) => laws_eqPairS_L1 p0 p1 kk i9 = some r) (fun _ H => ?_) (fun k1 ihk1 i9 H => ?_) Fuel (0) (H)) (fun _ h => St.sel [] rfl rfl h) ⟨rfl, rfl, rfl,  trivial⟩
    · unfold laws_eqPairS_L1 at H
      exact absurd H (by simp)
    · unfold laws_eqPairS_L1 at H
      refine c_seq ?_
      refine c_seq ?_
      refine c_reg ?_
      refine ow_batch [.p, .p, .lenS 50 84 sl50, .p] rfl ?_
      refine ow_nil ?_
      refine x_qs ?_
      refine c_if rfl (fun hb => ?_) (fun hb => ?_)
      · have H := of_if_t hb H
        refine c_skip ?_
        refine x_qs ?_
        refine c_seq ?_
        refine c_block ?_
        refine c_seq ?_
        refine c_regQ mixed (by kernel_rfl) ?_
        refine ow_batch [.p, .p] rfl ?_
        obtain ⟨e18, h19, H⟩ := of_bind H
        refine ow_ixE (e := eTimpl_Pair) (xs := p0) (j := i9) rfl rfl rfl rfl rfl sl50 ty84 rfl (fun w1 hw1 => rds_bor g0 w1 hw1) h19 rfl ?_
        refine ow_r rfl (dstOk_lt rfl) (ry_load (cs := [.int .i64 e18.Truth_, .int .i64 e18.Said_]) rfl rfl ty84 (at_castA (at_eltE (fun w1 hw1 => rds_bor g0 w1 hw1) h19 (fun _ _ h => h)) rfl) rfl) ?_
        refine ow_batch [.p, .p] rfl ?_
        obtain ⟨e20, h21, H⟩ := of_bind H
        refine ow_ixE (e := eTimpl_Pair) (xs := p1) (j := i9) rfl rfl rfl rfl rfl sl50 ty84 rfl (fun w1 hw1 => rds_bor g1 w1 hw1) h21 rfl ?_
        refine ow_r rfl (dstOk_lt rfl) (ry_load (cs := [.int .i64 e20.Truth_, .int .i64 e20.Said_]) rfl rfl ty84 (at_castA (at_eltE (fun w1 hw1 => rds_bor g1 w1 hw1) h21 (fun _ _ h => h)) rfl) rfl) ?_
        obtain ⟨y22, h23, H⟩ := of_bind H
        refine ow_q rfl rfl (dstOk_lt rfl) (qy_call rfl fn70 rfl (fun w1 hw1 => laws_eqPair_ok w1 (p0 := e18) (p1 := e20) h23)) (fun _ _ => trivial) ?_
        refine ow_batch [.p] rfl ?_
        refine ow_nilQ ?_
        refine x_qs ?_
        refine c_if rfl (fun hb => ?_) (fun hb => ?_)
        · have H := of_if_t hb H
          refine c_seq ?_
          refine c_reg ?_
          refine ow_batch [.p] rfl ?_
          refine ow_nil ?_
          refine x_qs ?_
          refine c_ret ?_
          refine x_qb_ret ?_
          refine x_qs_ret ?_
          refine x_ql_ret ?_
          refine x_qb_ret ?_
          refine x_qs_ret ?_
          exact x_retR (rs := [.tmp 4]) (vs := [.bool false]) rfl ⟨rfl, trivial⟩ (fun w' hw' => by
              obtain rfl := of_some H
              exact ⟨rfl, hw'.ext⟩)
        · have H := of_if_f hb H
          refine c_skip ?_
          refine x_qb ?_
          refine x_qs ?_
          refine c_reg ?_
          refine ow_batch [.p, .p, .p] rfl ?_
          refine ow_nil ?_
          exact x_ql (RW.at (ihk1 (IntKind.i64.wrap (i9 + 1)) (H)) (fun _ h => St.sel [] rfl rfl h) ⟨rfl, rfl, rfl, trivial⟩)
      · have H := of_if_f hb H
        refine c_exit ?_
        refine x_qs_exit ?_
        refine x_ql_exit ?_
        refine x_qb_here ?_
        refine x_qs ?_
        refine c_seq ?_
        refine c_reg ?_
        refine ow_batch [.p] rfl ?_
        refine ow_nil ?_
        refine x_qs ?_
        refine c_ret ?_
        exact x_retR (rs := [.tmp 4]) (vs := [.bool true]) rfl ⟨rfl, trivial⟩ (fun w' hw' => by
            obtain rfl := of_some H
            exact ⟨rfl, hw'.ext⟩)

set_option maxHeartbeats 4000000 in
set_option maxRecDepth 100000 in
theorem laws_eqScore_ok (w : World) {p0 : Timpl_Score} {p1 : Timpl_Score} {cs0 : List Value} {cs1 : List Value} {r : Bool} (H : laws_eqScore p0 p1 = some r)  (g0 : (eTimpl_Score).rd w [] p0 cs0) (g1 : (eTimpl_Score).rd w [] p1 cs1) :
    Calls Try.prog 23 #[.agg cs0.toArray, .agg cs1.toArray] w (fun en w' => en = .returned (.bool r) ∧ Ext [] w w') := by
  obtain ⟨c1, c2, rfl, g3, g4⟩ := rdo_Timpl_Score g0
  obtain ⟨a5, c6, rfl⟩ := rd_sl1 g3
  obtain ⟨a7, c8, rfl⟩ := rd_sl1 g4
  obtain ⟨c9, c10, rfl, g11, g12⟩ := rdo_Timpl_Score g1
  obtain ⟨a13, c14, rfl⟩ := rd_sl1 g11
  obtain ⟨a15, c16, rfl⟩ := rd_sl1 g12
  unfold laws_eqScore at H
  refine f_enter (vs := [.agg #[.slice a5 p0.Table_.length c6, .slice a7 p0.Last_.length c8], .agg #[.slice a13 p1.Table_.length c14, .slice a15 p1.Last_.length c16]]) Try.func23 rfl Try.ntmps23 rfl (St.init w []) ?_
  refine c_seq ?_
  refine c_reg ?_
  refine ow_box (cs := [.slice a5 p0.Table_.length c6, .slice a7 p0.Last_.length c8]) rfl rfl rfl rfl rfl rfl (fun _ => kp) (fun b17 => ?_)
  refine ow_box (cs := [.slice a13 p1.Table_.length c14, .slice a15 p1.Last_.length c16]) rfl rfl rfl rfl rfl rfl (fun _ => kp) (fun b18 => ?_)
  refine ow_batch [.p] rfl ?_
  refine ow_nil ?_
  refine x_qs ?_
  refine c_seq ?_
  refine c_seq ?_
  refine c_reg ?_
  refine ow_batch [.fa 52 0 0 fa52_0] rfl ?_
  refine ow_r rfl (dstOk_lt rfl) (ry_box1 (off := 0) rfl rfl ty33 (boxIn (i := 0) rfl) rfl) ?_
  refine ow_batch [.fa 52 0 0 fa52_0] rfl ?_
  refine ow_r rfl (dstOk_lt rfl) (ry_box1 (off := 0) rfl rfl ty33 (boxIn (i := 1) rfl) rfl) ?_
  obtain ⟨y19, h20, H⟩ := of_bind H
  refine ow_q rfl rfl (dstOk_lt rfl) (qy_call rfl fn44 rfl (fun w1 hw1 => laws_eqIntSS_ok w1  h20 (rds_bor g3 w1 hw1) (rds_bor g11 w1 hw1))) (fun _ _ => trivial) ?_
  refine ow_batch [.p] rfl ?_
  refine ow_nil ?_
  refine x_qs ?_
  refine c_if rfl (fun hb => ?_) (fun hb => ?_)
  · have H := of_if_t hb H
    refine c_seq ?_
    refine c_reg ?_
    refine ow_batch [.p] rfl ?_
    refine ow_nil ?_
    refine x_qs ?_
    refine c_ret ?_
    refine x_qs_ret ?_
    exact x_retR (rs := [.tmp 4]) (vs := [.bool false]) rfl ⟨rfl, trivial⟩ (fun w' hw' => by
        obtain rfl := of_some H
        exact ⟨rfl, hw'.ext⟩)
  · have H := of_if_f hb H
    refine c_skip ?_
    refine x_qs ?_
    refine c_seq ?_
    refine c_seq ?_
    refine c_reg ?_
    refine ow_batch [.fa 52 1 1 fa52_1] rfl ?_
    refine ow_r rfl (dstOk_lt rfl) (ry_box1 (off := 1) rfl rfl ty50 (boxIn (i := 0) rfl) rfl) ?_
    refine ow_batch [.fa 52 1 1 fa52_1] rfl ?_
    refine ow_r rfl (dstOk_lt rfl) (ry_box1 (off := 1) rfl rfl ty50 (boxIn (i := 1) rfl) rfl) ?_
    obtain ⟨y21, h22, H⟩ := of_bind H
    refine ow_q rfl rfl (dstOk_lt rfl) (qy_call rfl fn45 rfl (fun w1 hw1 => laws_eqPairS_ok w1  h22 (rds_bor g4 w1 hw1) (rds_bor g12 w1 hw1))) (fun _ _ => trivial) ?_
    refine ow_batch [.p] rfl ?_
    refine ow_nil ?_
    refine x_qs ?_
    refine c_if rfl (fun hb => ?_) (fun hb => ?_)
    · have H := of_if_t hb H
      refine c_seq ?_
      refine c_reg ?_
      refine ow_batch [.p] rfl ?_
      refine ow_nil ?_
      refine x_qs ?_
      refine c_ret ?_
      refine x_qs_ret ?_
      exact x_retR (rs := [.tmp 4]) (vs := [.bool false]) rfl ⟨rfl, trivial⟩ (fun w' hw' => by
          obtain rfl := of_some H
          exact ⟨rfl, hw'.ext⟩)
    · have H := of_if_f hb H
      refine c_skip ?_
      refine x_qs ?_
      refine c_seq ?_
      refine c_reg ?_
      refine ow_batch [.p] rfl ?_
      refine ow_nil ?_
      refine x_qs ?_
      refine c_ret ?_
      exact x_retR (rs := [.tmp 4]) (vs := [.bool true]) rfl ⟨rfl, trivial⟩ (fun w' hw' => by
          obtain rfl := of_some H
          exact ⟨rfl, hw'.ext⟩)

set_option maxHeartbeats 4000000 in
set_option maxRecDepth 100000 in
theorem laws_eqState_ok (w : World) {p0 : Timpl_State} {p1 : Timpl_State} {cs0 : List Value} {cs1 : List Value} {r : Bool} (H : laws_eqState p0 p1 = some r)  (g0 : (eTimpl_State).rd w [] p0 cs0) (g1 : (eTimpl_State).rd w [] p1 cs1) :
    Calls Try.prog 8 #[.agg cs0.toArray, .agg cs1.toArray] w (fun en w' => en = .returned (.bool r) ∧ Ext [] w w') := by
  obtain ⟨c1, c2, c3, rfl, g4, g5, g6⟩ := rdo_Timpl_State g0
  obtain ⟨c7, c8, c9, c10, c11, c12, c13, rfl, g14, g15, g16, g17, g18, g19, g20⟩ := rdo_Timpl_Conf g4
  obtain ⟨c21, c22, rfl, g23, g24⟩ := rdo_Timpl_Schema g14
  obtain ⟨a25, c26, rfl⟩ := rd_sl1 g23
  obtain ⟨a27, c28, rfl⟩ := rd_sl1 g24
  obtain rfl : c8 = [.int .i64 p0.Conf_.Rule_.Sure_, .int .i64 p0.Conf_.Rule_.Tie_, .int .i64 p0.Conf_.Rule_.Grace_, .int .i64 p0.Conf_.Rule_.Depth_, .int .i64 p0.Conf_.Rule_.Nodes_, .int .i64 p0.Conf_.Rule_.Units_, .bool p0.Conf_.Rule_.Two_] := g15
  obtain rfl : c9 = [.int .i64 p0.Conf_.Members_] := g16
  obtain rfl : c10 = [.int .i64 p0.Conf_.Pick_] := g17
  obtain rfl : c11 = [.int .i64 p0.Conf_.Lambda_] := g18
  obtain rfl : c12 = [.int .i64 p0.Conf_.Warn_] := g19
  obtain rfl : c13 = [.int .i64 p0.Conf_.Drift_] := g20
  obtain ⟨c29, rfl, g30⟩ := rdo_Timpl_Forest g5
  obtain ⟨a31, c32, rfl⟩ := rd_sl1 g30
  obtain ⟨c33, c34, rfl, g35, g36⟩ := rdo_Timpl_Score g6
  obtain ⟨a37, c38, rfl⟩ := rd_sl1 g35
  obtain ⟨a39, c40, rfl⟩ := rd_sl1 g36
  obtain ⟨c41, c42, c43, rfl, g44, g45, g46⟩ := rdo_Timpl_State g1
  obtain ⟨c47, c48, c49, c50, c51, c52, c53, rfl, g54, g55, g56, g57, g58, g59, g60⟩ := rdo_Timpl_Conf g44
  obtain ⟨c61, c62, rfl, g63, g64⟩ := rdo_Timpl_Schema g54
  obtain ⟨a65, c66, rfl⟩ := rd_sl1 g63
  obtain ⟨a67, c68, rfl⟩ := rd_sl1 g64
  obtain rfl : c48 = [.int .i64 p1.Conf_.Rule_.Sure_, .int .i64 p1.Conf_.Rule_.Tie_, .int .i64 p1.Conf_.Rule_.Grace_, .int .i64 p1.Conf_.Rule_.Depth_, .int .i64 p1.Conf_.Rule_.Nodes_, .int .i64 p1.Conf_.Rule_.Units_, .bool p1.Conf_.Rule_.Two_] := g55
  obtain rfl : c49 = [.int .i64 p1.Conf_.Members_] := g56
  obtain rfl : c50 = [.int .i64 p1.Conf_.Pick_] := g57
  obtain rfl : c51 = [.int .i64 p1.Conf_.Lambda_] := g58
  obtain rfl : c52 = [.int .i64 p1.Conf_.Warn_] := g59
  obtain rfl : c53 = [.int .i64 p1.Conf_.Drift_] := g60
  obtain ⟨c69, rfl, g70⟩ := rdo_Timpl_Forest g45
  obtain ⟨a71, c72, rfl⟩ := rd_sl1 g70
  obtain ⟨c73, c74, rfl, g75, g76⟩ := rdo_Timpl_Score g46
  obtain ⟨a77, c78, rfl⟩ := rd_sl1 g75
  obtain ⟨a79, c80, rfl⟩ := rd_sl1 g76
  unfold laws_eqState at H
  refine f_enter (vs := [.agg #[.slice a25 p0.Conf_.Schema_.Attrs_.length c26, .slice a27 p0.Conf_.Schema_.Classes_.length c28, .int .i64 p0.Conf_.Rule_.Sure_, .int .i64 p0.Conf_.Rule_.Tie_, .int .i64 p0.Conf_.Rule_.Grace_, .int .i64 p0.Conf_.Rule_.Depth_, .int .i64 p0.Conf_.Rule_.Nodes_, .int .i64 p0.Conf_.Rule_.Units_, .bool p0.Conf_.Rule_.Two_, .int .i64 p0.Conf_.Members_, .int .i64 p0.Conf_.Pick_, .int .i64 p0.Conf_.Lambda_, .int .i64 p0.Conf_.Warn_, .int .i64 p0.Conf_.Drift_, .slice a31 p0.Forest_.Members_.length c32, .slice a37 p0.Score_.Table_.length c38, .slice a39 p0.Score_.Last_.length c40], .agg #[.slice a65 p1.Conf_.Schema_.Attrs_.length c66, .slice a67 p1.Conf_.Schema_.Classes_.length c68, .int .i64 p1.Conf_.Rule_.Sure_, .int .i64 p1.Conf_.Rule_.Tie_, .int .i64 p1.Conf_.Rule_.Grace_, .int .i64 p1.Conf_.Rule_.Depth_, .int .i64 p1.Conf_.Rule_.Nodes_, .int .i64 p1.Conf_.Rule_.Units_, .bool p1.Conf_.Rule_.Two_, .int .i64 p1.Conf_.Members_, .int .i64 p1.Conf_.Pick_, .int .i64 p1.Conf_.Lambda_, .int .i64 p1.Conf_.Warn_, .int .i64 p1.Conf_.Drift_, .slice a71 p1.Forest_.Members_.length c72, .slice a77 p1.Score_.Table_.length c78, .slice a79 p1.Score_.Last_.length c80]]) Try.func8 rfl Try.ntmps8 rfl (St.init w []) ?_
  refine c_seq ?_
  refine c_reg ?_
  refine ow_box (cs := [.slice a25 p0.Conf_.Schema_.Attrs_.length c26, .slice a27 p0.Conf_.Schema_.Classes_.length c28, .int .i64 p0.Conf_.Rule_.Sure_, .int .i64 p0.Conf_.Rule_.Tie_, .int .i64 p0.Conf_.Rule_.Grace_, .int .i64 p0.Conf_.Rule_.Depth_, .int .i64 p0.Conf_.Rule_.Nodes_, .int .i64 p0.Conf_.Rule_.Units_, .bool p0.Conf_.Rule_.Two_, .int .i64 p0.Conf_.Members_, .int .i64 p0.Conf_.Pick_, .int .i64 p0.Conf_.Lambda_, .int .i64 p0.Conf_.Warn_, .int .i64 p0.Conf_.Drift_, .slice a31 p0.Forest_.Members_.length c32, .slice a37 p0.Score_.Table_.length c38, .slice a39 p0.Score_.Last_.length c40]) rfl rfl rfl rfl rfl rfl (fun _ => kp) (fun b81 => ?_)
  refine ow_box (cs := [.slice a65 p1.Conf_.Schema_.Attrs_.length c66, .slice a67 p1.Conf_.Schema_.Classes_.length c68, .int .i64 p1.Conf_.Rule_.Sure_, .int .i64 p1.Conf_.Rule_.Tie_, .int .i64 p1.Conf_.Rule_.Grace_, .int .i64 p1.Conf_.Rule_.Depth_, .int .i64 p1.Conf_.Rule_.Nodes_, .int .i64 p1.Conf_.Rule_.Units_, .bool p1.Conf_.Rule_.Two_, .int .i64 p1.Conf_.Members_, .int .i64 p1.Conf_.Pick_, .int .i64 p1.Conf_.Lambda_, .int .i64 p1.Conf_.Warn_, .int .i64 p1.Conf_.Drift_, .slice a71 p1.Forest_.Members_.length c72, .slice a77 p1.Score_.Table_.length c78, .slice a79 p1.Score_.Last_.length c80]) rfl rfl rfl rfl rfl rfl (fun _ => kp) (fun b82 => ?_)
  refine ow_batch [.p] rfl ?_
  refine ow_nil ?_
  refine x_qs ?_
  refine c_seq ?_
  refine c_seq ?_
  refine c_reg ?_
  refine ow_batch [.fa 54 0 0 fa54_0] rfl ?_
  refine ow_r rfl (dstOk_lt rfl) (ry_box (off := 0) (ds := [.slice a25 p0.Conf_.Schema_.Attrs_.length c26, .slice a27 p0.Conf_.Schema_.Classes_.length c28, .int .i64 p0.Conf_.Rule_.Sure_, .int .i64 p0.Conf_.Rule_.Tie_, .int .i64 p0.Conf_.Rule_.Grace_, .int .i64 p0.Conf_.Rule_.Depth_, .int .i64 p0.Conf_.Rule_.Nodes_, .int .i64 p0.Conf_.Rule_.Units_, .bool p0.Conf_.Rule_.Two_, .int .i64 p0.Conf_.Members_, .int .i64 p0.Conf_.Pick_, .int .i64 p0.Conf_.Lambda_, .int .i64 p0.Conf_.Warn_, .int .i64 p0.Conf_.Drift_]) rfl rfl ty46 (boxIn (i := 0) rfl) rfl rfl) ?_
  refine ow_batch [.fa 54 0 0 fa54_0] rfl ?_
  refine ow_r rfl (dstOk_lt rfl) (ry_box (off := 0) (ds := [.slice a65 p1.Conf_.Schema_.Attrs_.length c66, .slice a67 p1.Conf_.Schema_.Classes_.length c68, .int .i64 p1.Conf_.Rule_.Sure_, .int .i64 p1.Conf_.Rule_.Tie_, .int .i64 p1.Conf_.Rule_.Grace_, .int .i64 p1.Conf_.Rule_.Depth_, .int .i64 p1.Conf_.Rule_.Nodes_, .int .i64 p1.Conf_.Rule_.Units_, .bool p1.Conf_.Rule_.Two_, .int .i64 p1.Conf_.Members_, .int .i64 p1.Conf_.Pick_, .int .i64 p1.Conf_.Lambda_, .int .i64 p1.Conf_.Warn_, .int .i64 p1.Conf_.Drift_]) rfl rfl ty46 (boxIn (i := 1) rfl) rfl rfl) ?_
  obtain ⟨y83, h84, H⟩ := of_bind H
  refine ow_q rfl rfl (dstOk_lt rfl) (qy_call rfl fn21 rfl (fun w1 hw1 => laws_eqConf_ok w1 (cs0 := [.slice a25 p0.Conf_.Schema_.Attrs_.length c26, .slice a27 p0.Conf_.Schema_.Classes_.length c28, .int .i64 p0.Conf_.Rule_.Sure_, .int .i64 p0.Conf_.Rule_.Tie_, .int .i64 p0.Conf_.Rule_.Grace_, .int .i64 p0.Conf_.Rule_.Depth_, .int .i64 p0.Conf_.Rule_.Nodes_, .int .i64 p0.Conf_.Rule_.Units_, .bool p0.Conf_.Rule_.Two_, .int .i64 p0.Conf_.Members_, .int .i64 p0.Conf_.Pick_, .int .i64 p0.Conf_.Lambda_, .int .i64 p0.Conf_.Warn_, .int .i64 p0.Conf_.Drift_]) (cs1 := [.slice a65 p1.Conf_.Schema_.Attrs_.length c66, .slice a67 p1.Conf_.Schema_.Classes_.length c68, .int .i64 p1.Conf_.Rule_.Sure_, .int .i64 p1.Conf_.Rule_.Tie_, .int .i64 p1.Conf_.Rule_.Grace_, .int .i64 p1.Conf_.Rule_.Depth_, .int .i64 p1.Conf_.Rule_.Nodes_, .int .i64 p1.Conf_.Rule_.Units_, .bool p1.Conf_.Rule_.Two_, .int .i64 p1.Conf_.Members_, .int .i64 p1.Conf_.Pick_, .int .i64 p1.Conf_.Lambda_, .int .i64 p1.Conf_.Warn_, .int .i64 p1.Conf_.Drift_]) h84 (rdm_Timpl_Conf (x := p0.Conf_) (c0 := [.slice a25 p0.Conf_.Schema_.Attrs_.length c26, .slice a27 p0.Conf_.Schema_.Classes_.length c28]) (c1 := [.int .i64 p0.Conf_.Rule_.Sure_, .int .i64 p0.Conf_.Rule_.Tie_, .int .i64 p0.Conf_.Rule_.Grace_, .int .i64 p0.Conf_.Rule_.Depth_, .int .i64 p0.Conf_.Rule_.Nodes_, .int .i64 p0.Conf_.Rule_.Units_, .bool p0.Conf_.Rule_.Two_]) (c2 := [.int .i64 p0.Conf_.Members_]) (c3 := [.int .i64 p0.Conf_.Pick_]) (c4 := [.int .i64 p0.Conf_.Lambda_]) (c5 := [.int .i64 p0.Conf_.Warn_]) (c6 := [.int .i64 p0.Conf_.Drift_]) (rdm_Timpl_Schema (x := p0.Conf_.Schema_) (c0 := [.slice a25 p0.Conf_.Schema_.Attrs_.length c26]) (c1 := [.slice a27 p0.Conf_.Schema_.Classes_.length c28]) (rds_bor g23 w1 hw1) (rds_bor g24 w1 hw1)) rfl rfl rfl rfl rfl rfl) (rdm_Timpl_Conf (x := p1.Conf_) (c0 := [.slice a65 p1.Conf_.Schema_.Attrs_.length c66, .slice a67 p1.Conf_.Schema_.Classes_.length c68]) (c1 := [.int .i64 p1.Conf_.Rule_.Sure_, .int .i64 p1.Conf_.Rule_.Tie_, .int .i64 p1.Conf_.Rule_.Grace_, .int .i64 p1.Conf_.Rule_.Depth_, .int .i64 p1.Conf_.Rule_.Nodes_, .int .i64 p1.Conf_.Rule_.Units_, .bool p1.Conf_.Rule_.Two_]) (c2 := [.int .i64 p1.Conf_.Members_]) (c3 := [.int .i64 p1.Conf_.Pick_]) (c4 := [.int .i64 p1.Conf_.Lambda_]) (c5 := [.int .i64 p1.Conf_.Warn_]) (c6 := [.int .i64 p1.Conf_.Drift_]) (rdm_Timpl_Schema (x := p1.Conf_.Schema_) (c0 := [.slice a65 p1.Conf_.Schema_.Attrs_.length c66]) (c1 := [.slice a67 p1.Conf_.Schema_.Classes_.length c68]) (rds_bor g63 w1 hw1) (rds_bor g64 w1 hw1)) rfl rfl rfl rfl rfl rfl))) (fun _ _ => trivial) ?_
  refine ow_batch [.p] rfl ?_
  refine ow_nil ?_
  refine x_qs ?_
  refine c_if rfl (fun hb => ?_) (fun hb => ?_)
  · have H := of_if_t hb H
    refine c_seq ?_
    refine c_reg ?_
    refine ow_batch [.p] rfl ?_
    refine ow_nil ?_
    refine x_qs ?_
    refine c_ret ?_
    refine x_qs_ret ?_
    exact x_retR (rs := [.tmp 4]) (vs := [.bool false]) rfl ⟨rfl, trivial⟩ (fun w' hw' => by
        obtain rfl := of_some H
        exact ⟨rfl, hw'.ext⟩)
  · have H := of_if_f hb H
    refine c_skip ?_
    refine x_qs ?_
    refine c_seq ?_
    refine c_seq ?_
    refine c_reg ?_
    refine ow_batch [.fa 54 1 14 fa54_1] rfl ?_
    refine ow_r rfl (dstOk_lt rfl) (ry_box (off := 14) (ds := [.slice a31 p0.Forest_.Members_.length c32]) rfl rfl ty49 (boxIn (i := 0) rfl) rfl rfl) ?_
    refine ow_batch [.fa 54 1 14 fa54_1] rfl ?_
    refine ow_r rfl (dstOk_lt rfl) (ry_box (off := 14) (ds := [.slice a71 p1.Forest_.Members_.length c72]) rfl rfl ty49 (boxIn (i := 1) rfl) rfl rfl) ?_
    obtain ⟨y85, h86, H⟩ := of_bind H
    refine ow_q rfl rfl (dstOk_lt rfl) (qy_call rfl fn22 rfl (fun w1 hw1 => laws_eqForest_ok w1 (cs0 := [.slice a31 p0.Forest_.Members_.length c32]) (cs1 := [.slice a71 p1.Forest_.Members_.length c72]) h86 (rdm_Timpl_Forest (x := p0.Forest_) (c0 := [.slice a31 p0.Forest_.Members_.length c32]) (rds_bor g30 w1 hw1)) (rdm_Timpl_Forest (x := p1.Forest_) (c0 := [.slice a71 p1.Forest_.Members_.length c72]) (rds_bor g70 w1 hw1)))) (fun _ _ => trivial) ?_
    refine ow_batch [.p] rfl ?_
    refine ow_nil ?_
    refine x_qs ?_
    refine c_if rfl (fun hb => ?_) (fun hb => ?_)
    · have H := of_if_t hb H
      refine c_seq ?_
      refine c_reg ?_
      refine ow_batch [.p] rfl ?_
      refine ow_nil ?_
      refine x_qs ?_
      refine c_ret ?_
      refine x_qs_ret ?_
      exact x_retR (rs := [.tmp 4]) (vs := [.bool false]) rfl ⟨rfl, trivial⟩ (fun w' hw' => by
          obtain rfl := of_some H
          exact ⟨rfl, hw'.ext⟩)
    · have H := of_if_f hb H
      refine c_skip ?_
      refine x_qs ?_
      refine c_seq ?_
      refine c_seq ?_
      refine c_reg ?_
      refine ow_batch [.fa 54 2 15 fa54_2] rfl ?_
      refine ow_r rfl (dstOk_lt rfl) (ry_box (off := 15) (ds := [.slice a37 p0.Score_.Table_.length c38, .slice a39 p0.Score_.Last_.length c40]) rfl rfl ty52 (boxIn (i := 0) rfl) rfl rfl) ?_
      refine ow_batch [.fa 54 2 15 fa54_2] rfl ?_
      refine ow_r rfl (dstOk_lt rfl) (ry_box (off := 15) (ds := [.slice a77 p1.Score_.Table_.length c78, .slice a79 p1.Score_.Last_.length c80]) rfl rfl ty52 (boxIn (i := 1) rfl) rfl rfl) ?_
      obtain ⟨y87, h88, H⟩ := of_bind H
      refine ow_q rfl rfl (dstOk_lt rfl) (qy_call rfl fn23 rfl (fun w1 hw1 => laws_eqScore_ok w1 (cs0 := [.slice a37 p0.Score_.Table_.length c38, .slice a39 p0.Score_.Last_.length c40]) (cs1 := [.slice a77 p1.Score_.Table_.length c78, .slice a79 p1.Score_.Last_.length c80]) h88 (rdm_Timpl_Score (x := p0.Score_) (c0 := [.slice a37 p0.Score_.Table_.length c38]) (c1 := [.slice a39 p0.Score_.Last_.length c40]) (rds_bor g35 w1 hw1) (rds_bor g36 w1 hw1)) (rdm_Timpl_Score (x := p1.Score_) (c0 := [.slice a77 p1.Score_.Table_.length c78]) (c1 := [.slice a79 p1.Score_.Last_.length c80]) (rds_bor g75 w1 hw1) (rds_bor g76 w1 hw1)))) (fun _ _ => trivial) ?_
      refine ow_batch [.p] rfl ?_
      refine ow_nil ?_
      refine x_qs ?_
      refine c_if rfl (fun hb => ?_) (fun hb => ?_)
      · have H := of_if_t hb H
        refine c_seq ?_
        refine c_reg ?_
        refine ow_batch [.p] rfl ?_
        refine ow_nil ?_
        refine x_qs ?_
        refine c_ret ?_
        refine x_qs_ret ?_
        exact x_retR (rs := [.tmp 4]) (vs := [.bool false]) rfl ⟨rfl, trivial⟩ (fun w' hw' => by
            obtain rfl := of_some H
            exact ⟨rfl, hw'.ext⟩)
      · have H := of_if_f hb H
        refine c_skip ?_
        refine x_qs ?_
        refine c_seq ?_
        refine c_reg ?_
        refine ow_batch [.p] rfl ?_
        refine ow_nil ?_
        refine x_qs ?_
        refine c_ret ?_
        exact x_retR (rs := [.tmp 4]) (vs := [.bool true]) rfl ⟨rfl, trivial⟩ (fun w' hw' => by
            obtain rfl := of_some H
            exact ⟨rfl, hw'.ext⟩)

end Go.Vk
