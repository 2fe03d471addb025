/- The code does what the functions of data say. Printed by program. -/

import Derived.Test.YtejneofoabmojaaWWayMeetsA

namespace Go.Vk

open Go.Proofs Go.RowKit



set_option maxHeartbeats 4000000 in
set_option maxRecDepth 100000 in
theorem spec_WayMeets_ok (w : World) {p0 : Timpl_Schema} {p1 : Timpl_Way} {p2 : Timpl_Ex} {cs0 : List Value} {cs1 : List Value} {cs2 : List Value} {r : Bool} (H : spec_WayMeets p0 p1 p2 = some r)  (g0 : (eTimpl_Schema).rd w [] p0 cs0) (g1 : (eTimpl_Way).rd w [] p1 cs1) (g2 : (eTimpl_Ex).rd w [] p2 cs2) :
    Calls Try.prog 29 #[.agg cs0.toArray, .agg cs1.toArray, .agg cs2.toArray] w (fun en w' => en = .returned (.bool r) ∧ Ext [] w w') := by
  obtain ⟨c1, c2, rfl, g3, g4⟩ := rdo_Timpl_Schema g0
  obtain ⟨a5, c6, rfl⟩ := rd_sl1 g3
  obtain ⟨a7, c8, rfl⟩ := rd_sl1 g4
  obtain ⟨c9, c10, rfl, g11, g12⟩ := rdo_Timpl_Way g1
  obtain rfl : c9 = [.int .i64 p1.Leaf_] := g11
  obtain ⟨a13, c14, rfl⟩ := rd_sl1 g12
  obtain ⟨c15, c16, rfl, g17, g18⟩ := rdo_Timpl_Ex g2
  obtain ⟨a19, c20, rfl⟩ := rd_sl1 g17
  obtain rfl : c16 = [.int .i64 p2.Class_] := g18
  unfold spec_WayMeets at H
  refine f_enter (vs := [.agg #[.slice a5 p0.Attrs_.length c6, .slice a7 p0.Classes_.length c8], .agg #[.int .i64 p1.Leaf_, .slice a13 p1.Masks_.length c14], .agg #[.slice a19 p2.Bins_.length c20, .int .i64 p2.Class_]]) Try.func29 rfl Try.ntmps29 rfl (St.init w []) ?_
  refine c_seq ?_
  refine c_reg ?_
  refine ow_box (cs := [.slice a5 p0.Attrs_.length c6, .slice a7 p0.Classes_.length c8]) rfl rfl rfl rfl rfl rfl (fun _ => kp) (fun b21 => ?_)
  refine ow_box (cs := [.int .i64 p1.Leaf_, .slice a13 p1.Masks_.length c14]) rfl rfl rfl rfl rfl rfl (fun _ => kp) (fun b22 => ?_)
  refine ow_box (cs := [.slice a19 p2.Bins_.length c20, .int .i64 p2.Class_]) rfl rfl rfl rfl rfl rfl (fun _ => kp) (fun b23 => ?_)
  refine ow_batch [.p] rfl ?_
  refine ow_nil ?_
  refine x_qs ?_
  refine c_seq ?_
  refine c_seq ?_
  refine c_reg ?_
  refine ow_r rfl (dstOk_lt rfl) (ry_box (off := 0) (ds := [.slice a5 p0.Attrs_.length c6, .slice a7 p0.Classes_.length c8]) rfl rfl ty39 (boxIn (i := 0) rfl) rfl rfl) ?_
  refine ow_r rfl (dstOk_lt rfl) (ry_box (off := 0) (ds := [.int .i64 p1.Leaf_, .slice a13 p1.Masks_.length c14]) rfl rfl ty47 (boxIn (i := 1) rfl) rfl rfl) ?_
  obtain ⟨y24, h25, H⟩ := of_bind H
  refine ow_q rfl rfl (dstOk_lt rfl) (qy_call rfl fn22 rfl (fun w1 hw1 => spec_WayOk_ok w1 (cs0 := [.slice a5 p0.Attrs_.length c6, .slice a7 p0.Classes_.length c8]) (cs1 := [.int .i64 p1.Leaf_, .slice a13 p1.Masks_.length c14]) h25 (rdm_Timpl_Schema (x := p0) (c0 := [.slice a5 p0.Attrs_.length c6]) (c1 := [.slice a7 p0.Classes_.length c8]) (rds_bor g3 w1 hw1) (rds_bor g4 w1 hw1)) (rdm_Timpl_Way (x := p1) (c0 := [.int .i64 p1.Leaf_]) (c1 := [.slice a13 p1.Masks_.length c14]) rfl (rds_bor g12 w1 hw1)))) (fun _ _ => trivial) ?_
  refine ow_batch [.p, .p] rfl ?_
  obtain ⟨u26, hu30, H⟩ := of_bind H
  refine ow_cut [(18, .bool u26), (4, .pointer (some ⟨b22, 0, none⟩)), (5, .pointer (some ⟨b23, 0, none⟩))] 5 ?_ (fun key => OW.sub (R := [(3, .pointer (some ⟨b21, 0, none⟩)), (4, .pointer (some ⟨b22, 0, none⟩)), (5, .pointer (some ⟨b23, 0, none⟩)), (13, .bool (!y24))]) ?_ ⟨rfl, rfl, rfl, rfl, trivial⟩)
  · refine ow_nil ?_
    refine x_qs ?_
    refine c_if rfl (fun hb => ?_) (fun hb => ?_)
    · have H := of_if_t hb H
      refine c_seq ?_
      refine c_reg ?_
      refine ow_batch [.p] rfl ?_
      refine ow_nil ?_
      refine x_qs ?_
      refine c_ret ?_
      refine x_qs_ret ?_
      exact x_retR (rs := [.tmp 6]) (vs := [.bool false]) rfl ⟨rfl, trivial⟩ (fun w' hw' => by
          obtain rfl := of_some H
          exact ⟨rfl, hw'.ext⟩)
    · have H := of_if_f hb H
      refine c_skip ?_
      refine x_qs ?_
      refine c_seq ?_
      refine c_seq ?_
      refine c_reg ?_
      refine ow_batch [.p] rfl ?_
      refine ow_nil ?_
      refine x_qs ?_
      refine c_block ?_
      refine CW.at (loopI1 (fun (i47 : Int) => St w [] [Res.box b22 47 [.int .i64 p1.Leaf_, .slice a13 p1.Masks_.length c14], Res.box b23 56 [.slice a19 p2.Bins_.length c20, .int .i64 p2.Class_]]) (fun (i47 : Int) => [(4, .pointer (some ⟨b22, 0, none⟩)), (5, .pointer (some ⟨b23, 0, none⟩)), (7, .int .i64 i47)]) (fun kk => fun (i47 : Int) => spec_WayMeets_L1 p2 p1 kk i47 = some r) (fun _ H => ?_) (fun k1 ihk1 i47 H => ?_) Fuel (0) (H)) (fun _ h => St.sel [1, 2] rfl rfl h) ⟨rfl, rfl, rfl,  trivial⟩
      · unfold spec_WayMeets_L1 at H
        exact absurd H (by simp)
      · unfold spec_WayMeets_L1 at H
        refine c_seq ?_
        refine c_seq ?_
        refine c_reg ?_
        refine ow_batch [.p, .fa 56 0 0 fa56_0] rfl ?_
        refine ow_r rfl (dstOk_lt rfl) (ry_box1 (off := 0) rfl rfl ty22 (boxIn (i := 1) rfl) rfl) ?_
        refine ow_batch [.lenS 22 3 sl22, .p] rfl ?_
        refine ow_nil ?_
        refine x_qs ?_
        refine c_if rfl (fun hb => ?_) (fun hb => ?_)
        · have H := of_if_t hb H
          refine c_skip ?_
          refine x_qs ?_
          refine c_seq ?_
          refine c_block ?_
          refine c_seq ?_
          refine c_reg ?_
          refine ow_batch [.p] rfl ?_
          refine ow_nil ?_
          refine x_qs ?_
          refine c_join1 (fun (i70 : Int) => St w [] [Res.box b22 47 [.int .i64 p1.Leaf_, .slice a13 p1.Masks_.length c14], Res.box b23 56 [.slice a19 p2.Bins_.length c20, .int .i64 p2.Class_]]) (fun (i70 : Int) => [(4, .pointer (some ⟨b22, 0, none⟩)), (5, .pointer (some ⟨b23, 0, none⟩)), (7, .int .i64 i47), (8, .int .i64 i70)]) (fun (i70 : Int) => spec_WayMeets_J1 p1 i47 (spec_WayMeets_L1 p2 p1 k1) i70 = some r) (fun i70 H => ?_) (fun J1 => ?_)
          · unfold spec_WayMeets_J1 at H
            refine c_seq ?_
            refine c_reg ?_
            refine ow_batch [.fa 47 1 1 fa47_1] rfl ?_
            refine ow_r rfl (dstOk_lt rfl) (ry_box1 (off := 1) rfl rfl ty22 (boxIn (i := 0) rfl) rfl) ?_
            refine ow_batch [.p] rfl ?_
            obtain ⟨e71, h72, H⟩ := of_bind H
            refine ow_ixE (e := eVal (Value.int .i64) (fun _ => rfl)) (xs := p1.Masks_) (j := i47) rfl rfl rfl rfl rfl sl22 ty3 rfl (fun w1 hw1 => rds_bor g12 w1 hw1) h72 (by rw [Nat.mul_one]) ?_
            refine ow_r rfl (dstOk_lt rfl) (ry_load1 rfl rfl ty3 (at_elV (fun w1 hw1 => rds_bor g12 w1 hw1) h72)) ?_
            refine ow_batch [.p, .p, .p] rfl ?_
            refine ow_nil ?_
            refine x_qs ?_
            refine c_if rfl (fun hb => ?_) (fun hb => ?_)
            · have H := of_if_t hb H
              refine c_seq ?_
              refine c_reg ?_
              refine ow_batch [.p] rfl ?_
              refine ow_nil ?_
              refine x_qs ?_
              refine c_ret ?_
              refine x_qb_ret ?_
              refine x_qs_ret ?_
              refine x_ql_ret ?_
              refine x_qb_ret ?_
              refine x_qs_ret ?_
              exact x_retR (rs := [.tmp 6]) (vs := [.bool false]) rfl ⟨rfl, trivial⟩ (fun w' hw' => by
                  obtain rfl := of_some H
                  exact ⟨rfl, hw'.ext⟩)
            · have H := of_if_f hb H
              refine c_skip ?_
              refine x_qb ?_
              refine x_qs ?_
              refine c_reg ?_
              refine ow_batch [.p, .p, .p] rfl ?_
              refine ow_nil ?_
              exact x_ql (RW.at (ihk1 (IntKind.i64.wrap (i47 + 1)) (H)) (fun _ h => St.sel [0, 1] rfl rfl h) ⟨rfl, rfl, rfl, trivial⟩)
          · refine c_seq ?_
            refine c_reg ?_
            refine ow_batch [.fa 56 0 0 fa56_0] rfl ?_
            refine ow_r rfl (dstOk_lt rfl) (ry_box1 (off := 0) rfl rfl ty22 (boxIn (i := 1) rfl) rfl) ?_
            refine ow_batch [.p] rfl ?_
            obtain ⟨e73, h74, H⟩ := of_bind H
            refine ow_ixE (e := eVal (Value.int .i64) (fun _ => rfl)) (xs := p2.Bins_) (j := i47) rfl rfl rfl rfl rfl sl22 ty3 rfl (fun w1 hw1 => rds_bor g17 w1 hw1) h74 (by rw [Nat.mul_one]) ?_
            refine ow_r rfl (dstOk_lt rfl) (ry_load1 rfl rfl ty3 (at_elV (fun w1 hw1 => rds_bor g17 w1 hw1) h74)) ?_
            refine ow_batch [.p] rfl ?_
            refine ow_nil ?_
            refine x_qs ?_
            refine c_if rfl (fun hb => ?_) (fun hb => ?_)
            · have H := of_if_t hb H
              refine c_reg ?_
              refine ow_batch [.fa 56 0 0 fa56_0] rfl ?_
              refine ow_r rfl (dstOk_lt rfl) (ry_box1 (off := 0) rfl rfl ty22 (boxIn (i := 1) rfl) rfl) ?_
              refine ow_batch [.p] rfl ?_
              obtain ⟨e75, h76, H⟩ := of_bind H
              refine ow_ixE (e := eVal (Value.int .i64) (fun _ => rfl)) (xs := p2.Bins_) (j := i47) rfl rfl rfl rfl rfl sl22 ty3 rfl (fun w1 hw1 => rds_bor g17 w1 hw1) h76 (by rw [Nat.mul_one]) ?_
              refine ow_r rfl (dstOk_lt rfl) (ry_load1 rfl rfl ty3 (at_elV (fun w1 hw1 => rds_bor g17 w1 hw1) h76)) ?_
              obtain ⟨y77, h78, H⟩ := of_bind H
              refine ow_q rfl rfl (dstOk_lt rfl) (qy_call rfl fn58 rfl (fun w1 hw1 => spec_l16Power_ok w1  h78)) (fun _ _ => trivial) ?_
              refine ow_batch [.p] rfl ?_
              refine ow_nil ?_
              exact XW.at (J1 (y77) (H)) (fun _ h => St.sel [0, 1] rfl rfl h) ⟨rfl, rfl, rfl, rfl, trivial⟩
            · have H := of_if_f hb H
              refine c_skip ?_
              exact XW.at (J1 (16) (H)) (fun _ h => St.sel [0, 1] rfl rfl h) ⟨rfl, rfl, rfl, rfl, trivial⟩
        · have H := of_if_f hb H
          refine c_exit ?_
          refine x_qs_exit ?_
          refine x_ql_exit ?_
          refine x_qb_here ?_
          refine x_qs ?_
          refine c_seq ?_
          refine c_reg ?_
          refine ow_batch [.p] rfl ?_
          refine ow_nil ?_
          refine x_qs ?_
          refine c_ret ?_
          exact x_retR (rs := [.tmp 6]) (vs := [.bool true]) rfl ⟨rfl, trivial⟩ (fun w' hw' => by
              obtain rfl := of_some H
              exact ⟨rfl, hw'.ext⟩)
  · clear H
    have H := hu30
    clear hu30
    generalize (!y24) = t29 at H ⊢
    cases t29
    · have H := of_if_f rfl H
      refine ow_r rfl (dstOk_lt rfl) (ry_box (off := 0) (ds := [.slice a5 p0.Attrs_.length c6, .slice a7 p0.Classes_.length c8]) rfl rfl ty39 (boxIn (i := 0) rfl) rfl rfl) ?_
      refine ow_r rfl (dstOk_lt rfl) (ry_box (off := 0) (ds := [.slice a19 p2.Bins_.length c20, .int .i64 p2.Class_]) rfl rfl ty56 (boxIn (i := 2) rfl) rfl rfl) ?_
      obtain ⟨y27, h28, H⟩ := of_bind H
      refine ow_q rfl rfl (dstOk_lt rfl) (qy_call rfl fn74 rfl (fun w1 hw1 => spec_ExOk_ok w1 (cs0 := [.slice a5 p0.Attrs_.length c6, .slice a7 p0.Classes_.length c8]) (cs1 := [.slice a19 p2.Bins_.length c20, .int .i64 p2.Class_]) h28 (rdm_Timpl_Schema (x := p0) (c0 := [.slice a5 p0.Attrs_.length c6]) (c1 := [.slice a7 p0.Classes_.length c8]) (rds_bor g3 w1 hw1) (rds_bor g4 w1 hw1)) (rdm_Timpl_Ex (x := p2) (c0 := [.slice a19 p2.Bins_.length c20]) (c1 := [.int .i64 p2.Class_]) (rds_bor g17 w1 hw1) rfl))) (fun _ _ => trivial) ?_
      refine ow_batch [.p] rfl ?_
      refine ow_batch [.p] rfl ?_
      obtain rfl := of_some H
      exact OW.sub key ⟨rfl, rfl, rfl, trivial⟩
    · have H := of_if_t rfl H
      refine ow_batch [.p, .p, .p, .p, .p] rfl ?_
      obtain rfl := of_some H
      exact OW.sub key ⟨rfl, rfl, rfl, trivial⟩

set_option maxHeartbeats 4000000 in
set_option maxRecDepth 100000 in
theorem impl_ExOk_ok (w : World) {p0 : Timpl_Schema} {p1 : Timpl_Ex} {cs0 : List Value} {cs1 : List Value} {r : Bool} (H : impl_ExOk p0 p1 = some r)  (g0 : (eTimpl_Schema).rd w [] p0 cs0) (g1 : (eTimpl_Ex).rd w [] p1 cs1) :
    Calls Try.prog 75 #[.agg cs0.toArray, .agg cs1.toArray] w (fun en w' => en = .returned (.bool r) ∧ Ext [] w w') := by
  obtain ⟨c1, c2, rfl, g3, g4⟩ := rdo_Timpl_Schema g0
  obtain ⟨a5, c6, rfl⟩ := rd_sl1 g3
  obtain ⟨a7, c8, rfl⟩ := rd_sl1 g4
  obtain ⟨c9, c10, rfl, g11, g12⟩ := rdo_Timpl_Ex g1
  obtain ⟨a13, c14, rfl⟩ := rd_sl1 g11
  obtain rfl : c10 = [.int .i64 p1.Class_] := g12
  unfold impl_ExOk at H
  refine f_enter (vs := [.agg #[.slice a5 p0.Attrs_.length c6, .slice a7 p0.Classes_.length c8], .agg #[.slice a13 p1.Bins_.length c14, .int .i64 p1.Class_]]) Try.func75 rfl Try.ntmps75 rfl (St.init w []) ?_
  refine c_seq ?_
  refine c_reg ?_
  refine ow_box (cs := [.slice a5 p0.Attrs_.length c6, .slice a7 p0.Classes_.length c8]) rfl rfl rfl rfl rfl rfl (fun _ => kp) (fun b15 => ?_)
  refine ow_box (cs := [.slice a13 p1.Bins_.length c14, .int .i64 p1.Class_]) rfl rfl rfl rfl rfl rfl (fun _ => kp) (fun b16 => ?_)
  refine ow_batch [.p] rfl ?_
  refine ow_nil ?_
  refine x_qs ?_
  refine c_seq ?_
  refine c_seq ?_
  refine c_reg ?_
  refine ow_r rfl (dstOk_lt rfl) (ry_box (off := 0) (ds := [.slice a5 p0.Attrs_.length c6, .slice a7 p0.Classes_.length c8]) rfl rfl ty39 (boxIn (i := 0) rfl) rfl rfl) ?_
  obtain ⟨y17, h18, H⟩ := of_bind H
  refine ow_q rfl rfl (dstOk_lt rfl) (qy_call rfl fn69 rfl (fun w1 hw1 => impl_SchemaOk_ok w1 (cs0 := [.slice a5 p0.Attrs_.length c6, .slice a7 p0.Classes_.length c8]) h18 (rdm_Timpl_Schema (x := p0) (c0 := [.slice a5 p0.Attrs_.length c6]) (c1 := [.slice a7 p0.Classes_.length c8]) (rds_bor g3 w1 hw1) (rds_bor g4 w1 hw1)))) (fun _ _ => trivial) ?_
  refine ow_batch [.p, .p] rfl ?_
  refine ow_cut [(18, .bool ((!y17) || ((p1.Bins_.length : Int) != (p0.Attrs_.length : Int)))), (2, .pointer (some ⟨b15, 0, none⟩)), (3, .pointer (some ⟨b16, 0, none⟩))] 8 ?_ (fun key => OW.sub (R := [(2, .pointer (some ⟨b15, 0, none⟩)), (3, .pointer (some ⟨b16, 0, none⟩)), (10, .bool (!y17))]) ?_ ⟨rfl, rfl, rfl, trivial⟩)
  · refine ow_batch [.p] rfl ?_
    obtain ⟨u21, hu25, H⟩ := of_bind H
    refine ow_cut [(28, .bool u21), (2, .pointer (some ⟨b15, 0, none⟩)), (3, .pointer (some ⟨b16, 0, none⟩))] 9 ?_ (fun key => OW.sub (R := [(2, .pointer (some ⟨b15, 0, none⟩)), (3, .pointer (some ⟨b16, 0, none⟩)), (19, .bool ((!y17) || ((p1.Bins_.length : Int) != (p0.Attrs_.length : Int))))]) ?_ ⟨rfl, rfl, rfl, trivial⟩)
    · refine ow_nil ?_
      refine x_qs ?_
      refine c_if rfl (fun hb => ?_) (fun hb => ?_)
      · have H := of_if_t hb H
        refine c_seq ?_
        refine c_reg ?_
        refine ow_batch [.p] rfl ?_
        refine ow_nil ?_
        refine x_qs ?_
        refine c_ret ?_
        refine x_qs_ret ?_
        exact x_retR (rs := [.tmp 4]) (vs := [.bool false]) rfl ⟨rfl, trivial⟩ (fun w' hw' => by
            obtain rfl := of_some H
            exact ⟨rfl, hw'.ext⟩)
      · have H := of_if_f hb H
        refine c_skip ?_
        refine x_qs ?_
        refine c_seq ?_
        refine c_seq ?_
        refine c_reg ?_
        refine ow_batch [.fa 56 0 0 fa56_0] rfl ?_
        refine ow_r rfl (dstOk_lt rfl) (ry_box1 (off := 0) rfl rfl ty22 (boxIn (i := 1) rfl) rfl) ?_
        refine ow_batch [.lenS 22 3 sl22, .p] rfl ?_
        refine ow_nil ?_
        refine x_qs ?_
        refine c_block ?_
        refine CW.at (loopI1 (fun (i49 : Int) => St w [] [Res.box b15 39 [.slice a5 p0.Attrs_.length c6, .slice a7 p0.Classes_.length c8]]) (fun (i49 : Int) => [(2, .pointer (some ⟨b15, 0, none⟩)), (30, .slice a13 p1.Bins_.length c14), (31, .int .i64 (p1.Bins_.length : Int)), (32, .int .i64 i49)]) (fun kk => fun (i49 : Int) => impl_ExOk_L1 p1 p0 kk i49 = some r) (fun _ H => ?_) (fun k1 ihk1 i49 H => ?_) Fuel (0) (H)) (fun _ h => St.sel [0] rfl rfl h) ⟨rfl, rfl, rfl, rfl,  trivial⟩
        · unfold impl_ExOk_L1 at H
          exact absurd H (by simp)
        · unfold impl_ExOk_L1 at H
          refine c_seq ?_
          refine c_reg ?_
          refine ow_batch [.p] rfl ?_
          refine ow_nil ?_
          refine x_qs ?_
          refine c_seq ?_
          refine c_if rfl (fun hb => ?_) (fun hb => ?_)
          · have H := of_if_t hb H
            refine c_skip ?_
            refine x_qs ?_
            refine c_seq ?_
            refine c_block ?_
            refine c_seq ?_
            refine c_reg ?_
            refine ow_batch [.p] rfl ?_
            obtain ⟨e73, h74, H⟩ := of_bind H
            refine ow_ixE (e := eVal (Value.int .i64) (fun _ => rfl)) (xs := p1.Bins_) (j := i49) rfl rfl rfl rfl rfl sl22 ty3 rfl (fun w1 hw1 => rds_bor g11 w1 hw1) h74 (by rw [Nat.mul_one]) ?_
            refine ow_r rfl (dstOk_lt rfl) (ry_load1 rfl rfl ty3 (at_elV (fun w1 hw1 => rds_bor g11 w1 hw1) h74)) ?_
            refine ow_batch [.p, .p] rfl ?_
            refine ow_nil ?_
            refine x_qs ?_
            refine c_seq ?_
            refine c_reg ?_
            refine ow_batch [.p, .fa 39 0 0 fa39_0] rfl ?_
            refine ow_r rfl (dstOk_lt rfl) (ry_box1 (off := 0) rfl rfl ty37 (boxIn (i := 0) rfl) rfl) ?_
            refine ow_batch [.p] rfl ?_
            obtain ⟨e75, h76, H⟩ := of_bind H
            refine ow_ixB rfl rfl rfl rfl rfl sl37 ty28 rfl g3 h76 (fun q79 c80 hd77 hA78 => ?_)
            obtain ⟨c81, c82, c83, rfl, g84, g85, g86⟩ := rdo_Timpl_Attr hd77
            obtain rfl : c81 = [vS e75.Name_] := g84
            obtain ⟨a87, c88, rfl⟩ := rd_sl1 g85
            obtain ⟨a89, c90, rfl⟩ := rd_sl1 g86
            refine ow_r rfl (dstOk_lt rfl) (ry_load (cs := [vS e75.Name_, .slice a87 e75.Cuts_.length c88, .slice a89 e75.Values_.length c90]) rfl rfl ty28 (at_bor bor hA78) rfl) ?_
            obtain ⟨y91, h92, H⟩ := of_bind H
            refine ow_q rfl rfl (dstOk_lt rfl) (qy_call rfl fn63 rfl (fun w1 hw1 => impl_bins_ok w1 (cs0 := [vS e75.Name_, .slice a87 e75.Cuts_.length c88, .slice a89 e75.Values_.length c90]) h92 (rdm_Timpl_Attr (x := e75) (c0 := [vS e75.Name_]) (c1 := [.slice a87 e75.Cuts_.length c88]) (c2 := [.slice a89 e75.Values_.length c90]) rfl (rds_bor g85 w1 hw1) (rds_bor g86 w1 hw1)))) (fun _ _ => trivial) ?_
            refine ow_batch [.p] rfl ?_
            obtain ⟨y93, h94, H⟩ := of_bind H
            refine ow_q rfl rfl (dstOk_lt rfl) (qy_call rfl fn72 rfl (fun w1 hw1 => impl_within_ok w1  h94)) (fun _ _ => trivial) ?_
            refine ow_batch [.p] rfl ?_
            refine ow_nil ?_
            refine x_qs ?_
            refine c_if rfl (fun hb => ?_) (fun hb => ?_)
            · have H := of_if_t hb H
              refine c_seq ?_
              refine c_reg ?_
              refine ow_batch [.p] rfl ?_
              refine ow_nil ?_
              refine x_qs ?_
              refine c_ret ?_
              refine x_qb_ret ?_
              refine x_qs_ret ?_
              refine x_ql_ret ?_
              refine x_qb_ret ?_
              refine x_qs_ret ?_
              exact x_retR (rs := [.tmp 4]) (vs := [.bool false]) rfl ⟨rfl, trivial⟩ (fun w' hw' => by
                  obtain rfl := of_some H
                  exact ⟨rfl, hw'.ext⟩)
            · have H := of_if_f hb H
              refine c_skip ?_
              refine x_qb ?_
              refine x_qs ?_
              refine c_reg ?_
              refine ow_batch [.p, .p] rfl ?_
              refine ow_nil ?_
              exact x_ql (RW.at (ihk1 (IntKind.i64.wrap (i49 + 1)) (H)) (fun _ h => St.sel [0] rfl rfl h) ⟨rfl, rfl, rfl, rfl, trivial⟩)
          · have H := of_if_f hb H
            refine c_exit ?_
            refine x_qs_exit ?_
            refine x_ql_exit ?_
            refine x_qb_here ?_
            refine x_qs ?_
            refine c_seq ?_
            refine c_reg ?_
            refine ow_batch [.p] rfl ?_
            refine ow_nil ?_
            refine x_qs ?_
            refine c_ret ?_
            exact x_retR (rs := [.tmp 4]) (vs := [.bool true]) rfl ⟨rfl, trivial⟩ (fun w' hw' => by
                obtain rfl := of_some H
                exact ⟨rfl, hw'.ext⟩)
    · clear H
      have H := hu25
      clear hu25
      generalize ((!y17) || ((p1.Bins_.length : Int) != (p0.Attrs_.length : Int))) = t24 at H ⊢
      cases t24
      · have H := of_if_f rfl H
        refine ow_batch [.fa 56 1 1 fa56_1] rfl ?_
        refine ow_r rfl (dstOk_lt rfl) (ry_box1 (off := 1) rfl rfl ty3 (boxIn (i := 1) rfl) rfl) ?_
        refine ow_batch [.fa 39 1 1 fa39_1] rfl ?_
        refine ow_r rfl (dstOk_lt rfl) (ry_box1 (off := 1) rfl rfl ty23 (boxIn (i := 0) rfl) rfl) ?_
        refine ow_batch [.lenS 23 9 sl23, .p] rfl ?_
        obtain ⟨y22, h23, H⟩ := of_bind H
        refine ow_q rfl rfl (dstOk_lt rfl) (qy_call rfl fn72 rfl (fun w1 hw1 => impl_within_ok w1  h23)) (fun _ _ => trivial) ?_
        refine ow_batch [.p] rfl ?_
        refine ow_batch [.p] rfl ?_
        obtain rfl := of_some H
        exact OW.sub key ⟨rfl, rfl, rfl, trivial⟩
      · have H := of_if_t rfl H
        refine ow_batch [.p, .p, .p, .p, .p, .p, .p, .p, .p] rfl ?_
        obtain rfl := of_some H
        exact OW.sub key ⟨rfl, rfl, rfl, trivial⟩
  · generalize (!y17) = t20 at key ⊢
    cases t20
    · refine ow_batch [.fa 56 0 0 fa56_0] rfl ?_
      refine ow_r rfl (dstOk_lt rfl) (ry_box1 (off := 0) rfl rfl ty22 (boxIn (i := 1) rfl) rfl) ?_
      refine ow_batch [.lenS 22 3 sl22, .fa 39 0 0 fa39_0] rfl ?_
      refine ow_r rfl (dstOk_lt rfl) (ry_box1 (off := 0) rfl rfl ty37 (boxIn (i := 0) rfl) rfl) ?_
      refine ow_batch [.lenS 37 28 sl37, .p] rfl ?_
      refine ow_batch [.p] rfl ?_
      exact OW.sub key ⟨rfl, rfl, rfl, trivial⟩
    · refine ow_batch [.p, .p, .p, .p, .p, .p, .p, .p] rfl ?_
      exact OW.sub key ⟨rfl, rfl, rfl, trivial⟩

set_option maxHeartbeats 4000000 in
set_option maxRecDepth 100000 in
theorem impl_WayMeets_ok (w : World) {p0 : Timpl_Schema} {p1 : Timpl_Way} {p2 : Timpl_Ex} {cs0 : List Value} {cs1 : List Value} {cs2 : List Value} {r : Bool} (H : impl_WayMeets p0 p1 p2 = some r)  (g0 : (eTimpl_Schema).rd w [] p0 cs0) (g1 : (eTimpl_Way).rd w [] p1 cs1) (g2 : (eTimpl_Ex).rd w [] p2 cs2) :
    Calls Try.prog 31 #[.agg cs0.toArray, .agg cs1.toArray, .agg cs2.toArray] w (fun en w' => en = .returned (.bool r) ∧ Ext [] w w') := by
  obtain ⟨c1, c2, rfl, g3, g4⟩ := rdo_Timpl_Schema g0
  obtain ⟨a5, c6, rfl⟩ := rd_sl1 g3
  obtain ⟨a7, c8, rfl⟩ := rd_sl1 g4
  obtain ⟨c9, c10, rfl, g11, g12⟩ := rdo_Timpl_Way g1
  obtain rfl : c9 = [.int .i64 p1.Leaf_] := g11
  obtain ⟨a13, c14, rfl⟩ := rd_sl1 g12
  obtain ⟨c15, c16, rfl, g17, g18⟩ := rdo_Timpl_Ex g2
  obtain ⟨a19, c20, rfl⟩ := rd_sl1 g17
  obtain rfl : c16 = [.int .i64 p2.Class_] := g18
  unfold impl_WayMeets at H
  refine f_enter (vs := [.agg #[.slice a5 p0.Attrs_.length c6, .slice a7 p0.Classes_.length c8], .agg #[.int .i64 p1.Leaf_, .slice a13 p1.Masks_.length c14], .agg #[.slice a19 p2.Bins_.length c20, .int .i64 p2.Class_]]) Try.func31 rfl Try.ntmps31 rfl (St.init w []) ?_
  refine c_seq ?_
  refine c_reg ?_
  refine ow_box (cs := [.slice a5 p0.Attrs_.length c6, .slice a7 p0.Classes_.length c8]) rfl rfl rfl rfl rfl rfl (fun _ => kp) (fun b21 => ?_)
  refine ow_box (cs := [.int .i64 p1.Leaf_, .slice a13 p1.Masks_.length c14]) rfl rfl rfl rfl rfl rfl (fun _ => kp) (fun b22 => ?_)
  refine ow_box (cs := [.slice a19 p2.Bins_.length c20, .int .i64 p2.Class_]) rfl rfl rfl rfl rfl rfl (fun _ => kp) (fun b23 => ?_)
  refine ow_batch [.p] rfl ?_
  refine ow_nil ?_
  refine x_qs ?_
  refine c_seq ?_
  refine c_seq ?_
  refine c_reg ?_
  refine ow_r rfl (dstOk_lt rfl) (ry_box (off := 0) (ds := [.slice a5 p0.Attrs_.length c6, .slice a7 p0.Classes_.length c8]) rfl rfl ty39 (boxIn (i := 0) rfl) rfl rfl) ?_
  refine ow_r rfl (dstOk_lt rfl) (ry_box (off := 0) (ds := [.int .i64 p1.Leaf_, .slice a13 p1.Masks_.length c14]) rfl rfl ty47 (boxIn (i := 1) rfl) rfl rfl) ?_
  obtain ⟨y24, h25, H⟩ := of_bind H
  refine ow_q rfl rfl (dstOk_lt rfl) (qy_call rfl fn24 rfl (fun w1 hw1 => impl_WayOk_ok w1 (cs0 := [.slice a5 p0.Attrs_.length c6, .slice a7 p0.Classes_.length c8]) (cs1 := [.int .i64 p1.Leaf_, .slice a13 p1.Masks_.length c14]) h25 (rdm_Timpl_Schema (x := p0) (c0 := [.slice a5 p0.Attrs_.length c6]) (c1 := [.slice a7 p0.Classes_.length c8]) (rds_bor g3 w1 hw1) (rds_bor g4 w1 hw1)) (rdm_Timpl_Way (x := p1) (c0 := [.int .i64 p1.Leaf_]) (c1 := [.slice a13 p1.Masks_.length c14]) rfl (rds_bor g12 w1 hw1)))) (fun _ _ => trivial) ?_
  refine ow_batch [.p, .p] rfl ?_
  obtain ⟨u26, hu30, H⟩ := of_bind H
  refine ow_cut [(19, .bool u26), (4, .pointer (some ⟨b22, 0, none⟩)), (5, .pointer (some ⟨b23, 0, none⟩))] 5 ?_ (fun key => OW.sub (R := [(3, .pointer (some ⟨b21, 0, none⟩)), (4, .pointer (some ⟨b22, 0, none⟩)), (5, .pointer (some ⟨b23, 0, none⟩)), (14, .bool (!y24))]) ?_ ⟨rfl, rfl, rfl, rfl, trivial⟩)
  · refine ow_nil ?_
    refine x_qs ?_
    refine c_if rfl (fun hb => ?_) (fun hb => ?_)
    · have H := of_if_t hb H
      refine c_seq ?_
      refine c_reg ?_
      refine ow_batch [.p] rfl ?_
      refine ow_nil ?_
      refine x_qs ?_
      refine c_ret ?_
      refine x_qs_ret ?_
      exact x_retR (rs := [.tmp 6]) (vs := [.bool false]) rfl ⟨rfl, trivial⟩ (fun w' hw' => by
          obtain rfl := of_some H
          exact ⟨rfl, hw'.ext⟩)
    · have H := of_if_f hb H
      refine c_skip ?_
      refine x_qs ?_
      refine c_seq ?_
      refine c_seq ?_
      refine c_reg ?_
      refine ow_batch [.fa 56 0 0 fa56_0] rfl ?_
      refine ow_r rfl (dstOk_lt rfl) (ry_box1 (off := 0) rfl rfl ty22 (boxIn (i := 2) rfl) rfl) ?_
      refine ow_batch [.lenS 22 3 sl22, .p] rfl ?_
      refine ow_nil ?_
      refine x_qs ?_
      refine c_block ?_
      refine CW.at (loopI1 (fun (i41 : Int) => St w [] [Res.box b22 47 [.int .i64 p1.Leaf_, .slice a13 p1.Masks_.length c14]]) (fun (i41 : Int) => [(4, .pointer (some ⟨b22, 0, none⟩)), (21, .slice a19 p2.Bins_.length c20), (22, .int .i64 (p2.Bins_.length : Int)), (23, .int .i64 i41)]) (fun kk => fun (i41 : Int) => impl_WayMeets_L1 p2 p1 kk i41 = some r) (fun _ H => ?_) (fun k1 ihk1 i41 H => ?_) Fuel (0) (H)) (fun _ h => St.sel [1] rfl rfl h) ⟨rfl, rfl, rfl, rfl,  trivial⟩
      · unfold impl_WayMeets_L1 at H
        exact absurd H (by simp)
      · unfold impl_WayMeets_L1 at H
        refine c_seq ?_
        refine c_reg ?_
        refine ow_batch [.p] rfl ?_
        refine ow_nil ?_
        refine x_qs ?_
        refine c_seq ?_
        refine c_if rfl (fun hb => ?_) (fun hb => ?_)
        · have H := of_if_t hb H
          refine c_skip ?_
          refine x_qs ?_
          refine c_seq ?_
          refine c_block ?_
          refine c_seq ?_
          refine c_reg ?_
          refine ow_batch [.p] rfl ?_
          obtain ⟨e52, h53, H⟩ := of_bind H
          refine ow_ixE (e := eVal (Value.int .i64) (fun _ => rfl)) (xs := p2.Bins_) (j := i41) rfl rfl rfl rfl rfl sl22 ty3 rfl (fun w1 hw1 => rds_bor g17 w1 hw1) h53 (by rw [Nat.mul_one]) ?_
          refine ow_r rfl (dstOk_lt rfl) (ry_load1 rfl rfl ty3 (at_elV (fun w1 hw1 => rds_bor g17 w1 hw1) h53)) ?_
          refine ow_batch [.p, .p] rfl ?_
          refine ow_nil ?_
          refine x_qs ?_
          refine c_seq ?_
          refine c_reg ?_
          refine ow_batch [.p] rfl ?_
          refine ow_nil ?_
          refine x_qs ?_
          refine c_join1 (fun (i56 : Int) => St w [] [Res.box b22 47 [.int .i64 p1.Leaf_, .slice a13 p1.Masks_.length c14]]) (fun (i56 : Int) => [(4, .pointer (some ⟨b22, 0, none⟩)), (7, .int .i64 i41), (9, .int .i64 i56), (21, .slice a19 p2.Bins_.length c20), (22, .int .i64 (p2.Bins_.length : Int)), (23, .int .i64 i41)]) (fun (i56 : Int) => impl_WayMeets_J1 p1 i41 (impl_WayMeets_L1 p2 p1 k1) i56 = some r) (fun i56 H => ?_) (fun J1 => ?_)
          · unfold impl_WayMeets_J1 at H
            refine c_seq ?_
            refine c_reg ?_
            refine ow_batch [.fa 47 1 1 fa47_1] rfl ?_
            refine ow_r rfl (dstOk_lt rfl) (ry_box1 (off := 1) rfl rfl ty22 (boxIn (i := 0) rfl) rfl) ?_
            refine ow_batch [.p] rfl ?_
            obtain ⟨e57, h58, H⟩ := of_bind H
            refine ow_ixE (e := eVal (Value.int .i64) (fun _ => rfl)) (xs := p1.Masks_) (j := i41) rfl rfl rfl rfl rfl sl22 ty3 rfl (fun w1 hw1 => rds_bor g12 w1 hw1) h58 (by rw [Nat.mul_one]) ?_
            refine ow_r rfl (dstOk_lt rfl) (ry_load1 rfl rfl ty3 (at_elV (fun w1 hw1 => rds_bor g12 w1 hw1) h58)) ?_
            refine ow_batch [.p, .p, .p] rfl ?_
            refine ow_nil ?_
            refine x_qs ?_
            refine c_if rfl (fun hb => ?_) (fun hb => ?_)
            · have H := of_if_t hb H
              refine c_seq ?_
              refine c_reg ?_
              refine ow_batch [.p] rfl ?_
              refine ow_nil ?_
              refine x_qs ?_
              refine c_ret ?_
              refine x_qb_ret ?_
              refine x_qs_ret ?_
              refine x_ql_ret ?_
              refine x_qb_ret ?_
              refine x_qs_ret ?_
              exact x_retR (rs := [.tmp 6]) (vs := [.bool false]) rfl ⟨rfl, trivial⟩ (fun w' hw' => by
                  obtain rfl := of_some H
                  exact ⟨rfl, hw'.ext⟩)
            · have H := of_if_f hb H
              refine c_skip ?_
              refine x_qb ?_
              refine x_qs ?_
              refine c_reg ?_
              refine ow_batch [.p, .p] rfl ?_
              refine ow_nil ?_
              exact x_ql (RW.at (ihk1 (IntKind.i64.wrap (i41 + 1)) (H)) (fun _ h => St.sel [0] rfl rfl h) ⟨rfl, rfl, rfl, rfl, trivial⟩)
          · refine c_seq ?_
            refine c_reg ?_
            refine ow_batch [.p, .p] rfl ?_
            refine ow_nil ?_
            refine x_qs ?_
            refine c_if rfl (fun hb => ?_) (fun hb => ?_)
            · have H := of_if_t hb H
              refine c_reg ?_
              refine ow_batch [.p] rfl ?_
              obtain ⟨x59, h60, H⟩ := of_bind H
              refine ow_r rfl (dstOk_lt rfl) (ry_shl rfl rfl rfl h60) ?_
              refine ow_batch [.p] rfl ?_
              refine ow_nil ?_
              exact XW.at (J1 (x59) (H)) (fun _ h => St.sel [0] rfl rfl h) ⟨rfl, rfl, rfl, rfl, rfl, rfl, trivial⟩
            · have H := of_if_f hb H
              refine c_skip ?_
              exact XW.at (J1 (16) (H)) (fun _ h => St.sel [0] rfl rfl h) ⟨rfl, rfl, rfl, rfl, rfl, rfl, trivial⟩
        · have H := of_if_f hb H
          refine c_exit ?_
          refine x_qs_exit ?_
          refine x_ql_exit ?_
          refine x_qb_here ?_
          refine x_qs ?_
          refine c_seq ?_
          refine c_reg ?_
          refine ow_batch [.p] rfl ?_
          refine ow_nil ?_
          refine x_qs ?_
          refine c_ret ?_
          exact x_retR (rs := [.tmp 6]) (vs := [.bool true]) rfl ⟨rfl, trivial⟩ (fun w' hw' => by
              obtain rfl := of_some H
              exact ⟨rfl, hw'.ext⟩)
  · clear H
    have H := hu30
    clear hu30
    generalize (!y24) = t29 at H ⊢
    cases t29
    · have H := of_if_f rfl H
      refine ow_r rfl (dstOk_lt rfl) (ry_box (off := 0) (ds := [.slice a5 p0.Attrs_.length c6, .slice a7 p0.Classes_.length c8]) rfl rfl ty39 (boxIn (i := 0) rfl) rfl rfl) ?_
      refine ow_r rfl (dstOk_lt rfl) (ry_box (off := 0) (ds := [.slice a19 p2.Bins_.length c20, .int .i64 p2.Class_]) rfl rfl ty56 (boxIn (i := 2) rfl) rfl rfl) ?_
      obtain ⟨y27, h28, H⟩ := of_bind H
      refine ow_q rfl rfl (dstOk_lt rfl) (qy_call rfl fn75 rfl (fun w1 hw1 => impl_ExOk_ok w1 (cs0 := [.slice a5 p0.Attrs_.length c6, .slice a7 p0.Classes_.length c8]) (cs1 := [.slice a19 p2.Bins_.length c20, .int .i64 p2.Class_]) h28 (rdm_Timpl_Schema (x := p0) (c0 := [.slice a5 p0.Attrs_.length c6]) (c1 := [.slice a7 p0.Classes_.length c8]) (rds_bor g3 w1 hw1) (rds_bor g4 w1 hw1)) (rdm_Timpl_Ex (x := p2) (c0 := [.slice a19 p2.Bins_.length c20]) (c1 := [.int .i64 p2.Class_]) (rds_bor g17 w1 hw1) rfl))) (fun _ _ => trivial) ?_
      refine ow_batch [.p] rfl ?_
      refine ow_batch [.p] rfl ?_
      obtain rfl := of_some H
      exact OW.sub key ⟨rfl, rfl, rfl, trivial⟩
    · have H := of_if_t rfl H
      refine ow_batch [.p, .p, .p, .p, .p] rfl ?_
      obtain rfl := of_some H
      exact OW.sub key ⟨rfl, rfl, rfl, trivial⟩

set_option maxHeartbeats 4000000 in
set_option maxRecDepth 100000 in
theorem laws_FnExactWayMeets_ok (w : World) {p0 : Tlaws_Schema} {p1 : Tlaws_Way} {p2 : Tlaws_Ex} {cs0 : List Value} {cs1 : List Value} {cs2 : List Value} {r : Bool} (H : laws_FnExactWayMeets p0 p1 p2 = some r)  (g0 : (eTlaws_Schema).rd w [] p0 cs0) (g1 : (eTlaws_Way).rd w [] p1 cs1) (g2 : (eTlaws_Ex).rd w [] p2 cs2) :
    Calls Try.prog 7 #[.agg cs0.toArray, .agg cs1.toArray, .agg cs2.toArray] w (fun en w' => en = .returned (.bool r) ∧ Ext [] w w') := by
  obtain ⟨c1, c2, rfl, g3, g4⟩ := rdo_Tlaws_Schema g0
  obtain ⟨a5, c6, rfl⟩ := rd_sl1 g3
  obtain ⟨a7, c8, rfl⟩ := rd_sl1 g4
  obtain ⟨c9, c10, rfl, g11, g12⟩ := rdo_Tlaws_Way g1
  obtain rfl : c9 = [.int .i64 p1.Leaf_] := g11
  obtain ⟨a13, c14, rfl⟩ := rd_sl1 g12
  obtain ⟨c15, c16, rfl, g17, g18⟩ := rdo_Tlaws_Ex g2
  obtain ⟨a19, c20, rfl⟩ := rd_sl1 g17
  obtain rfl : c16 = [.int .i64 p2.Class_] := g18
  unfold laws_FnExactWayMeets at H
  refine f_enter (vs := [.agg #[.slice a5 p0.Attrs_.length c6, .slice a7 p0.Classes_.length c8], .agg #[.int .i64 p1.Leaf_, .slice a13 p1.Masks_.length c14], .agg #[.slice a19 p2.Bins_.length c20, .int .i64 p2.Class_]]) Try.func7 rfl Try.ntmps7 rfl (St.init w []) ?_
  refine c_seq ?_
  refine c_reg ?_
  refine ow_box (cs := [.slice a5 p0.Attrs_.length c6, .slice a7 p0.Classes_.length c8]) rfl rfl rfl rfl rfl rfl (fun _ => kp) (fun b21 => ?_)
  refine ow_box (cs := [.int .i64 p1.Leaf_, .slice a13 p1.Masks_.length c14]) rfl rfl rfl rfl rfl rfl (fun _ => kp) (fun b22 => ?_)
  refine ow_box (cs := [.slice a19 p2.Bins_.length c20, .int .i64 p2.Class_]) rfl rfl rfl rfl rfl rfl (fun _ => kp) (fun b23 => ?_)
  refine ow_batch [.p] rfl ?_
  refine ow_nil ?_
  refine x_qs ?_
  refine c_seq ?_
  refine c_reg ?_
  refine ow_batch [.p] rfl ?_
  refine ow_nil ?_
  refine x_qs ?_
  refine c_seq ?_
  refine c_reg ?_
  refine ow_r rfl (dstOk_lt rfl) (ry_box (off := 0) (ds := [.slice a5 p0.Attrs_.length c6, .slice a7 p0.Classes_.length c8]) rfl rfl ty34 (boxIn (i := 0) rfl) rfl rfl) ?_
  refine ow_batch [.p] rfl ?_
  obtain ⟨y24, h25, H⟩ := of_bind H
  refine ow_q rfl rfl (dstOk_lt rfl) (qy_call rfl fn16 rfl (fun w1 hw1 => laws_szSchema_ok w1 (cs0 := [.slice a5 p0.Attrs_.length c6, .slice a7 p0.Classes_.length c8]) h25 (rdm_Tlaws_Schema (x := p0) (c0 := [.slice a5 p0.Attrs_.length c6]) (c1 := [.slice a7 p0.Classes_.length c8]) (rds_bor g3 w1 hw1) (rds_bor g4 w1 hw1)))) (fun _ _ => trivial) ?_
  refine ow_batch [.p] rfl ?_
  refine ow_nil ?_
  refine x_qs ?_
  refine c_seq ?_
  refine c_seq ?_
  refine c_reg ?_
  refine ow_batch [.p, .p] rfl ?_
  refine ow_nil ?_
  refine x_qs ?_
  refine c_if rfl (fun hb => ?_) (fun hb => ?_)
  · have H := of_if_t hb H
    refine c_seq ?_
    refine c_reg ?_
    refine ow_batch [.p] rfl ?_
    refine ow_nil ?_
    refine x_qs ?_
    refine c_ret ?_
    refine x_qs_ret ?_
    exact x_retR (rs := [.tmp 6]) (vs := [.bool true]) rfl ⟨rfl, trivial⟩ (fun w' hw' => by
        obtain rfl := of_some H
        exact ⟨rfl, hw'.ext⟩)
  · have H := of_if_f hb H
    refine c_skip ?_
    refine x_qs ?_
    refine c_seq ?_
    refine c_reg ?_
    refine ow_r rfl (dstOk_lt rfl) (ry_box (off := 0) (ds := [.int .i64 p1.Leaf_, .slice a13 p1.Masks_.length c14]) rfl rfl ty44 (boxIn (i := 1) rfl) rfl rfl) ?_
    refine ow_batch [.p] rfl ?_
    obtain ⟨y26, h27, H⟩ := of_bind H
    refine ow_q rfl rfl (dstOk_lt rfl) (qy_call rfl fn21 rfl (fun w1 hw1 => laws_szWay_ok w1 (cs0 := [.int .i64 p1.Leaf_, .slice a13 p1.Masks_.length c14]) h27 (rdm_Tlaws_Way (x := p1) (c0 := [.int .i64 p1.Leaf_]) (c1 := [.slice a13 p1.Masks_.length c14]) rfl (rds_bor g12 w1 hw1)))) (fun _ _ => trivial) ?_
    refine ow_batch [.p] rfl ?_
    refine ow_nil ?_
    refine x_qs ?_
    refine c_seq ?_
    refine c_seq ?_
    refine c_reg ?_
    refine ow_batch [.p, .p] rfl ?_
    refine ow_nil ?_
    refine x_qs ?_
    refine c_if rfl (fun hb => ?_) (fun hb => ?_)
    · have H := of_if_t hb H
      refine c_seq ?_
      refine c_reg ?_
      refine ow_batch [.p] rfl ?_
      refine ow_nil ?_
      refine x_qs ?_
      refine c_ret ?_
      refine x_qs_ret ?_
      exact x_retR (rs := [.tmp 6]) (vs := [.bool true]) rfl ⟨rfl, trivial⟩ (fun w' hw' => by
          obtain rfl := of_some H
          exact ⟨rfl, hw'.ext⟩)
    · have H := of_if_f hb H
      refine c_skip ?_
      refine x_qs ?_
      refine c_seq ?_
      refine c_reg ?_
      refine ow_r rfl (dstOk_lt rfl) (ry_box (off := 0) (ds := [.slice a19 p2.Bins_.length c20, .int .i64 p2.Class_]) rfl rfl ty53 (boxIn (i := 2) rfl) rfl rfl) ?_
      refine ow_batch [.p] rfl ?_
      obtain ⟨y28, h29, H⟩ := of_bind H
      refine ow_q rfl rfl (dstOk_lt rfl) (qy_call rfl fn28 rfl (fun w1 hw1 => laws_szEx_ok w1 (cs0 := [.slice a19 p2.Bins_.length c20, .int .i64 p2.Class_]) h29 (rdm_Tlaws_Ex (x := p2) (c0 := [.slice a19 p2.Bins_.length c20]) (c1 := [.int .i64 p2.Class_]) (rds_bor g17 w1 hw1) rfl))) (fun _ _ => trivial) ?_
      refine ow_batch [.p] rfl ?_
      refine ow_nil ?_
      refine x_qs ?_
      refine c_seq ?_
      refine c_seq ?_
      refine c_reg ?_
      refine ow_batch [.p, .p] rfl ?_
      refine ow_nil ?_
      refine x_qs ?_
      refine c_if rfl (fun hb => ?_) (fun hb => ?_)
      · have H := of_if_t hb H
        refine c_seq ?_
        refine c_reg ?_
        refine ow_batch [.p] rfl ?_
        refine ow_nil ?_
        refine x_qs ?_
        refine c_ret ?_
        refine x_qs_ret ?_
        exact x_retR (rs := [.tmp 6]) (vs := [.bool true]) rfl ⟨rfl, trivial⟩ (fun w' hw' => by
            obtain rfl := of_some H
            exact ⟨rfl, hw'.ext⟩)
      · have H := of_if_f hb H
        refine c_skip ?_
        refine x_qs ?_
        refine c_seq ?_
        refine c_regHT 5 [(0, true), (2, true), (4, true), (1, false), (3, false)] (St w [] [Res.box b21 34 [.slice a5 p0.Attrs_.length c6, .slice a7 p0.Classes_.length c8], Res.box b22 44 [.int .i64 p1.Leaf_, .slice a13 p1.Masks_.length c14], Res.box b23 53 [.slice a19 p2.Bins_.length c20, .int .i64 p2.Class_]]) mixed (by kernel_rfl) (panicOk_qs panicOk_body) (fun _ h => St.mask [true, true, true] rfl h) ?_
        refine ow_rH rfl (dstOk_lt rfl) (ry_box (off := 0) (ds := [.slice a5 p0.Attrs_.length c6, .slice a7 p0.Classes_.length c8]) rfl rfl ty34 (boxIn (i := 0) rfl) rfl rfl) ?_
        refine ow_rH rfl (dstOk_lt rfl) (ry_box (off := 0) (ds := [.int .i64 p1.Leaf_, .slice a13 p1.Masks_.length c14]) rfl rfl ty44 (boxIn (i := 1) rfl) rfl rfl) ?_
        refine ow_rH rfl (dstOk_lt rfl) (ry_box (off := 0) (ds := [.slice a19 p2.Bins_.length c20, .int .i64 p2.Class_]) rfl rfl ty53 (boxIn (i := 2) rfl) rfl rfl) ?_
        obtain ⟨y52, h53, H⟩ := of_bind H
        refine ow_callS rfl fn18 rfl rfl rfl rfl (fun w1 hw1 => laws_toSchema_ok w1 (cs0 := [.slice a5 p0.Attrs_.length c6, .slice a7 p0.Classes_.length c8]) h53 (hw1.carve [] rfl rfl) (rdm_Tlaws_Schema (x := p0) (c0 := [.slice a5 p0.Attrs_.length c6]) (c1 := [.slice a7 p0.Classes_.length c8]) (rds_bor g3 w1 hw1) (rds_bor g4 w1 hw1))) (fun v54 w1 w2 hw1 hR56 => ?_)
        obtain ⟨a57, n58, c59, F60, a61, n62, c63, F64, rfl, hS55⟩ := hR56
        obtain rfl := own_nS (i := 0) hS55 rfl
        obtain rfl := own_nS (i := 1) hS55 rfl
        refine ⟨St w [] [_, _, _, _, _], hw1.comp [] rfl rfl hS55, (fun _ h => St.mask [true, true, true] rfl h), ?_⟩
        obtain ⟨y65, h66, H⟩ := of_bind H
        refine ow_callS rfl fn23 rfl rfl rfl rfl (fun w1 hw1 => laws_toWay_ok w1 (cs0 := [.int .i64 p1.Leaf_, .slice a13 p1.Masks_.length c14]) h66 (hw1.carve [] rfl rfl) (rdm_Tlaws_Way (x := p1) (c0 := [.int .i64 p1.Leaf_]) (c1 := [.slice a13 p1.Masks_.length c14]) rfl (rds_bor g12 w1 hw1))) (fun v67 w1 w2 hw1 hR69 => ?_)
        obtain ⟨a70, n71, c72, F73, rfl, hS68⟩ := hR69
        obtain rfl := own_nS (i := 0) hS68 rfl
        refine ⟨St w [] [_, _, _, _, _, _], hw1.comp [] rfl rfl hS68, (fun _ h => St.mask [true, true, true] rfl h), ?_⟩
        refine ow_nilH ?_
        refine x_qt ?_
        obtain ⟨y74, h75, H⟩ := of_bind H
        refine ow_callS rfl fn30 rfl rfl rfl rfl (fun w1 hw1 => laws_toEx_ok w1 (cs0 := [.slice a19 p2.Bins_.length c20, .int .i64 p2.Class_]) h75 (hw1.carve [] rfl rfl) (rdm_Tlaws_Ex (x := p2) (c0 := [.slice a19 p2.Bins_.length c20]) (c1 := [.int .i64 p2.Class_]) (rds_bor g17 w1 hw1) rfl)) (fun v76 w1 w2 hw1 hR78 => ?_)
        obtain ⟨a79, n80, c81, F82, rfl, hS77⟩ := hR78
        obtain rfl := own_nS (i := 0) hS77 rfl
        refine ⟨St w [] [_, _, _, _, _, _, _], hw1.comp [] rfl rfl hS77, fun _ _ => trivial, ?_⟩
        obtain ⟨y83, h84, H⟩ := of_bind H
        refine ow_q rfl rfl (dstOk_lt rfl) (qy_call rfl fn29 rfl (fun w1 hw1 => spec_WayMeets_ok w1 (cs0 := [.slice a57 y52.Attrs_.length c59, .slice a61 y52.Classes_.length c63]) (cs1 := [.int .i64 y65.Leaf_, .slice a70 y65.Masks_.length c72]) (cs2 := [.slice a79 y74.Bins_.length c81, .int .i64 y74.Class_]) h84 (rdm_Timpl_Schema (x := y52) (c0 := [.slice a57 y52.Attrs_.length c59]) (c1 := [.slice a61 y52.Classes_.length c63]) (rds_own (r := 3) rfl w1 hw1) (rds_own (r := 4) rfl w1 hw1)) (rdm_Timpl_Way (x := y65) (c0 := [.int .i64 y65.Leaf_]) (c1 := [.slice a70 y65.Masks_.length c72]) rfl (rds_own (r := 5) rfl w1 hw1)) (rdm_Timpl_Ex (x := y74) (c0 := [.slice a79 y74.Bins_.length c81]) (c1 := [.int .i64 y74.Class_]) (rds_own (r := 6) rfl w1 hw1) rfl))) (fun _ _ => trivial) ?_
        refine ow_batch [.p] rfl ?_
        refine ow_nil ?_
        refine x_qs ?_
        refine c_seq ?_
        refine c_reg ?_
        refine ow_r rfl (dstOk_lt rfl) (ry_box (off := 0) (ds := [.slice a5 p0.Attrs_.length c6, .slice a7 p0.Classes_.length c8]) rfl rfl ty34 (boxIn (i := 0) rfl) rfl rfl) ?_
        obtain ⟨y85, h86, H⟩ := of_bind H
        refine ow_callS rfl fn18 rfl rfl rfl rfl (fun w1 hw1 => laws_toSchema_ok w1 (cs0 := [.slice a5 p0.Attrs_.length c6, .slice a7 p0.Classes_.length c8]) h86 (hw1.carve [] rfl rfl) (rdm_Tlaws_Schema (x := p0) (c0 := [.slice a5 p0.Attrs_.length c6]) (c1 := [.slice a7 p0.Classes_.length c8]) (rds_bor g3 w1 hw1) (rds_bor g4 w1 hw1))) (fun v87 w1 w2 hw1 hR89 => ?_)
        obtain ⟨a90, n91, c92, F93, a94, n95, c96, F97, rfl, hS88⟩ := hR89
        obtain rfl := own_nS (i := 0) hS88 rfl
        obtain rfl := own_nS (i := 1) hS88 rfl
        refine ⟨St w [] [_, _, _, _, _, _, _, _, _], hw1.comp [] rfl rfl hS88, fun _ _ => trivial, ?_⟩
        refine ow_alloc rfl rfl rfl rfl ty39 (fun _ => kp) (fun b98 => ?_)
        refine ow_storeC (off := 0) [.slice a90 y85.Attrs_.length c92, .slice a94 y85.Classes_.length c96] [_, _] (i := 9) rfl rfl rfl rfl rfl rfl ty39 rfl rfl (by intro u hu; simp only [List.mem_cons, List.not_mem_nil, or_false] at hu; rcases hu with rfl | rfl <;> rfl) rfl rfl rfl kp ?_
        refine ow_nil ?_
        refine x_qs ?_
        refine c_seq ?_
        refine c_reg ?_
        refine ow_r rfl (dstOk_lt rfl) (ry_box (off := 0) (ds := [.int .i64 p1.Leaf_, .slice a13 p1.Masks_.length c14]) rfl rfl ty44 (boxIn (i := 1) rfl) rfl rfl) ?_
        obtain ⟨y99, h100, H⟩ := of_bind H
        refine ow_callS rfl fn23 rfl rfl rfl rfl (fun w1 hw1 => laws_toWay_ok w1 (cs0 := [.int .i64 p1.Leaf_, .slice a13 p1.Masks_.length c14]) h100 (hw1.carve [] rfl rfl) (rdm_Tlaws_Way (x := p1) (c0 := [.int .i64 p1.Leaf_]) (c1 := [.slice a13 p1.Masks_.length c14]) rfl (rds_bor g12 w1 hw1))) (fun v101 w1 w2 hw1 hR103 => ?_)
        obtain ⟨a104, n105, c106, F107, rfl, hS102⟩ := hR103
        obtain rfl := own_nS (i := 0) hS102 rfl
        refine ⟨St w [] [_, _, _, _, _, _, _, _, _, _, _], hw1.comp [] rfl rfl hS102, fun _ _ => trivial, ?_⟩
        refine ow_alloc rfl rfl rfl rfl ty47 (fun _ => kp) (fun b108 => ?_)
        refine ow_storeC (off := 0) [.int .i64 y99.Leaf_, .slice a104 y99.Masks_.length c106] [_, _] (i := 11) rfl rfl rfl rfl rfl rfl ty47 rfl rfl (by intro u hu; simp only [List.mem_cons, List.not_mem_nil, or_false] at hu; rcases hu with rfl | rfl <;> rfl) rfl rfl rfl kp ?_
        refine ow_nil ?_
        refine x_qs ?_
        refine c_seq ?_
        refine c_reg ?_
        refine ow_r rfl (dstOk_lt rfl) (ry_box (off := 0) (ds := [.slice a19 p2.Bins_.length c20, .int .i64 p2.Class_]) rfl rfl ty53 (boxIn (i := 2) rfl) rfl rfl) ?_
        obtain ⟨y109, h110, H⟩ := of_bind H
        refine ow_callS rfl fn30 rfl rfl rfl rfl (fun w1 hw1 => laws_toEx_ok w1 (cs0 := [.slice a19 p2.Bins_.length c20, .int .i64 p2.Class_]) h110 (hw1.carve [] rfl rfl) (rdm_Tlaws_Ex (x := p2) (c0 := [.slice a19 p2.Bins_.length c20]) (c1 := [.int .i64 p2.Class_]) (rds_bor g17 w1 hw1) rfl)) (fun v111 w1 w2 hw1 hR113 => ?_)
        obtain ⟨a114, n115, c116, F117, rfl, hS112⟩ := hR113
        obtain rfl := own_nS (i := 0) hS112 rfl
        refine ⟨St w [] [_, _, _, _, _, _, _, _, _, _, _, _, _], hw1.comp [] rfl rfl hS112, fun _ _ => trivial, ?_⟩
        refine ow_alloc rfl rfl rfl rfl ty56 (fun _ => kp) (fun b118 => ?_)
        refine ow_storeC (off := 0) [.slice a114 y109.Bins_.length c116, .int .i64 y109.Class_] [_, _] (i := 13) rfl rfl rfl rfl rfl rfl ty56 rfl rfl (by intro u hu; simp only [List.mem_cons, List.not_mem_nil, or_false] at hu; rcases hu with rfl | rfl <;> rfl) rfl rfl rfl kp ?_
        refine ow_nil ?_
        refine x_qs ?_
        refine c_seq ?_
        refine c_reg ?_
        refine ow_r rfl (dstOk_lt rfl) (ry_box (off := 0) (ds := [.slice a90 y85.Attrs_.length c92, .slice a94 y85.Classes_.length c96]) rfl rfl ty39 (boxIn (i := 9) rfl) rfl rfl) ?_
        refine ow_r rfl (dstOk_lt rfl) (ry_box (off := 0) (ds := [.int .i64 y99.Leaf_, .slice a104 y99.Masks_.length c106]) rfl rfl ty47 (boxIn (i := 11) rfl) rfl rfl) ?_
        refine ow_r rfl (dstOk_lt rfl) (ry_box (off := 0) (ds := [.slice a114 y109.Bins_.length c116, .int .i64 y109.Class_]) rfl rfl ty56 (boxIn (i := 13) rfl) rfl rfl) ?_
        obtain ⟨y119, h120, H⟩ := of_bind H
        refine ow_q rfl rfl (dstOk_lt rfl) (qy_call rfl fn31 rfl (fun w1 hw1 => impl_WayMeets_ok w1 (cs0 := [.slice a90 y85.Attrs_.length c92, .slice a94 y85.Classes_.length c96]) (cs1 := [.int .i64 y99.Leaf_, .slice a104 y99.Masks_.length c106]) (cs2 := [.slice a114 y109.Bins_.length c116, .int .i64 y109.Class_]) h120 (rdm_Timpl_Schema (x := y85) (c0 := [.slice a90 y85.Attrs_.length c92]) (c1 := [.slice a94 y85.Classes_.length c96]) (rds_own (r := 7) rfl w1 hw1) (rds_own (r := 8) rfl w1 hw1)) (rdm_Timpl_Way (x := y99) (c0 := [.int .i64 y99.Leaf_]) (c1 := [.slice a104 y99.Masks_.length c106]) rfl (rds_own (r := 10) rfl w1 hw1)) (rdm_Timpl_Ex (x := y109) (c0 := [.slice a114 y109.Bins_.length c116]) (c1 := [.int .i64 y109.Class_]) (rds_own (r := 12) rfl w1 hw1) rfl))) (fun _ _ => trivial) ?_
        refine ow_batch [.p] rfl ?_
        refine ow_nil ?_
        refine x_qs ?_
        refine c_seq ?_
        refine c_seq ?_
        refine c_reg ?_
        refine ow_batch [.p, .p] rfl ?_
        refine ow_r rfl (dstOk_lt rfl) (ry_bneq rfl rfl rfl bl4) ?_
        refine ow_nil ?_
        refine x_qs ?_
        refine c_if rfl (fun hb => ?_) (fun hb => ?_)
        · have H := of_if_t hb H
          refine c_seq ?_
          refine c_reg ?_
          refine ow_batch [.p] rfl ?_
          refine ow_nil ?_
          refine x_qs ?_
          refine c_ret ?_
          refine x_qs_ret ?_
          exact x_retR (rs := [.tmp 6]) (vs := [.bool false]) rfl ⟨rfl, trivial⟩ (fun w' hw' => by
              obtain rfl := of_some H
              exact ⟨rfl, hw'.ext⟩)
        · have H := of_if_f hb H
          refine c_skip ?_
          refine x_qs ?_
          refine c_seq ?_
          refine c_seq ?_
          refine c_regHT 3 [(0, true), (1, true), (2, false)] (St w [] [Res.box b21 34 [.slice a5 p0.Attrs_.length c6, .slice a7 p0.Classes_.length c8], Res.box b22 44 [.int .i64 p1.Leaf_, .slice a13 p1.Masks_.length c14], Res.box b23 53 [.slice a19 p2.Bins_.length c20, .int .i64 p2.Class_], Res.own (eList (eTimpl_Attr) 28) F60 y52.Attrs_ [.slice a57 y52.Attrs_.length c59], Res.own (eList (eStr) 9) F64 y52.Classes_ [.slice a61 y52.Classes_.length c63], Res.own (eList (eVal (Value.int .i64) (fun _ => rfl)) 3) F73 y65.Masks_ [.slice a70 y65.Masks_.length c72], Res.own (eList (eVal (Value.int .i64) (fun _ => rfl)) 3) F82 y74.Bins_ [.slice a79 y74.Bins_.length c81], Res.own (eList (eTimpl_Attr) 28) F93 y85.Attrs_ [.slice a90 y85.Attrs_.length c92], Res.own (eList (eStr) 9) F97 y85.Classes_ [.slice a94 y85.Classes_.length c96], Res.box b98 39 [.slice a90 y85.Attrs_.length c92, .slice a94 y85.Classes_.length c96], Res.own (eList (eVal (Value.int .i64) (fun _ => rfl)) 3) F107 y99.Masks_ [.slice a104 y99.Masks_.length c106], Res.box b108 47 [.int .i64 y99.Leaf_, .slice a104 y99.Masks_.length c106], Res.own (eList (eVal (Value.int .i64) (fun _ => rfl)) 3) F117 y109.Bins_ [.slice a114 y109.Bins_.length c116], Res.box b118 56 [.slice a114 y109.Bins_.length c116, .int .i64 y109.Class_]]) mixed (by kernel_rfl) (panicOk_qs (panicOk_qs panicOk_body)) (fun _ h => St.mask [true, true, true, true, true, true, true, true, true, true, true, true, true, true] rfl h) ?_
          refine ow_rH rfl (dstOk_lt rfl) (ry_box (off := 0) (ds := [.slice a90 y85.Attrs_.length c92, .slice a94 y85.Classes_.length c96]) rfl rfl ty39 (boxIn (i := 9) rfl) rfl rfl) ?_
          refine ow_rH rfl (dstOk_lt rfl) (ry_box (off := 0) (ds := [.slice a5 p0.Attrs_.length c6, .slice a7 p0.Classes_.length c8]) rfl rfl ty34 (boxIn (i := 0) rfl) rfl rfl) ?_
          obtain ⟨y134, h135, H⟩ := of_bind H
          refine ow_callS rfl fn18 rfl rfl rfl rfl (fun w1 hw1 => laws_toSchema_ok w1 (cs0 := [.slice a5 p0.Attrs_.length c6, .slice a7 p0.Classes_.length c8]) h135 (hw1.carve [] rfl rfl) (rdm_Tlaws_Schema (x := p0) (c0 := [.slice a5 p0.Attrs_.length c6]) (c1 := [.slice a7 p0.Classes_.length c8]) (rds_bor g3 w1 hw1) (rds_bor g4 w1 hw1))) (fun v136 w1 w2 hw1 hR138 => ?_)
          obtain ⟨a139, n140, c141, F142, a143, n144, c145, F146, rfl, hS137⟩ := hR138
          obtain rfl := own_nS (i := 0) hS137 rfl
          obtain rfl := own_nS (i := 1) hS137 rfl
          refine ⟨St w [] [_, _, _, _, _, _, _, _, _, _, _, _, _, _, _, _], hw1.comp [] rfl rfl hS137, (fun _ h => St.mask [true, true, true, true, true, true, true, true, true, true, true, true, true, true] rfl h), ?_⟩
          refine ow_nilH ?_
          refine x_qt ?_
          obtain ⟨y147, h148, H⟩ := of_bind H
          refine ow_q rfl rfl (dstOk_lt rfl) (qy_call rfl fn20 rfl (fun w1 hw1 => laws_eqSchema_ok w1 (cs0 := [.slice a90 y85.Attrs_.length c92, .slice a94 y85.Classes_.length c96]) (cs1 := [.slice a139 y134.Attrs_.length c141, .slice a143 y134.Classes_.length c145]) h148 (rdm_Timpl_Schema (x := y85) (c0 := [.slice a90 y85.Attrs_.length c92]) (c1 := [.slice a94 y85.Classes_.length c96]) (rds_own (r := 7) rfl w1 hw1) (rds_own (r := 8) rfl w1 hw1)) (rdm_Timpl_Schema (x := y134) (c0 := [.slice a139 y134.Attrs_.length c141]) (c1 := [.slice a143 y134.Classes_.length c145]) (rds_own (r := 14) rfl w1 hw1) (rds_own (r := 15) rfl w1 hw1)))) (fun _ _ => trivial) ?_
          refine ow_batch [.p] rfl ?_
          refine ow_nil ?_
          refine x_qs ?_
          refine c_if rfl (fun hb => ?_) (fun hb => ?_)
          · have H := of_if_t hb H
            refine c_seq ?_
            refine c_reg ?_
            refine ow_batch [.p] rfl ?_
            refine ow_nil ?_
            refine x_qs ?_
            refine c_ret ?_
            refine x_qs_ret ?_
            exact x_retR (rs := [.tmp 6]) (vs := [.bool false]) rfl ⟨rfl, trivial⟩ (fun w' hw' => by
                obtain rfl := of_some H
                exact ⟨rfl, hw'.ext⟩)
          · have H := of_if_f hb H
            refine c_skip ?_
            refine x_qs ?_
            refine c_seq ?_
            refine c_seq ?_
            refine c_regHT 3 [(0, true), (1, true), (2, false)] (St w [] [Res.box b21 34 [.slice a5 p0.Attrs_.length c6, .slice a7 p0.Classes_.length c8], Res.box b22 44 [.int .i64 p1.Leaf_, .slice a13 p1.Masks_.length c14], Res.box b23 53 [.slice a19 p2.Bins_.length c20, .int .i64 p2.Class_], Res.own (eList (eTimpl_Attr) 28) F60 y52.Attrs_ [.slice a57 y52.Attrs_.length c59], Res.own (eList (eStr) 9) F64 y52.Classes_ [.slice a61 y52.Classes_.length c63], Res.own (eList (eVal (Value.int .i64) (fun _ => rfl)) 3) F73 y65.Masks_ [.slice a70 y65.Masks_.length c72], Res.own (eList (eVal (Value.int .i64) (fun _ => rfl)) 3) F82 y74.Bins_ [.slice a79 y74.Bins_.length c81], Res.own (eList (eTimpl_Attr) 28) F93 y85.Attrs_ [.slice a90 y85.Attrs_.length c92], Res.own (eList (eStr) 9) F97 y85.Classes_ [.slice a94 y85.Classes_.length c96], Res.box b98 39 [.slice a90 y85.Attrs_.length c92, .slice a94 y85.Classes_.length c96], Res.own (eList (eVal (Value.int .i64) (fun _ => rfl)) 3) F107 y99.Masks_ [.slice a104 y99.Masks_.length c106], Res.box b108 47 [.int .i64 y99.Leaf_, .slice a104 y99.Masks_.length c106], Res.own (eList (eVal (Value.int .i64) (fun _ => rfl)) 3) F117 y109.Bins_ [.slice a114 y109.Bins_.length c116], Res.box b118 56 [.slice a114 y109.Bins_.length c116, .int .i64 y109.Class_], Res.own (eList (eTimpl_Attr) 28) F142 y134.Attrs_ [.slice a139 y134.Attrs_.length c141], Res.own (eList (eStr) 9) F146 y134.Classes_ [.slice a143 y134.Classes_.length c145]]) mixed (by kernel_rfl) (panicOk_qs (panicOk_qs panicOk_body)) (fun _ h => St.mask [true, true, true, true, true, true, true, true, true, true, true, true, true, true, true, true] rfl h) ?_
            refine ow_rH rfl (dstOk_lt rfl) (ry_box (off := 0) (ds := [.int .i64 y99.Leaf_, .slice a104 y99.Masks_.length c106]) rfl rfl ty47 (boxIn (i := 11) rfl) rfl rfl) ?_
            refine ow_rH rfl (dstOk_lt rfl) (ry_box (off := 0) (ds := [.int .i64 p1.Leaf_, .slice a13 p1.Masks_.length c14]) rfl rfl ty44 (boxIn (i := 1) rfl) rfl rfl) ?_
            obtain ⟨y158, h159, H⟩ := of_bind H
            refine ow_callS rfl fn23 rfl rfl rfl rfl (fun w1 hw1 => laws_toWay_ok w1 (cs0 := [.int .i64 p1.Leaf_, .slice a13 p1.Masks_.length c14]) h159 (hw1.carve [] rfl rfl) (rdm_Tlaws_Way (x := p1) (c0 := [.int .i64 p1.Leaf_]) (c1 := [.slice a13 p1.Masks_.length c14]) rfl (rds_bor g12 w1 hw1))) (fun v160 w1 w2 hw1 hR162 => ?_)
            obtain ⟨a163, n164, c165, F166, rfl, hS161⟩ := hR162
            obtain rfl := own_nS (i := 0) hS161 rfl
            refine ⟨St w [] [_, _, _, _, _, _, _, _, _, _, _, _, _, _, _, _, _], hw1.comp [] rfl rfl hS161, (fun _ h => St.mask [true, true, true, true, true, true, true, true, true, true, true, true, true, true, true, true] rfl h), ?_⟩
            refine ow_nilH ?_
            refine x_qt ?_
            obtain ⟨y167, h168, H⟩ := of_bind H
            refine ow_q rfl rfl (dstOk_lt rfl) (qy_call rfl fn25 rfl (fun w1 hw1 => laws_eqWay_ok w1 (cs0 := [.int .i64 y99.Leaf_, .slice a104 y99.Masks_.length c106]) (cs1 := [.int .i64 y158.Leaf_, .slice a163 y158.Masks_.length c165]) h168 (rdm_Timpl_Way (x := y99) (c0 := [.int .i64 y99.Leaf_]) (c1 := [.slice a104 y99.Masks_.length c106]) rfl (rds_own (r := 10) rfl w1 hw1)) (rdm_Timpl_Way (x := y158) (c0 := [.int .i64 y158.Leaf_]) (c1 := [.slice a163 y158.Masks_.length c165]) rfl (rds_own (r := 16) rfl w1 hw1)))) (fun _ _ => trivial) ?_
            refine ow_batch [.p] rfl ?_
            refine ow_nil ?_
            refine x_qs ?_
            refine c_if rfl (fun hb => ?_) (fun hb => ?_)
            · have H := of_if_t hb H
              refine c_seq ?_
              refine c_reg ?_
              refine ow_batch [.p] rfl ?_
              refine ow_nil ?_
              refine x_qs ?_
              refine c_ret ?_
              refine x_qs_ret ?_
              exact x_retR (rs := [.tmp 6]) (vs := [.bool false]) rfl ⟨rfl, trivial⟩ (fun w' hw' => by
                  obtain rfl := of_some H
                  exact ⟨rfl, hw'.ext⟩)
            · have H := of_if_f hb H
              refine c_skip ?_
              refine x_qs ?_
              refine c_seq ?_
              refine c_seq ?_
              refine c_regHT 3 [(0, true), (1, true), (2, false)] (St w [] [Res.box b21 34 [.slice a5 p0.Attrs_.length c6, .slice a7 p0.Classes_.length c8], Res.box b22 44 [.int .i64 p1.Leaf_, .slice a13 p1.Masks_.length c14], Res.box b23 53 [.slice a19 p2.Bins_.length c20, .int .i64 p2.Class_], Res.own (eList (eTimpl_Attr) 28) F60 y52.Attrs_ [.slice a57 y52.Attrs_.length c59], Res.own (eList (eStr) 9) F64 y52.Classes_ [.slice a61 y52.Classes_.length c63], Res.own (eList (eVal (Value.int .i64) (fun _ => rfl)) 3) F73 y65.Masks_ [.slice a70 y65.Masks_.length c72], Res.own (eList (eVal (Value.int .i64) (fun _ => rfl)) 3) F82 y74.Bins_ [.slice a79 y74.Bins_.length c81], Res.own (eList (eTimpl_Attr) 28) F93 y85.Attrs_ [.slice a90 y85.Attrs_.length c92], Res.own (eList (eStr) 9) F97 y85.Classes_ [.slice a94 y85.Classes_.length c96], Res.box b98 39 [.slice a90 y85.Attrs_.length c92, .slice a94 y85.Classes_.length c96], Res.own (eList (eVal (Value.int .i64) (fun _ => rfl)) 3) F107 y99.Masks_ [.slice a104 y99.Masks_.length c106], Res.box b108 47 [.int .i64 y99.Leaf_, .slice a104 y99.Masks_.length c106], Res.own (eList (eVal (Value.int .i64) (fun _ => rfl)) 3) F117 y109.Bins_ [.slice a114 y109.Bins_.length c116], Res.box b118 56 [.slice a114 y109.Bins_.length c116, .int .i64 y109.Class_], Res.own (eList (eTimpl_Attr) 28) F142 y134.Attrs_ [.slice a139 y134.Attrs_.length c141], Res.own (eList (eStr) 9) F146 y134.Classes_ [.slice a143 y134.Classes_.length c145], Res.own (eList (eVal (Value.int .i64) (fun _ => rfl)) 3) F166 y158.Masks_ [.slice a163 y158.Masks_.length c165]]) mixed (by kernel_rfl) (panicOk_qs (panicOk_qs panicOk_body)) (fun _ h => St.mask [true, true, true, true, true, true, true, true, true, true, true, true, true, true, true, true, true] rfl h) ?_
              refine ow_rH rfl (dstOk_lt rfl) (ry_box (off := 0) (ds := [.slice a114 y109.Bins_.length c116, .int .i64 y109.Class_]) rfl rfl ty56 (boxIn (i := 13) rfl) rfl rfl) ?_
              refine ow_rH rfl (dstOk_lt rfl) (ry_box (off := 0) (ds := [.slice a19 p2.Bins_.length c20, .int .i64 p2.Class_]) rfl rfl ty53 (boxIn (i := 2) rfl) rfl rfl) ?_
              obtain ⟨y178, h179, H⟩ := of_bind H
              refine ow_callS rfl fn30 rfl rfl rfl rfl (fun w1 hw1 => laws_toEx_ok w1 (cs0 := [.slice a19 p2.Bins_.length c20, .int .i64 p2.Class_]) h179 (hw1.carve [] rfl rfl) (rdm_Tlaws_Ex (x := p2) (c0 := [.slice a19 p2.Bins_.length c20]) (c1 := [.int .i64 p2.Class_]) (rds_bor g17 w1 hw1) rfl)) (fun v180 w1 w2 hw1 hR182 => ?_)
              obtain ⟨a183, n184, c185, F186, rfl, hS181⟩ := hR182
              obtain rfl := own_nS (i := 0) hS181 rfl
              refine ⟨St w [] [_, _, _, _, _, _, _, _, _, _, _, _, _, _, _, _, _, _], hw1.comp [] rfl rfl hS181, (fun _ h => St.mask [true, true, true, true, true, true, true, true, true, true, true, true, true, true, true, true, true] rfl h), ?_⟩
              refine ow_nilH ?_
              refine x_qt ?_
              obtain ⟨y187, h188, H⟩ := of_bind H
              refine ow_q rfl rfl (dstOk_lt rfl) (qy_call rfl fn32 rfl (fun w1 hw1 => laws_eqEx_ok w1 (cs0 := [.slice a114 y109.Bins_.length c116, .int .i64 y109.Class_]) (cs1 := [.slice a183 y178.Bins_.length c185, .int .i64 y178.Class_]) h188 (rdm_Timpl_Ex (x := y109) (c0 := [.slice a114 y109.Bins_.length c116]) (c1 := [.int .i64 y109.Class_]) (rds_own (r := 12) rfl w1 hw1) rfl) (rdm_Timpl_Ex (x := y178) (c0 := [.slice a183 y178.Bins_.length c185]) (c1 := [.int .i64 y178.Class_]) (rds_own (r := 17) rfl w1 hw1) rfl))) (fun _ _ => trivial) ?_
              refine ow_batch [.p] rfl ?_
              refine ow_nil ?_
              refine x_qs ?_
              refine c_if rfl (fun hb => ?_) (fun hb => ?_)
              · have H := of_if_t hb H
                refine c_seq ?_
                refine c_reg ?_
                refine ow_batch [.p] rfl ?_
                refine ow_nil ?_
                refine x_qs ?_
                refine c_ret ?_
                refine x_qs_ret ?_
                exact x_retR (rs := [.tmp 6]) (vs := [.bool false]) rfl ⟨rfl, trivial⟩ (fun w' hw' => by
                    obtain rfl := of_some H
                    exact ⟨rfl, hw'.ext⟩)
              · have H := of_if_f hb H
                refine c_skip ?_
                refine x_qs ?_
                refine c_seq ?_
                refine c_reg ?_
                refine ow_batch [.p] rfl ?_
                refine ow_nil ?_
                refine x_qs ?_
                refine c_ret ?_
                exact x_retR (rs := [.tmp 6]) (vs := [.bool true]) rfl ⟨rfl, trivial⟩ (fun w' hw' => by
                    obtain rfl := of_some H
                    exact ⟨rfl, hw'.ext⟩)

end Go.Vk
