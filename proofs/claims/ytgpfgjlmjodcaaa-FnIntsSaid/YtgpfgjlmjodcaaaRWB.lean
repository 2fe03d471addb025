/- The code does what the functions of data say. Printed by program. -/

import Derived.Test.YtgpfgjlmjodcaaaRWA

namespace Go.Vk

open Go.Proofs Go.RowKit



set_option maxHeartbeats 4000000 in
set_option maxRecDepth 100000 in
theorem impl_GetInts_ok (w : World) {M0 : List Nat} {p0 : List Int} {p1 : Int} {a_0 : Option Addr} {n_0 c_0 : Nat} {r : (List Int) × Int × Bool} (H : impl_GetInts p0 p1 = some r) (HS : St w M0 [] w) (g0 : (eList (eVal (Value.int .u8) (fun _ => rfl)) 5).rd w M0 p0 [.slice a_0 n_0 c_0]) :
    Calls Try.prog 20 #[.slice a_0 n_0 c_0, .int .i64 p1] w (fun en w' => ∃ v, en = .returned v ∧ ∃ (a0 : Option Addr), ∃ (n0 : Nat), ∃ (c0 : Nat), ∃ (F0 : List Nat), v = .tuple #[.slice a0 n0 c0, .int .i64 r.2.1, .bool r.2.2] ∧ St w M0 [Res.own (eList (eVal (Value.int .i64) (fun _ => rfl)) 3) F0 r.1 [.slice a0 n0 c0]] w') := by
  obtain rfl := rd_n g0
  unfold impl_GetInts at H
  refine f_enter (vs := [.slice a_0 p0.length c_0, .int .i64 p1]) Try.func20 rfl Try.ntmps20 rfl (HS) ?_
  refine c_seq ?_
  refine c_reg ?_
  refine ow_batch [.p, .p, .p] rfl ?_
  refine ow_nil ?_
  refine x_qs ?_
  refine c_seq ?_
  refine c_reg ?_
  refine ow_batch [.p, .p] rfl ?_
  refine ow_r rfl (dstOk_lt rfl) (ry_build2 [(0, [.slice a_0 p0.length c_0]), (1, [.int .i64 p1])] [.slice a_0 p0.length c_0, .int .i64 p1, .bool false] rfl rfl ty74 fs74 rfl ⟨rfl, rfl, Nat.le_of_ble_eq_true rfl, rfl, rfl, Nat.le_of_ble_eq_true rfl,  trivial⟩ rfl) ?_
  refine ow_box (cs := [.slice a_0 p0.length c_0, .int .i64 p1, .bool false]) rfl rfl rfl rfl rfl rfl (fun _ => kp) (fun b1 => ?_)
  refine ow_batch [.p] rfl ?_
  refine ow_nil ?_
  refine x_qs ?_
  refine c_seq ?_
  refine c_reg ?_
  refine ow_batch [.p] rfl ?_
  obtain ⟨y2, h3, H⟩ := of_bind H
  refine ow_callS rfl fn51 rfl rfl rfl rfl (fun w1 hw1 => impl_reader_list_ok w1  h3 (hw1.carve [0] rfl rfl) (rdB [0] rfl rfl hw1 g0)) (fun v4 w1 w2 hw1 hR6 => ?_)
  obtain ⟨a7, n8, c9, F10, rfl, hS5⟩ := hR6
  obtain rfl := own_nS (i := 0) hS5 rfl
  refine ⟨St w M0 [_, _, _], hw1.comp [0] rfl rfl hS5, fun _ _ => trivial, ?_⟩
  refine ow_batch [.p] rfl ?_
  refine ow_nil ?_
  refine x_qs ?_
  refine c_seq ?_
  refine c_seq ?_
  refine c_reg ?_
  refine ow_batch [.p, .p, .fa 74 2 2 fa74_2] rfl ?_
  refine ow_r rfl (dstOk_lt rfl) (ry_box1 (off := 2) rfl rfl ty4 (boxIn (i := 2) rfl) rfl) ?_
  refine ow_nil ?_
  refine x_qs ?_
  refine c_if rfl (fun hb => ?_) (fun hb => ?_)
  · have H := of_if_t hb H
    refine c_seq ?_
    refine c_reg ?_
    refine ow_batch [.p, .p, .p] rfl ?_
    refine ow_nil ?_
    refine x_qs ?_
    refine c_ret ?_
    refine x_qs_ret ?_
    refine xw_st (fun _ h => St.pushNil (e := eVal (Value.int .i64) (fun _ => rfl)) (T := 3) h) ?_
    exact x_retR (rs := [.tmp 4, .tmp 5, .tmp 6]) (vs := [.slice none 0 0, .int .i64 0, .bool false]) rfl ⟨rfl, rfl, rfl, trivial⟩ (fun w' hw' => by
        obtain rfl := of_some H
        exact ⟨_, rfl, none, 0, 0, [], rfl, hw'.sel [3] rfl rfl⟩)
  · have H := of_if_f hb H
    refine c_skip ?_
    refine x_qs ?_
    refine c_seq ?_
    refine c_regQ mixed (by kernel_rfl) ?_
    refine ow_batch [.p, .p, .p, .fa 74 1 1 fa74_1] rfl ?_
    refine ow_r rfl (dstOk_lt rfl) (ry_box1 (off := 1) rfl rfl ty3 (boxIn (i := 2) rfl) rfl) ?_
    refine ow_batch [.p, .p, .p] rfl ?_
    refine ow_nilQ ?_
    refine x_qs ?_
    refine c_ret ?_
    exact x_retR (rs := [.tmp 4, .tmp 5, .tmp 6]) (vs := [.slice a7 y2.1.length c9, .int .i64 y2.2.at_, .bool true]) rfl ⟨rfl, rfl, rfl, trivial⟩ (fun w' hw' => by
        obtain rfl := of_some H
        exact ⟨_, rfl, a7, y2.1.length, c9, F10, rfl, hw'.sel [1] rfl rfl⟩)

set_option maxHeartbeats 4000000 in
set_option maxRecDepth 100000 in
theorem laws_sameInts_ok (w : World) {p0 : List Int} {p1 : List Int} {a_0 : Option Addr} {n_0 c_0 : Nat} {a_1 : Option Addr} {n_1 c_1 : Nat} {r : Bool} (H : laws_sameInts p0 p1 = some r)  (g0 : (eList (eVal (Value.int .i64) (fun _ => rfl)) 3).rd w [] p0 [.slice a_0 n_0 c_0]) (g1 : (eList (eVal (Value.int .i64) (fun _ => rfl)) 3).rd w [] p1 [.slice a_1 n_1 c_1]) :
    Calls Try.prog 45 #[.slice a_0 n_0 c_0, .slice a_1 n_1 c_1] w (fun en w' => en = .returned (.bool r) ∧ Ext [] w w') := by
  obtain rfl := rd_n g0
  obtain rfl := rd_n g1
  unfold laws_sameInts at H
  refine f_enter (vs := [.slice a_0 p0.length c_0, .slice a_1 p1.length c_1]) Try.func45 rfl Try.ntmps45 rfl (St.init w []) ?_
  refine c_seq ?_
  refine c_reg ?_
  refine ow_batch [.p] rfl ?_
  refine ow_nil ?_
  refine x_qs ?_
  refine c_seq ?_
  refine c_seq ?_
  refine c_reg ?_
  refine ow_batch [.p, .lenS 22 3 sl22, .p, .lenS 22 3 sl22, .p] rfl ?_
  refine ow_nil ?_
  refine x_qs ?_
  refine c_if rfl (fun hb => ?_) (fun hb => ?_)
  · have H := of_if_t hb H
    refine c_seq ?_
    refine c_reg ?_
    refine ow_batch [.p] rfl ?_
    refine ow_nil ?_
    refine x_qs ?_
    refine c_ret ?_
    refine x_qs_ret ?_
    exact x_retR (rs := [.tmp 4]) (vs := [.bool false]) rfl ⟨rfl, trivial⟩ (fun w' hw' => by
        obtain rfl := of_some H
        exact ⟨rfl, hw'.ext⟩)
  · have H := of_if_f hb H
    refine c_skip ?_
    refine x_qs ?_
    refine c_seq ?_
    refine c_seq ?_
    refine c_reg ?_
    refine ow_batch [.p] rfl ?_
    refine ow_nil ?_
    refine x_qs ?_
    refine c_block ?_
    refine CW.at (loopI1 (fun (i6 : Int) => St w [] []) (fun (i6 : Int) => [(0, .slice a_0 p0.length c_0), (1, .slice a_1 p1.length c_1), (5, .int .i64 i6)]) (fun kk => fun (i6 : Int) => laws_sameInts_L1 p0 p1 kk i6 = some r) (fun _ H => ?_) (fun k1 ihk1 i6 H => ?_) Fuel (0) (H)) (fun _ h => St.sel [] rfl rfl h) ⟨rfl, rfl, rfl,  trivial⟩
    · unfold laws_sameInts_L1 at H
      exact absurd H (by simp)
    · unfold laws_sameInts_L1 at H
      refine c_seq ?_
      refine c_seq ?_
      refine c_reg ?_
      refine ow_batch [.p, .p, .lenS 22 3 sl22, .p] rfl ?_
      refine ow_nil ?_
      refine x_qs ?_
      refine c_if rfl (fun hb => ?_) (fun hb => ?_)
      · have H := of_if_t hb H
        refine c_skip ?_
        refine x_qs ?_
        refine c_seq ?_
        refine c_block ?_
        refine c_seq ?_
        refine c_regQ mixed (by kernel_rfl) ?_
        refine ow_batch [.p, .p] rfl ?_
        obtain ⟨e12, h13, H⟩ := of_bind H
        refine ow_ixE (e := eVal (Value.int .i64) (fun _ => rfl)) (xs := p0) (j := i6) rfl rfl rfl rfl rfl sl22 ty3 rfl (fun w1 hw1 => rds_bor g0 w1 hw1) h13 (by rw [Nat.mul_one]) ?_
        refine ow_r rfl (dstOk_lt rfl) (ry_load1 rfl rfl ty3 (at_elV (fun w1 hw1 => rds_bor g0 w1 hw1) h13)) ?_
        refine ow_batch [.p, .p] rfl ?_
        obtain ⟨e14, h15, H⟩ := of_bind H
        refine ow_ixE (e := eVal (Value.int .i64) (fun _ => rfl)) (xs := p1) (j := i6) rfl rfl rfl rfl rfl sl22 ty3 rfl (fun w1 hw1 => rds_bor g1 w1 hw1) h15 (by rw [Nat.mul_one]) ?_
        refine ow_r rfl (dstOk_lt rfl) (ry_load1 rfl rfl ty3 (at_elV (fun w1 hw1 => rds_bor g1 w1 hw1) h15)) ?_
        refine ow_batch [.p] rfl ?_
        refine ow_nilQ ?_
        refine x_qs ?_
        refine c_if rfl (fun hb => ?_) (fun hb => ?_)
        · have H := of_if_t hb H
          refine c_seq ?_
          refine c_reg ?_
          refine ow_batch [.p] rfl ?_
          refine ow_nil ?_
          refine x_qs ?_
          refine c_ret ?_
          refine x_qb_ret ?_
          refine x_qs_ret ?_
          refine x_ql_ret ?_
          refine x_qb_ret ?_
          refine x_qs_ret ?_
          exact x_retR (rs := [.tmp 4]) (vs := [.bool false]) rfl ⟨rfl, trivial⟩ (fun w' hw' => by
              obtain rfl := of_some H
              exact ⟨rfl, hw'.ext⟩)
        · have H := of_if_f hb H
          refine c_skip ?_
          refine x_qb ?_
          refine x_qs ?_
          refine c_reg ?_
          refine ow_batch [.p, .p, .p] rfl ?_
          refine ow_nil ?_
          exact x_ql (RW.at (ihk1 (IntKind.i64.wrap (i6 + 1)) (H)) (fun _ h => St.sel [] rfl rfl h) ⟨rfl, rfl, rfl, trivial⟩)
      · have H := of_if_f hb H
        refine c_exit ?_
        refine x_qs_exit ?_
        refine x_ql_exit ?_
        refine x_qb_here ?_
        refine x_qs ?_
        refine c_seq ?_
        refine c_reg ?_
        refine ow_batch [.p] rfl ?_
        refine ow_nil ?_
        refine x_qs ?_
        refine c_ret ?_
        exact x_retR (rs := [.tmp 4]) (vs := [.bool true]) rfl ⟨rfl, trivial⟩ (fun w' hw' => by
            obtain rfl := of_some H
            exact ⟨rfl, hw'.ext⟩)

set_option maxHeartbeats 4000000 in
set_option maxRecDepth 100000 in
theorem laws_FnInts_ok (w : World) {p0 : List Int} {a_0 : Option Addr} {n_0 c_0 : Nat} {r : Bool} (H : laws_FnInts p0 = some r)  (g0 : (eList (eVal (Value.int .u8) (fun _ => rfl)) 5).rd w [] p0 [.slice a_0 n_0 c_0]) :
    Calls Try.prog 9 #[.slice a_0 n_0 c_0] w (fun en w' => en = .returned (.bool r) ∧ Ext [] w w') := by
  obtain rfl := rd_n g0
  unfold laws_FnInts at H
  refine f_enter (vs := [.slice a_0 p0.length c_0]) Try.func9 rfl Try.ntmps9 rfl (St.init w []) ?_
  refine c_seq ?_
  refine c_reg ?_
  refine ow_batch [.p] rfl ?_
  refine ow_nil ?_
  refine x_qs ?_
  refine c_seq ?_
  refine c_seq ?_
  refine c_reg ?_
  refine ow_batch [.p] rfl ?_
  obtain ⟨y1, h2, H⟩ := of_bind H
  refine ow_q rfl rfl (dstOk_lt rfl) (qy_call rfl fn40 rfl (fun w1 hw1 => laws_big_ok w1  h2 (rds_bor g0 w1 hw1))) (fun _ _ => trivial) ?_
  refine ow_nil ?_
  refine x_qs ?_
  refine c_if rfl (fun hb => ?_) (fun hb => ?_)
  · have H := of_if_t hb H
    refine c_seq ?_
    refine c_reg ?_
    refine ow_batch [.p] rfl ?_
    refine ow_nil ?_
    refine x_qs ?_
    refine c_ret ?_
    refine x_qs_ret ?_
    exact x_retR (rs := [.tmp 2]) (vs := [.bool true]) rfl ⟨rfl, trivial⟩ (fun w' hw' => by
        obtain rfl := of_some H
        exact ⟨rfl, hw'.ext⟩)
  · have H := of_if_f hb H
    refine c_skip ?_
    refine x_qs ?_
    refine c_seq ?_
    refine c_reg ?_
    refine ow_batch [.p] rfl ?_
    obtain ⟨y3, h4, H⟩ := of_bind H
    refine ow_q rfl rfl (dstOk_lt rfl) (qy_call rfl fn41 rfl (fun w1 hw1 => spec_DrawPutInt_ok w1  h4 (rds_bor g0 w1 hw1))) (fun _ _ => trivial) ?_
    refine ow_batch [.p] rfl ?_
    refine ow_nil ?_
    refine x_qs ?_
    refine c_seq ?_
    refine c_reg ?_
    refine ow_batch [.p] rfl ?_
    obtain ⟨y5, h6, H⟩ := of_bind H
    refine ow_callS rfl fn42 rfl rfl rfl rfl (fun w1 hw1 => spec_DrawPutInts_ok w1  h6 (hw1.carve [] rfl rfl) (rds_bor g0 w1 hw1)) (fun v7 w1 w2 hw1 hR9 => ?_)
    obtain ⟨a10, n11, c12, F13, rfl, hS8⟩ := hR9
    obtain rfl := own_nS (i := 0) hS8 rfl
    refine ⟨St w [] [_], hw1.comp [] rfl rfl hS8, fun _ _ => trivial, ?_⟩
    refine ow_batch [.p] rfl ?_
    refine ow_nil ?_
    refine x_qs ?_
    refine c_seq ?_
    refine c_reg ?_
    refine ow_batch [.p] rfl ?_
    obtain ⟨y14, h15, H⟩ := of_bind H
    refine ow_callS rfl fn43 rfl rfl rfl rfl (fun w1 hw1 => impl_PutInt_ok w1  h15 (hw1.carve [] rfl rfl)) (fun v16 w1 w2 hw1 hR18 => ?_)
    obtain ⟨a19, n20, c21, F22, rfl, hz23, hS17⟩ := hR18
    obtain rfl := own_nS (i := 0) hS17 rfl
    refine ⟨St w [] [_, _], hw1.comp [] rfl rfl hS17, fun _ _ => trivial, ?_⟩
    refine ow_batch [.p] rfl ?_
    refine ow_nil ?_
    refine x_qs ?_
    refine c_seq ?_
    refine c_reg ?_
    refine ow_blit0 (e := eVal (Value.int .u8) (fun _ => rfl)) rfl rfl rfl rfl sl23 ty5 (fun _ => kp) (fun b24 => ?_)
    refine ow_batch [.p] rfl ?_
    obtain ⟨l25, h26, H⟩ := of_bind H
    refine ow_appR (r := 2) (ys := y14.1) rfl rfl rfl rfl rfl rfl sl23 ty5 rfl rfl rfl (fun w1 hw1 => rds_own (r := 1) rfl w1 hw1) h26 (fun _ _ _ => kp) (fun a27 c28 F29 => ?_)
    refine ow_batch [.p] rfl ?_
    obtain ⟨y30, h31, H⟩ := of_bind H
    refine ow_callS rfl fn12 rfl rfl rfl rfl (fun w1 hw1 => impl_PutInts_ok w1  h31 (hw1.carve [] rfl rfl) (rds_own (r := 0) rfl w1 hw1)) (fun v32 w1 w2 hw1 hR34 => ?_)
    obtain ⟨a35, n36, c37, F38, rfl, hS33⟩ := hR34
    obtain rfl := own_nS (i := 0) hS33 rfl
    refine ⟨St w [] [_, _, _, _], hw1.comp [] rfl rfl hS33, fun _ _ => trivial, ?_⟩
    obtain ⟨l39, h40, H⟩ := of_bind H
    refine ow_appR (r := 2) (ys := y30) rfl rfl rfl rfl rfl rfl sl23 ty5 rfl rfl rfl (fun w1 hw1 => rds_own (r := 3) rfl w1 hw1) h40 (fun _ _ _ => kp) (fun a41 c42 F43 => ?_)
    refine ow_batch [.p] rfl ?_
    refine ow_nil ?_
    refine x_qs ?_
    refine c_seq ?_
    refine c_reg ?_
    refine ow_batch [.p] rfl ?_
    refine ow_blit (val := Value.int .u8) (h1 := fun _ => rfl) [9] [(0, [.int .u8 9])] rfl rfl rfl rfl rfl sl23 ty5 rfl rfl rfl ⟨rfl, rfl, Nat.le_of_ble_eq_true rfl,  trivial⟩ rfl rfl (fun _ => kp) (fun b44 => ?_)
    obtain ⟨l45, h46, H⟩ := of_bind H
    refine ow_appR (r := 2) (ys := ([9] : List Int)) rfl rfl rfl rfl rfl rfl sl23 ty5 rfl rfl rfl (fun w1 hw1 => rds_own (r := 4) rfl w1 hw1) h46 (fun _ _ _ => kp) (fun a47 c48 F49 => ?_)
    refine ow_fact rfl (fun w1 hw1 => own_nn (i := 2) hw1 rfl (app_ne h46)) (fun hz50 => ?_)
    refine ow_batch [.p] rfl ?_
    refine ow_nil ?_
    refine x_qs ?_
    refine c_seq ?_
    refine c_reg ?_
    refine ow_batch [.p] rfl ?_
    refine ow_nil ?_
    refine x_qs ?_
    refine c_join1 (fun (i59 : Int) => St w [] [Res.own (eList (eVal (Value.int .i64) (fun _ => rfl)) 3) F13 y5 [.slice a10 y5.length c12], Res.own (eList (eVal (Value.int .u8) (fun _ => rfl)) 5) F22 y14.1 [.slice a19 y14.1.length c21], Res.own (eList (eVal (Value.int .u8) (fun _ => rfl)) 5) F49 l45 [.slice a47 l45.length c48]]) (fun (i59 : Int) => [(4, .slice a10 y5.length c12), (5, .slice a19 y14.1.length c21), (6, .slice a47 l45.length c48), (7, .int .i64 i59)]) (fun (i59 : Int) => laws_FnInts_J1 y5 l45 y14 i59 = some r) (fun i59 H => ?_) (fun J1 => ?_)
    · unfold laws_FnInts_J1 at H
      refine c_seq ?_
      refine c_seq ?_
      refine c_reg ?_
      refine ow_batch [.p] rfl ?_
      refine ow_nil ?_
      refine x_qs ?_
      refine c_block ?_
      refine CW.at (loopI1 (fun (i68 : Int) => St w [] [Res.own (eList (eVal (Value.int .i64) (fun _ => rfl)) 3) F13 y5 [.slice a10 y5.length c12], Res.own (eList (eVal (Value.int .u8) (fun _ => rfl)) 5) F22 y14.1 [.slice a19 y14.1.length c21], Res.own (eList (eVal (Value.int .u8) (fun _ => rfl)) 5) F49 l45 [.slice a47 l45.length c48]]) (fun (i68 : Int) => [(4, .slice a10 y5.length c12), (5, .slice a19 y14.1.length c21), (6, .slice a47 l45.length c48), (7, .int .i64 i59), (11, .int .i64 i68)]) (fun kk => fun (i68 : Int) => laws_FnInts_L1 y5 l45 y14 i59 kk i68 = some r) (fun _ H => ?_) (fun k1 ihk1 i68 H => ?_) Fuel (0) (H)) (fun _ h => St.sel [0, 1, 2] rfl rfl h) ⟨rfl, rfl, rfl, rfl, rfl,  trivial⟩
      · unfold laws_FnInts_L1 at H
        exact absurd H (by simp)
      · unfold laws_FnInts_L1 at H
        refine c_seq ?_
        refine c_seq ?_
        refine c_reg ?_
        refine ow_batch [.p, .p, .lenS 22 3 sl22, .p] rfl ?_
        refine ow_nil ?_
        refine x_qs ?_
        refine c_if rfl (fun hb => ?_) (fun hb => ?_)
        · have H := of_if_t hb H
          refine c_skip ?_
          refine x_qs ?_
          refine c_seq ?_
          refine c_block ?_
          refine c_seq ?_
          refine c_reg ?_
          refine ow_batch [.p, .p] rfl ?_
          obtain ⟨e77, h78, H⟩ := of_bind H
          refine ow_ixE (e := eVal (Value.int .i64) (fun _ => rfl)) (xs := y5) (j := i68) rfl rfl rfl rfl rfl sl22 ty3 rfl (fun w1 hw1 => rds_own (r := 0) rfl w1 hw1) h78 (by rw [Nat.mul_one]) ?_
          refine ow_r rfl (dstOk_lt rfl) (ry_load1 rfl rfl ty3 (at_elV (fun w1 hw1 => rds_own (r := 0) rfl w1 hw1) h78)) ?_
          refine ow_batch [.p, .p] rfl ?_
          obtain ⟨u79, hu83, H⟩ := of_bind H
          refine ow_cut [(78, .bool u79), (4, .slice a10 y5.length c12), (5, .slice a19 y14.1.length c21), (6, .slice a47 l45.length c48), (7, .int .i64 i59), (11, .int .i64 i68)] 6 ?_ (fun key => OW.sub (R := [(4, .slice a10 y5.length c12), (5, .slice a19 y14.1.length c21), (6, .slice a47 l45.length c48), (7, .int .i64 i59), (11, .int .i64 i68), (72, .bool (decide (e77 > 1000000000)))]) ?_ ⟨rfl, rfl, rfl, rfl, rfl, rfl, trivial⟩)
          · refine ow_nil ?_
            refine x_qs ?_
            refine c_if rfl (fun hb => ?_) (fun hb => ?_)
            · have H := of_if_t hb H
              refine c_seq ?_
              refine c_reg ?_
              refine ow_batch [.p, .lenS 23 5 sl23, .p, .lenS 23 5 sl23, .p, .p, .p] rfl ?_
              refine ow_nil ?_
              refine x_qs ?_
              refine c_ret ?_
              refine x_qb_ret ?_
              refine x_qs_ret ?_
              refine x_ql_ret ?_
              refine x_qb_ret ?_
              refine x_qs_ret ?_
              exact x_retR (rs := [.tmp 2]) (vs := [.bool ((l45.length : Int) == (IntKind.i64.wrap ((y14.1.length : Int) + 1)))]) rfl ⟨rfl, trivial⟩ (fun w' hw' => by
                  obtain rfl := of_some H
                  exact ⟨rfl, hw'.ext⟩)
            · have H := of_if_f hb H
              refine c_skip ?_
              refine x_qb ?_
              refine x_qs ?_
              refine c_reg ?_
              refine ow_batch [.p, .p, .p] rfl ?_
              refine ow_nil ?_
              exact x_ql (RW.at (ihk1 (IntKind.i64.wrap (i68 + 1)) (H)) (fun _ h => St.sel [0, 1, 2] rfl rfl h) ⟨rfl, rfl, rfl, rfl, rfl, trivial⟩)
          · clear H
            have H := hu83
            clear hu83
            generalize (decide (e77 > 1000000000)) = t82 at H ⊢
            cases t82
            · have H := of_if_f rfl H
              refine ow_batch [.p, .p] rfl ?_
              obtain ⟨e80, h81, H⟩ := of_bind H
              refine ow_ixE (e := eVal (Value.int .i64) (fun _ => rfl)) (xs := y5) (j := i68) rfl rfl rfl rfl rfl sl22 ty3 rfl (fun w1 hw1 => rds_own (r := 0) rfl w1 hw1) h81 (by rw [Nat.mul_one]) ?_
              refine ow_r rfl (dstOk_lt rfl) (ry_load1 rfl rfl ty3 (at_elV (fun w1 hw1 => rds_own (r := 0) rfl w1 hw1) h81)) ?_
              refine ow_batch [.p] rfl ?_
              refine ow_batch [.p] rfl ?_
              obtain rfl := of_some H
              exact OW.sub key ⟨rfl, rfl, rfl, rfl, rfl, rfl, trivial⟩
            · have H := of_if_t rfl H
              refine ow_batch [.p, .p, .p, .p, .p, .p] rfl ?_
              obtain rfl := of_some H
              exact OW.sub key ⟨rfl, rfl, rfl, rfl, rfl, rfl, trivial⟩
        · have H := of_if_f hb H
          refine c_exit ?_
          refine x_qs_exit ?_
          refine x_ql_exit ?_
          refine x_qb_here ?_
          refine x_qs ?_
          refine c_seq ?_
          refine c_reg ?_
          refine ow_batch [.p, .p] rfl ?_
          obtain ⟨y84, h85, H⟩ := of_bind H
          refine ow_callS rfl fn20 rfl rfl rfl rfl (fun w1 hw1 => impl_GetInts_ok w1  h85 (hw1.carve [] rfl rfl) (rds_own (r := 2) rfl w1 hw1)) (fun v86 w1 w2 hw1 hR88 => ?_)
          obtain ⟨a89, n90, c91, F92, rfl, hS87⟩ := hR88
          obtain rfl := own_nS (i := 0) hS87 rfl
          refine ⟨St w [] [_, _, _, _], hw1.comp [] rfl rfl hS87, fun _ _ => trivial, ?_⟩
          refine ow_batch [.p, .p, .p, .p, .p, .p, .p] rfl ?_
          refine ow_nil ?_
          refine x_qs ?_
          refine c_seq ?_
          refine c_reg ?_
          refine ow_batch [.p, .p] rfl ?_
          obtain ⟨u93, hu97, H⟩ := of_bind H
          refine ow_cut [(97, .bool u93), (6, .slice a47 l45.length c48), (13, .int .i64 y84.2.1)] 4 ?_ (fun key => OW.sub (R := [(4, .slice a10 y5.length c12), (6, .slice a47 l45.length c48), (12, .slice a89 y84.1.length c91), (13, .int .i64 y84.2.1), (93, .bool y84.2.2)]) ?_ ⟨rfl, rfl, rfl, rfl, rfl, trivial⟩)
          · refine ow_batch [.p] rfl ?_
            refine ow_cut [(104, .bool (u93 && (y84.2.1 == (IntKind.i64.wrap ((l45.length : Int) - 1)))))] 6 ?_ (fun key => OW.sub (R := [(6, .slice a47 l45.length c48), (13, .int .i64 y84.2.1), (98, .bool u93)]) ?_ ⟨rfl, rfl, rfl, trivial⟩)
            · refine ow_batch [.p] rfl ?_
              refine ow_nil ?_
              refine x_qs ?_
              refine c_ret ?_
              exact x_retR (rs := [.tmp 2]) (vs := [.bool (u93 && (y84.2.1 == (IntKind.i64.wrap ((l45.length : Int) - 1))))]) rfl ⟨rfl, trivial⟩ (fun w' hw' => by
                  obtain rfl := of_some H
                  exact ⟨rfl, hw'.ext⟩)
            · generalize u93 = t99 at key ⊢
              cases t99
              · refine ow_batch [.p, .p, .p, .p, .p, .p] rfl ?_
                exact OW.sub key ⟨rfl, trivial⟩
              · refine ow_batch [.p, .p, .lenS 23 5 sl23, .p, .p] rfl ?_
                refine ow_batch [.p] rfl ?_
                exact OW.sub key ⟨rfl, trivial⟩
          · clear H
            have H := hu97
            clear hu97
            generalize y84.2.2 = t96 at H ⊢
            cases t96
            · have H := of_if_f rfl H
              refine ow_batch [.p, .p, .p, .p] rfl ?_
              obtain rfl := of_some H
              exact OW.sub key ⟨rfl, rfl, rfl, trivial⟩
            · have H := of_if_t rfl H
              refine ow_batch [.p, .p] rfl ?_
              obtain ⟨y94, h95, H⟩ := of_bind H
              refine ow_q rfl rfl (dstOk_lt rfl) (qy_call rfl fn45 rfl (fun w1 hw1 => laws_sameInts_ok w1  h95 (rds_own (r := 3) rfl w1 hw1) (rds_own (r := 0) rfl w1 hw1))) (fun _ _ => trivial) ?_
              refine ow_batch [.p] rfl ?_
              obtain rfl := of_some H
              exact OW.sub key ⟨rfl, rfl, rfl, trivial⟩
    · refine c_seq ?_
      refine c_reg ?_
      refine ow_batch [.p, .p, .p] rfl ?_
      refine ow_cut [(37, .bool ((decide (y3 ≥ (-1000000000))) && (decide (y3 ≤ 1000000000)))), (3, .int .i64 y3), (4, .slice a10 y5.length c12), (5, .slice a19 y14.1.length c21), (6, .slice a47 l45.length c48), (7, .int .i64 0)] 3 ?_ (fun key => OW.sub (R := [(3, .int .i64 y3), (4, .slice a10 y5.length c12), (5, .slice a19 y14.1.length c21), (6, .slice a47 l45.length c48), (7, .int .i64 0), (34, .bool (decide (y3 ≥ (-1000000000))))]) ?_ ⟨rfl, rfl, rfl, rfl, rfl, rfl, trivial⟩)
      · refine ow_nil ?_
        refine x_qs ?_
        refine c_if rfl (fun hb => ?_) (fun hb => ?_)
        · have H := of_if_t hb H
          refine c_seq ?_
          refine c_reg ?_
          refine ow_batch [.p] rfl ?_
          obtain ⟨y102, h103, H⟩ := of_bind H
          refine ow_q rfl rfl (dstOk_lt rfl) (qy_call rfl fn44 rfl (fun w1 hw1 => impl_GetInt_ok w1  h103 (rds_own (r := 2) rfl w1 hw1))) (fun _ _ => trivial) ?_
          refine ow_batch [.p, .p, .p, .p, .p, .p, .p] rfl ?_
          refine ow_nil ?_
          refine x_qs ?_
          refine c_seq ?_
          refine c_seq ?_
          refine c_reg ?_
          refine ow_batch [.p, .p, .p] rfl ?_
          refine ow_cut [(50, .bool ((!y102.2.2) || (y102.1 != y3))), (4, .slice a10 y5.length c12), (5, .slice a19 y14.1.length c21), (6, .slice a47 l45.length c48), (9, .int .i64 y102.2.1)] 4 ?_ (fun key => OW.sub (R := [(3, .int .i64 y3), (4, .slice a10 y5.length c12), (5, .slice a19 y14.1.length c21), (6, .slice a47 l45.length c48), (8, .int .i64 y102.1), (9, .int .i64 y102.2.1), (46, .bool (!y102.2.2))]) ?_ ⟨rfl, rfl, rfl, rfl, rfl, rfl, rfl, trivial⟩)
          · refine ow_batch [.p] rfl ?_
            refine ow_cut [(56, .bool (((!y102.2.2) || (y102.1 != y3)) || (y102.2.1 != (y14.1.length : Int)))), (4, .slice a10 y5.length c12), (5, .slice a19 y14.1.length c21), (6, .slice a47 l45.length c48), (9, .int .i64 y102.2.1)] 5 ?_ (fun key => OW.sub (R := [(4, .slice a10 y5.length c12), (5, .slice a19 y14.1.length c21), (6, .slice a47 l45.length c48), (9, .int .i64 y102.2.1), (51, .bool ((!y102.2.2) || (y102.1 != y3)))]) ?_ ⟨rfl, rfl, rfl, rfl, rfl, trivial⟩)
            · refine ow_nil ?_
              refine x_qs ?_
              refine c_if rfl (fun hb => ?_) (fun hb => ?_)
              · have H := of_if_t hb H
                refine c_seq ?_
                refine c_reg ?_
                refine ow_batch [.p] rfl ?_
                refine ow_nil ?_
                refine x_qs ?_
                refine c_ret ?_
                refine x_qs_ret ?_
                refine x_qs_ret ?_
                exact x_retR (rs := [.tmp 2]) (vs := [.bool false]) rfl ⟨rfl, trivial⟩ (fun w' hw' => by
                    obtain rfl := of_some H
                    exact ⟨rfl, hw'.ext⟩)
              · have H := of_if_f hb H
                refine c_skip ?_
                refine x_qs ?_
                refine c_reg ?_
                refine ow_batch [.p, .p] rfl ?_
                refine ow_nil ?_
                exact XW.at (J1 (y102.2.1) (H)) (fun _ h => St.sel [0, 1, 2] rfl rfl h) ⟨rfl, rfl, rfl, rfl, trivial⟩
            · generalize ((!y102.2.2) || (y102.1 != y3)) = t107 at key ⊢
              cases t107
              · refine ow_batch [.p, .p, .lenS 23 5 sl23, .p] rfl ?_
                refine ow_batch [.p] rfl ?_
                exact OW.sub key ⟨rfl, rfl, rfl, rfl, rfl, trivial⟩
              · refine ow_batch [.p, .p, .p, .p, .p] rfl ?_
                exact OW.sub key ⟨rfl, rfl, rfl, rfl, rfl, trivial⟩
          · generalize (!y102.2.2) = t105 at key ⊢
            cases t105
            · refine ow_batch [.p, .p, .p] rfl ?_
              refine ow_batch [.p] rfl ?_
              exact OW.sub key ⟨rfl, rfl, rfl, rfl, rfl, trivial⟩
            · refine ow_batch [.p, .p, .p, .p] rfl ?_
              exact OW.sub key ⟨rfl, rfl, rfl, rfl, rfl, trivial⟩
        · have H := of_if_f hb H
          refine c_seq ?_
          refine c_reg ?_
          refine ow_batch [.p, .lenS 23 5 sl23, .p] rfl ?_
          refine ow_nil ?_
          refine x_qs ?_
          refine c_if rfl (fun hb => ?_) (fun hb => ?_)
          · have H := of_if_t hb H
            refine c_seq ?_
            refine c_reg ?_
            refine ow_batch [.p] rfl ?_
            refine ow_nil ?_
            refine x_qs ?_
            refine c_ret ?_
            refine x_qs_ret ?_
            exact x_retR (rs := [.tmp 2]) (vs := [.bool false]) rfl ⟨rfl, trivial⟩ (fun w' hw' => by
                obtain rfl := of_some H
                exact ⟨rfl, hw'.ext⟩)
          · have H := of_if_f hb H
            refine c_skip ?_
            exact XW.at (J1 (0) (H)) (fun _ h => St.sel [0, 1, 2] rfl rfl h) ⟨rfl, rfl, rfl, rfl, trivial⟩
      · generalize (decide (y3 ≥ (-1000000000))) = t101 at key ⊢
        cases t101
        · refine ow_batch [.p, .p, .p] rfl ?_
          exact OW.sub key ⟨rfl, rfl, rfl, rfl, rfl, rfl, trivial⟩
        · refine ow_batch [.p, .p] rfl ?_
          refine ow_batch [.p] rfl ?_
          exact OW.sub key ⟨rfl, rfl, rfl, rfl, rfl, rfl, trivial⟩

set_option maxHeartbeats 4000000 in
set_option maxRecDepth 100000 in
theorem laws_toByteS_ok (w : World) {M0 : List Nat} {p0 : List Int} {a_0 : Option Addr} {n_0 c_0 : Nat} {r : List Int} (H : laws_toByteS p0 = some r) (HS : St w M0 [] w) (g0 : (eList (eVal (Value.int .u8) (fun _ => rfl)) 5).rd w M0 p0 [.slice a_0 n_0 c_0]) :
    Calls Try.prog 19 #[.slice a_0 n_0 c_0] w (fun en w' => ∃ v, en = .returned v ∧ ∃ (a0 : Option Addr), ∃ (n0 : Nat), ∃ (c0 : Nat), ∃ (F0 : List Nat), v = .slice a0 n0 c0 ∧ St w M0 [Res.own (eList (eVal (Value.int .u8) (fun _ => rfl)) 5) F0 r [.slice a0 n0 c0]] w') := by
  obtain rfl := rd_n g0
  unfold laws_toByteS at H
  refine f_enter (vs := [.slice a_0 p0.length c_0]) Try.func19 rfl Try.ntmps19 rfl (HS) ?_
  refine c_seq ?_
  refine c_reg ?_
  refine ow_batch [.p] rfl ?_
  refine ow_nil ?_
  refine x_qs ?_
  refine c_seq ?_
  refine c_reg ?_
  refine ow_batch [.p, .lenS 23 5 sl23] rfl ?_
  obtain ⟨l1, h2, H⟩ := of_bind H
  refine ow_make (e := eVal (Value.int .u8) (fun _ => rfl)) (zero := (0 : Int)) rfl rfl rfl rfl rfl rfl sl23 ty5 rfl rfl rfl rfl (fun _ => ⟨rfl, rfl⟩) h2 (fun _ => kp) (fun b3 => ?_)
  refine ow_batch [.p] rfl ?_
  refine ow_nil ?_
  refine x_qs ?_
  refine c_seq ?_
  refine c_seq ?_
  refine c_reg ?_
  refine ow_batch [.p] rfl ?_
  refine ow_nil ?_
  refine x_qs ?_
  refine c_block ?_
  refine CW.at (loopI2 (fun (l10 : List Int) (i11 : Int) => St w M0 [Res.own (eList (eVal (Value.int .u8) (fun _ => rfl)) 5) [b3] l10 [.slice (some ⟨b3, 0, none⟩) l1.length l1.length]]) (fun (l10 : List Int) (i11 : Int) => [(0, .slice a_0 p0.length c_0), (3, .slice (some ⟨b3, 0, none⟩) l1.length l1.length), (4, .int .i64 i11)]) (fun kk => fun (l10 : List Int) (i11 : Int) => laws_toByteS_L1 p0 kk l10 i11 = some r) (fun _ _ H => ?_) (fun k1 ihk1 l10 i11 H => ?_) Fuel (l1) (0) (H)) (fun _ h => St.sel [0] rfl rfl h) ⟨rfl, rfl, rfl,  trivial⟩
  · unfold laws_toByteS_L1 at H
    exact absurd H (by simp)
  · unfold laws_toByteS_L1 at H
    refine c_seq ?_
    refine c_seq ?_
    refine c_reg ?_
    refine ow_batch [.p, .p, .lenS 23 5 sl23, .p] rfl ?_
    refine ow_nil ?_
    refine x_qs ?_
    refine c_if rfl (fun hb => ?_) (fun hb => ?_)
    · have H := of_if_t hb H
      refine c_skip ?_
      refine x_qs ?_
      refine c_seq ?_
      refine c_block ?_
      refine c_reg ?_
      refine ow_batch [.p, .p, .p, .p] rfl ?_
      obtain ⟨e18, h19, H⟩ := of_bind H
      refine ow_ixE (e := eVal (Value.int .u8) (fun _ => rfl)) (xs := p0) (j := i11) rfl rfl rfl rfl rfl sl23 ty5 rfl (fun w1 hw1 => rds_bor g0 w1 hw1) h19 (by rw [Nat.mul_one]) ?_
      refine ow_r rfl (dstOk_lt rfl) (ry_load1 rfl rfl ty5 (at_elV (fun w1 hw1 => rds_bor g0 w1 hw1) h19)) ?_
      obtain ⟨e20, h21, H⟩ := of_bind H
      refine ow_ixE (e := eVal (Value.int .u8) (fun _ => rfl)) (xs := l10) (j := i11) rfl rfl rfl rfl rfl sl23 ty5 rfl (fun w1 hw1 => rds_own (r := 0) rfl w1 hw1) h21 (by rw [Nat.mul_one]) ?_
      refine ow_storeV (i := 0) (j := i11) rfl rfl rfl rfl rfl rfl ty5 rfl h21 (fun _ => rfl) kp ?_
      refine ow_nil ?_
      refine x_qb ?_
      refine x_qs ?_
      refine c_reg ?_
      refine ow_batch [.p, .p, .p] rfl ?_
      refine ow_nil ?_
      exact x_ql (RW.at (ihk1 ((l10.set i11.toNat e18)) (IntKind.i64.wrap (i11 + 1)) (H)) (fun _ h => St.sel [0] rfl rfl h) ⟨rfl, rfl, rfl, trivial⟩)
    · have H := of_if_f hb H
      refine c_exit ?_
      refine x_qs_exit ?_
      refine x_ql_exit ?_
      refine x_qb_here ?_
      refine x_qs ?_
      refine c_seq ?_
      refine c_reg ?_
      refine ow_batch [.p, .p] rfl ?_
      refine ow_nil ?_
      refine x_qs ?_
      refine c_ret ?_
      exact x_retR (rs := [.tmp 2]) (vs := [.slice (some ⟨b3, 0, none⟩) l1.length l1.length]) rfl ⟨rfl, trivial⟩ (fun w' hw' => by
          obtain rfl := of_some H
          exact ⟨_, rfl, (some ⟨b3, 0, none⟩), l1.length, l1.length, [b3], rfl, hw'.sel [0] rfl rfl⟩)

set_option maxHeartbeats 4000000 in
set_option maxRecDepth 100000 in
theorem spec_GetNum_ok (w : World) {p0 : List Int} {p1 : Int} {a_0 : Option Addr} {n_0 c_0 : Nat} {r : Int × Int × Bool} (H : spec_GetNum p0 p1 = some r)  (g0 : (eList (eVal (Value.int .u8) (fun _ => rfl)) 5).rd w [] p0 [.slice a_0 n_0 c_0]) :
    Calls Try.prog 83 #[.slice a_0 n_0 c_0, .int .i64 p1] w (fun en w' => en = .returned (.tuple #[.int .i64 r.1, .int .i64 r.2.1, .bool r.2.2]) ∧ Ext [] w w') := by
  obtain rfl := rd_n g0
  unfold spec_GetNum at H
  refine f_enter (vs := [.slice a_0 p0.length c_0, .int .i64 p1]) Try.func83 rfl Try.ntmps83 rfl (St.init w []) ?_
  refine c_seq ?_
  refine c_reg ?_
  refine ow_batch [.p, .p, .p] rfl ?_
  refine ow_nil ?_
  refine x_qs ?_
  refine c_seq ?_
  refine c_reg ?_
  refine ow_batch [.p] rfl ?_
  refine ow_nil ?_
  refine x_qs ?_
  refine c_seq ?_
  refine c_seq ?_
  refine c_reg ?_
  refine ow_batch [.p] rfl ?_
  refine ow_nil ?_
  refine x_qs ?_
  refine c_block ?_
  refine CW.at (loopI2 (fun (i13 : Int) (i14 : Int) => St w [] []) (fun (i13 : Int) (i14 : Int) => [(0, .slice a_0 p0.length c_0), (1, .int .i64 p1), (7, .int .i64 i13), (8, .int .i64 i14)]) (fun kk => fun (i13 : Int) (i14 : Int) => spec_GetNum_L1 p1 p0 kk i13 i14 = some r) (fun _ _ H => ?_) (fun k1 ihk1 i13 i14 H => ?_) Fuel (0) (0) (H)) (fun _ h => St.sel [] rfl rfl h) ⟨rfl, rfl, rfl, rfl,  trivial⟩
  · unfold spec_GetNum_L1 at H
    exact absurd H (by simp)
  · unfold spec_GetNum_L1 at H
    refine c_seq ?_
    refine c_seq ?_
    refine c_reg ?_
    refine ow_batch [.p, .p] rfl ?_
    refine ow_nil ?_
    refine x_qs ?_
    refine c_if rfl (fun hb => ?_) (fun hb => ?_)
    · have H := of_if_t hb H
      refine c_skip ?_
      refine x_qs ?_
      refine c_seq ?_
      refine c_block ?_
      refine c_seq ?_
      refine c_seq ?_
      refine c_reg ?_
      refine ow_batch [.p, .p, .p] rfl ?_
      refine ow_cut [(23, .bool ((decide (p1 < 0)) || (decide (p1 ≥ (IntKind.i64.wrap ((p0.length : Int) - i14)))))), (0, .slice a_0 p0.length c_0), (1, .int .i64 p1), (7, .int .i64 i13), (8, .int .i64 i14)] 7 ?_ (fun key => OW.sub (R := [(0, .slice a_0 p0.length c_0), (1, .int .i64 p1), (7, .int .i64 i13), (8, .int .i64 i14), (16, .bool (decide (p1 < 0)))]) ?_ ⟨rfl, rfl, rfl, rfl, rfl, trivial⟩)
      · refine ow_nil ?_
        refine x_qs ?_
        refine c_if rfl (fun hb => ?_) (fun hb => ?_)
        · have H := of_if_t hb H
          refine c_seq ?_
          refine c_reg ?_
          refine ow_batch [.p, .p, .p] rfl ?_
          refine ow_nil ?_
          refine x_qs ?_
          refine c_ret ?_
          refine x_qs_ret ?_
          refine x_qb_ret ?_
          refine x_qs_ret ?_
          refine x_ql_ret ?_
          refine x_qb_ret ?_
          refine x_qs_ret ?_
          exact x_retR (rs := [.tmp 4, .tmp 5, .tmp 6]) (vs := [.int .i64 0, .int .i64 0, .bool false]) rfl ⟨rfl, rfl, rfl, trivial⟩ (fun w' hw' => by
              obtain rfl := of_some H
              exact ⟨rfl, hw'.ext⟩)
        · have H := of_if_f hb H
          refine c_skip ?_
          refine x_qs ?_
          refine c_seq ?_
          refine c_reg ?_
          refine ow_batch [.p, .p, .p, .p] rfl ?_
          obtain ⟨e29, h30, H⟩ := of_bind H
          refine ow_ixE (e := eVal (Value.int .u8) (fun _ => rfl)) (xs := p0) (j := IntKind.i64.wrap (p1 + i14)) rfl rfl rfl rfl rfl sl23 ty5 rfl (fun w1 hw1 => rds_bor g0 w1 hw1) h30 (by rw [Nat.mul_one]) ?_
          refine ow_r rfl (dstOk_lt rfl) (ry_load1 rfl rfl ty5 (at_elV (fun w1 hw1 => rds_bor g0 w1 hw1) h30)) ?_
          refine ow_batch [.cv 5 3 .i64 us5 in3, .p] rfl ?_
          refine ow_nil ?_
          refine x_qs ?_
          refine c_seq ?_
          refine c_reg ?_
          refine ow_batch [.p, .p, .p, .p, .p] rfl ?_
          obtain ⟨x31, h32, H⟩ := of_bind H
          refine ow_r rfl (dstOk_lt rfl) (ry_shl rfl rfl rfl h32) ?_
          refine ow_batch [.p, .p] rfl ?_
          refine ow_nil ?_
          refine x_qs ?_
          refine c_seq ?_
          refine c_reg ?_
          refine ow_batch [.p, .p] rfl ?_
          refine ow_nil ?_
          refine x_qs ?_
          refine c_if rfl (fun hb => ?_) (fun hb => ?_)
          · have H := of_if_t hb H
            refine c_seq ?_
            refine c_seq ?_
            refine c_reg ?_
            refine ow_batch [.p, .p, .p] rfl ?_
            refine ow_cut [(45, .bool ((decide (i14 > 0)) && ((IntKind.i64.wrap e29) == 0))), (1, .int .i64 p1), (7, .int .i64 (ibits .or .i64 i13 x31)), (8, .int .i64 i14)] 3 ?_ (fun key => OW.sub (R := [(1, .int .i64 p1), (7, .int .i64 (ibits .or .i64 i13 x31)), (8, .int .i64 i14), (9, .int .i64 (IntKind.i64.wrap e29)), (42, .bool (decide (i14 > 0)))]) ?_ ⟨rfl, rfl, rfl, rfl, rfl, trivial⟩)
            · refine ow_batch [.p] rfl ?_
              refine ow_cut [(49, .bool (((decide (i14 > 0)) && ((IntKind.i64.wrap e29) == 0)) || (decide ((ibits .or .i64 i13 x31) > 2147483647)))), (1, .int .i64 p1), (7, .int .i64 (ibits .or .i64 i13 x31)), (8, .int .i64 i14)] 3 ?_ (fun key => OW.sub (R := [(1, .int .i64 p1), (7, .int .i64 (ibits .or .i64 i13 x31)), (8, .int .i64 i14), (46, .bool ((decide (i14 > 0)) && ((IntKind.i64.wrap e29) == 0)))]) ?_ ⟨rfl, rfl, rfl, rfl, trivial⟩)
              · refine ow_nil ?_
                refine x_qs ?_
                refine c_if rfl (fun hb => ?_) (fun hb => ?_)
                · have H := of_if_t hb H
                  refine c_seq ?_
                  refine c_reg ?_
                  refine ow_batch [.p, .p, .p] rfl ?_
                  refine ow_nil ?_
                  refine x_qs ?_
                  refine c_ret ?_
                  refine x_qs_ret ?_
                  refine x_qb_ret ?_
                  refine x_qs_ret ?_
                  refine x_ql_ret ?_
                  refine x_qb_ret ?_
                  refine x_qs_ret ?_
                  exact x_retR (rs := [.tmp 4, .tmp 5, .tmp 6]) (vs := [.int .i64 0, .int .i64 0, .bool false]) rfl ⟨rfl, rfl, rfl, trivial⟩ (fun w' hw' => by
                      obtain rfl := of_some H
                      exact ⟨rfl, hw'.ext⟩)
                · have H := of_if_f hb H
                  refine c_skip ?_
                  refine x_qs ?_
                  refine c_seq ?_
                  refine c_reg ?_
                  refine ow_batch [.p, .p, .p, .p, .p, .p, .p, .p] rfl ?_
                  refine ow_nil ?_
                  refine x_qs ?_
                  refine c_ret ?_
                  refine x_qb_ret ?_
                  refine x_qs_ret ?_
                  refine x_ql_ret ?_
                  refine x_qb_ret ?_
                  refine x_qs_ret ?_
                  exact x_retR (rs := [.tmp 4, .tmp 5, .tmp 6]) (vs := [.int .i64 (ibits .or .i64 i13 x31), .int .i64 (IntKind.i64.wrap ((IntKind.i64.wrap (p1 + i14)) + 1)), .bool true]) rfl ⟨rfl, rfl, rfl, trivial⟩ (fun w' hw' => by
                      obtain rfl := of_some H
                      exact ⟨rfl, hw'.ext⟩)
              · generalize ((decide (i14 > 0)) && ((IntKind.i64.wrap e29) == 0)) = t36 at key ⊢
                cases t36
                · refine ow_batch [.p, .p] rfl ?_
                  refine ow_batch [.p] rfl ?_
                  exact OW.sub key ⟨rfl, rfl, rfl, rfl, trivial⟩
                · refine ow_batch [.p, .p, .p] rfl ?_
                  exact OW.sub key ⟨rfl, rfl, rfl, rfl, trivial⟩
            · generalize (decide (i14 > 0)) = t34 at key ⊢
              cases t34
              · refine ow_batch [.p, .p, .p] rfl ?_
                exact OW.sub key ⟨rfl, rfl, rfl, rfl, trivial⟩
              · refine ow_batch [.p, .p] rfl ?_
                refine ow_batch [.p] rfl ?_
                exact OW.sub key ⟨rfl, rfl, rfl, rfl, trivial⟩
          · have H := of_if_f hb H
            refine c_skip ?_
            refine x_qb ?_
            refine x_qs ?_
            refine c_reg ?_
            refine ow_batch [.p, .p, .p] rfl ?_
            refine ow_nil ?_
            exact x_ql (RW.at (ihk1 (ibits .or .i64 i13 x31) (IntKind.i64.wrap (i14 + 1)) (H)) (fun _ h => St.sel [] rfl rfl h) ⟨rfl, rfl, rfl, rfl, trivial⟩)
      · generalize (decide (p1 < 0)) = t28 at key ⊢
        cases t28
        · refine ow_batch [.p, .p, .lenS 23 5 sl23, .p, .p, .p] rfl ?_
          refine ow_batch [.p] rfl ?_
          exact OW.sub key ⟨rfl, rfl, rfl, rfl, rfl, trivial⟩
        · refine ow_batch [.p, .p, .p, .p, .p, .p, .p] rfl ?_
          exact OW.sub key ⟨rfl, rfl, rfl, rfl, rfl, trivial⟩
    · have H := of_if_f hb H
      refine c_exit ?_
      refine x_qs_exit ?_
      refine x_ql_exit ?_
      refine x_qb_here ?_
      refine x_qs ?_
      refine c_seq ?_
      refine c_reg ?_
      refine ow_batch [.p, .p, .p] rfl ?_
      refine ow_nil ?_
      refine x_qs ?_
      refine c_ret ?_
      exact x_retR (rs := [.tmp 4, .tmp 5, .tmp 6]) (vs := [.int .i64 0, .int .i64 0, .bool false]) rfl ⟨rfl, rfl, rfl, trivial⟩ (fun w' hw' => by
          obtain rfl := of_some H
          exact ⟨rfl, hw'.ext⟩)

set_option maxHeartbeats 4000000 in
set_option maxRecDepth 100000 in
theorem spec_GetInt_ok (w : World) {p0 : List Int} {p1 : Int} {a_0 : Option Addr} {n_0 c_0 : Nat} {r : Int × Int × Bool} (H : spec_GetInt p0 p1 = some r)  (g0 : (eList (eVal (Value.int .u8) (fun _ => rfl)) 5).rd w [] p0 [.slice a_0 n_0 c_0]) :
    Calls Try.prog 50 #[.slice a_0 n_0 c_0, .int .i64 p1] w (fun en w' => en = .returned (.tuple #[.int .i64 r.1, .int .i64 r.2.1, .bool r.2.2]) ∧ Ext [] w w') := by
  obtain rfl := rd_n g0
  unfold spec_GetInt at H
  refine f_enter (vs := [.slice a_0 p0.length c_0, .int .i64 p1]) Try.func50 rfl Try.ntmps50 rfl (St.init w []) ?_
  refine c_seq ?_
  refine c_reg ?_
  refine ow_batch [.p, .p, .p] rfl ?_
  refine ow_nil ?_
  refine x_qs ?_
  refine c_seq ?_
  refine c_reg ?_
  refine ow_batch [.p, .p] rfl ?_
  obtain ⟨y1, h2, H⟩ := of_bind H
  refine ow_q rfl rfl (dstOk_lt rfl) (qy_call rfl fn83 rfl (fun w1 hw1 => spec_GetNum_ok w1  h2 (rds_bor g0 w1 hw1))) (fun _ _ => trivial) ?_
  refine ow_batch [.p, .p, .p, .p, .p, .p, .p] rfl ?_
  refine ow_nil ?_
  refine x_qs ?_
  refine c_seq ?_
  refine c_seq ?_
  refine c_reg ?_
  refine ow_batch [.p, .p] rfl ?_
  refine ow_nil ?_
  refine x_qs ?_
  refine c_if rfl (fun hb => ?_) (fun hb => ?_)
  · have H := of_if_t hb H
    refine c_seq ?_
    refine c_reg ?_
    refine ow_batch [.p, .p, .p] rfl ?_
    refine ow_nil ?_
    refine x_qs ?_
    refine c_ret ?_
    refine x_qs_ret ?_
    exact x_retR (rs := [.tmp 4, .tmp 5, .tmp 6]) (vs := [.int .i64 0, .int .i64 0, .bool false]) rfl ⟨rfl, rfl, rfl, trivial⟩ (fun w' hw' => by
        obtain rfl := of_some H
        exact ⟨rfl, hw'.ext⟩)
  · have H := of_if_f hb H
    refine c_skip ?_
    refine x_qs ?_
    refine c_seq ?_
    refine c_reg ?_
    refine ow_batch [.p, .p, .p] rfl ?_
    refine ow_nil ?_
    refine x_qs ?_
    refine c_join1 (fun (i3 : Int) => St w [] []) (fun (i3 : Int) => [(8, .int .i64 y1.2.1), (10, .int .i64 i3)]) (fun (i3 : Int) => spec_GetInt_J1 y1 i3 = some r) (fun i3 H => ?_) (fun J1 => ?_)
    · unfold spec_GetInt_J1 at H
      refine c_seq ?_
      refine c_seq ?_
      refine c_reg ?_
      refine ow_batch [.p] rfl ?_
      obtain ⟨y4, h5, H⟩ := of_bind H
      refine ow_q rfl rfl (dstOk_lt rfl) (qy_call rfl fn80 rfl (fun w1 hw1 => spec_l1In_ok w1  h5)) (fun _ _ => trivial) ?_
      refine ow_batch [.p] rfl ?_
      refine ow_nil ?_
      refine x_qs ?_
      refine c_if rfl (fun hb => ?_) (fun hb => ?_)
      · have H := of_if_t hb H
        refine c_seq ?_
        refine c_reg ?_
        refine ow_batch [.p, .p, .p] rfl ?_
        refine ow_nil ?_
        refine x_qs ?_
        refine c_ret ?_
        refine x_qs_ret ?_
        exact x_retR (rs := [.tmp 4, .tmp 5, .tmp 6]) (vs := [.int .i64 0, .int .i64 0, .bool false]) rfl ⟨rfl, rfl, rfl, trivial⟩ (fun w' hw' => by
            obtain rfl := of_some H
            exact ⟨rfl, hw'.ext⟩)
      · have H := of_if_f hb H
        refine c_skip ?_
        refine x_qs ?_
        refine c_seq ?_
        refine c_reg ?_
        refine ow_batch [.p, .p, .p, .p, .p] rfl ?_
        refine ow_nil ?_
        refine x_qs ?_
        refine c_ret ?_
        exact x_retR (rs := [.tmp 4, .tmp 5, .tmp 6]) (vs := [.int .i64 i3, .int .i64 y1.2.1, .bool true]) rfl ⟨rfl, rfl, rfl, trivial⟩ (fun w' hw' => by
            obtain rfl := of_some H
            exact ⟨rfl, hw'.ext⟩)
    · refine c_seq ?_
      refine c_reg ?_
      refine ow_batch [.p, .p, .p] rfl ?_
      refine ow_nil ?_
      refine x_qs ?_
      refine c_if rfl (fun hb => ?_) (fun hb => ?_)
      · have H := of_if_t hb H
        refine c_reg ?_
        refine ow_batch [.p, .p, .p, .p, .p] rfl ?_
        refine ow_nil ?_
        exact XW.at (J1 (IntKind.i64.wrap ((IntKind.i64.wrap (0 - (IntKind.i64.wrap (Int.tdiv y1.1 2)))) - 1)) (H)) (fun _ h => St.sel [] rfl rfl h) ⟨rfl, rfl, trivial⟩
      · have H := of_if_f hb H
        refine c_skip ?_
        exact XW.at (J1 (IntKind.i64.wrap (Int.tdiv y1.1 2)) (H)) (fun _ h => St.sel [] rfl rfl h) ⟨rfl, rfl, trivial⟩

set_option maxHeartbeats 4000000 in
set_option maxRecDepth 100000 in
theorem spec_l27Some_ok (w : World) {M0 : List Nat} {p0 : List Int} {p1 : Int} {p2 : Int} {a_0 : Option Addr} {n_0 c_0 : Nat} {r : (List Int) × Int × Bool} (H : spec_l27Some p0 p1 p2 = some r) (HS : St w M0 [] w) (g0 : (eList (eVal (Value.int .u8) (fun _ => rfl)) 5).rd w M0 p0 [.slice a_0 n_0 c_0]) :
    Calls Try.prog 68 #[.slice a_0 n_0 c_0, .int .i64 p1, .int .i64 p2] w (fun en w' => ∃ v, en = .returned v ∧ ∃ (a0 : Option Addr), ∃ (n0 : Nat), ∃ (c0 : Nat), ∃ (F0 : List Nat), v = .tuple #[.slice a0 n0 c0, .int .i64 r.2.1, .bool r.2.2] ∧ St w M0 [Res.own (eList (eVal (Value.int .i64) (fun _ => rfl)) 3) F0 r.1 [.slice a0 n0 c0]] w') := by
  obtain rfl := rd_n g0
  unfold spec_l27Some at H
  refine f_enter (vs := [.slice a_0 p0.length c_0, .int .i64 p1, .int .i64 p2]) Try.func68 rfl Try.ntmps68 rfl (HS) ?_
  refine c_seq ?_
  refine c_reg ?_
  refine ow_batch [.p, .p, .p] rfl ?_
  refine ow_nil ?_
  refine x_qs ?_
  refine c_seq ?_
  refine c_reg ?_
  refine ow_blit0 (e := eVal (Value.int .i64) (fun _ => rfl)) rfl rfl rfl rfl sl22 ty3 (fun _ => kp) (fun b1 => ?_)
  refine ow_batch [.p] rfl ?_
  refine ow_nil ?_
  refine x_qs ?_
  refine c_seq ?_
  refine c_seq ?_
  refine c_reg ?_
  refine ow_batch [.p] rfl ?_
  refine ow_nil ?_
  refine x_qs ?_
  refine c_block ?_
  refine CW.at (loopI6 (fun (i18 : Int) (i19 : Int) (l20 : List Int) (a21 : Option Addr) (c22 : Nat) (F23 : List Nat) => St w M0 [Res.own (eList (eVal (Value.int .i64) (fun _ => rfl)) 3) F23 l20 [.slice a21 l20.length c22]]) (fun (i18 : Int) (i19 : Int) (l20 : List Int) (a21 : Option Addr) (c22 : Nat) (F23 : List Nat) => [(0, .slice a_0 p0.length c_0), (1, .int .i64 i18), (2, .int .i64 p2), (9, .slice a21 l20.length c22), (10, .int .i64 i19)]) (fun kk => fun (i18 : Int) (i19 : Int) (l20 : List Int) (a21 : Option Addr) (c22 : Nat) (F23 : List Nat) => spec_l27Some_L1 p2 p0 kk i18 i19 l20 = some r) (fun _ _ _ _ _ _ H => ?_) (fun k1 ihk1 i18 i19 l20 a21 c22 F23 H => ?_) Fuel (p1) (0) (([] : List Int)) ((some ⟨b1, 0, none⟩)) (0) ([b1]) (H)) (fun _ h => St.sel [0] rfl rfl h) ⟨rfl, rfl, rfl, rfl, rfl,  trivial⟩
  · unfold spec_l27Some_L1 at H
    exact absurd H (by simp)
  · unfold spec_l27Some_L1 at H
    refine c_seq ?_
    refine c_seq ?_
    refine c_reg ?_
    refine ow_batch [.p, .p, .p] rfl ?_
    refine ow_nil ?_
    refine x_qs ?_
    refine c_if rfl (fun hb => ?_) (fun hb => ?_)
    · have H := of_if_t hb H
      refine c_skip ?_
      refine x_qs ?_
      refine c_seq ?_
      refine c_block ?_
      refine c_seq ?_
      refine c_reg ?_
      refine ow_batch [.p, .p] rfl ?_
      obtain ⟨y40, h41, H⟩ := of_bind H
      refine ow_q rfl rfl (dstOk_lt rfl) (qy_call rfl fn50 rfl (fun w1 hw1 => spec_GetInt_ok w1  h41 (rds_bor g0 w1 hw1))) (fun _ _ => trivial) ?_
      refine ow_batch [.p, .p, .p, .p, .p, .p, .p] rfl ?_
      refine ow_nil ?_
      refine x_qs ?_
      refine c_seq ?_
      refine c_seq ?_
      refine c_reg ?_
      refine ow_batch [.p, .p] rfl ?_
      refine ow_nil ?_
      refine x_qs ?_
      refine c_if rfl (fun hb => ?_) (fun hb => ?_)
      · have H := of_if_t hb H
        refine c_seq ?_
        refine c_reg ?_
        refine ow_blit0 (e := eVal (Value.int .i64) (fun _ => rfl)) rfl rfl rfl rfl sl22 ty3 (fun _ => kp) (fun b42 => ?_)
        refine ow_batch [.p, .p, .p] rfl ?_
        refine ow_nil ?_
        refine x_qs ?_
        refine c_ret ?_
        refine x_qs_ret ?_
        refine x_qb_ret ?_
        refine x_qs_ret ?_
        refine x_ql_ret ?_
        refine x_qb_ret ?_
        refine x_qs_ret ?_
        exact x_retR (rs := [.tmp 6, .tmp 7, .tmp 8]) (vs := [.slice (some ⟨b42, 0, none⟩) 0 0, .int .i64 0, .bool false]) rfl ⟨rfl, rfl, rfl, trivial⟩ (fun w' hw' => by
            obtain rfl := of_some H
            exact ⟨_, rfl, (some ⟨b42, 0, none⟩), 0, 0, [b42], rfl, hw'.sel [1] rfl rfl⟩)
      · have H := of_if_f hb H
        refine c_skip ?_
        refine x_qs ?_
        refine c_seq ?_
        refine c_reg ?_
        refine ow_batch [.p, .p] rfl ?_
        refine ow_blit (val := Value.int .i64) (h1 := fun _ => rfl) [y40.1] [(0, [.int .i64 y40.1])] rfl rfl rfl rfl rfl sl22 ty3 rfl rfl rfl ⟨rfl, rfl, Nat.le_of_ble_eq_true rfl,  trivial⟩ rfl rfl (fun _ => kp) (fun b43 => ?_)
        obtain ⟨l44, h45, H⟩ := of_bind H
        refine ow_appR (r := 0) (ys := ([y40.1] : List Int)) rfl rfl rfl rfl rfl rfl sl22 ty3 rfl rfl rfl (fun w1 hw1 => rds_own (r := 1) rfl w1 hw1) h45 (fun _ _ _ => kp) (fun a46 c47 F48 => ?_)
        refine ow_fact rfl (fun w1 hw1 => own_nn (i := 0) hw1 rfl (app_ne h45)) (fun hz49 => ?_)
        refine ow_batch [.p] rfl ?_
        refine ow_nil ?_
        refine x_qs ?_
        refine c_reg ?_
        refine ow_batch [.p, .p] rfl ?_
        refine ow_nil ?_
        refine x_qb ?_
        refine x_qs ?_
        refine c_reg ?_
        refine ow_batch [.p, .p, .p] rfl ?_
        refine ow_nil ?_
        exact x_ql (RW.at (ihk1 (y40.2.1) (IntKind.i64.wrap (i19 + 1)) (l44) (a46) (c47) (F48) (H)) (fun _ h => St.sel [0] rfl rfl h) ⟨rfl, rfl, rfl, rfl, rfl, trivial⟩)
    · have H := of_if_f hb H
      refine c_exit ?_
      refine x_qs_exit ?_
      refine x_ql_exit ?_
      refine x_qb_here ?_
      refine x_qs ?_
      refine c_seq ?_
      refine c_reg ?_
      refine ow_batch [.p, .p, .p, .p, .p] rfl ?_
      refine ow_nil ?_
      refine x_qs ?_
      refine c_ret ?_
      exact x_retR (rs := [.tmp 6, .tmp 7, .tmp 8]) (vs := [.slice a21 l20.length c22, .int .i64 i18, .bool true]) rfl ⟨rfl, rfl, rfl, trivial⟩ (fun w' hw' => by
          obtain rfl := of_some H
          exact ⟨_, rfl, a21, l20.length, c22, F23, rfl, hw'.sel [0] rfl rfl⟩)

set_option maxHeartbeats 4000000 in
set_option maxRecDepth 100000 in
theorem spec_GetInts_ok (w : World) {M0 : List Nat} {p0 : List Int} {p1 : Int} {a_0 : Option Addr} {n_0 c_0 : Nat} {r : (List Int) × Int × Bool} (H : spec_GetInts p0 p1 = some r) (HS : St w M0 [] w) (g0 : (eList (eVal (Value.int .u8) (fun _ => rfl)) 5).rd w M0 p0 [.slice a_0 n_0 c_0]) :
    Calls Try.prog 18 #[.slice a_0 n_0 c_0, .int .i64 p1] w (fun en w' => ∃ v, en = .returned v ∧ ∃ (a0 : Option Addr), ∃ (n0 : Nat), ∃ (c0 : Nat), ∃ (F0 : List Nat), v = .tuple #[.slice a0 n0 c0, .int .i64 r.2.1, .bool r.2.2] ∧ St w M0 [Res.own (eList (eVal (Value.int .i64) (fun _ => rfl)) 3) F0 r.1 [.slice a0 n0 c0]] w') := by
  obtain rfl := rd_n g0
  unfold spec_GetInts at H
  refine f_enter (vs := [.slice a_0 p0.length c_0, .int .i64 p1]) Try.func18 rfl Try.ntmps18 rfl (HS) ?_
  refine c_seq ?_
  refine c_reg ?_
  refine ow_batch [.p, .p, .p] rfl ?_
  refine ow_nil ?_
  refine x_qs ?_
  refine c_seq ?_
  refine c_reg ?_
  refine ow_batch [.p, .p] rfl ?_
  obtain ⟨y1, h2, H⟩ := of_bind H
  refine ow_q rfl rfl (dstOk_lt rfl) (qy_call rfl fn50 rfl (fun w1 hw1 => spec_GetInt_ok w1  h2 (rds_bor g0 w1 hw1))) (fun _ _ => trivial) ?_
  refine ow_batch [.p, .p, .p, .p, .p, .p, .p] rfl ?_
  refine ow_nil ?_
  refine x_qs ?_
  refine c_seq ?_
  refine c_seq ?_
  refine c_reg ?_
  refine ow_batch [.p, .p, .p] rfl ?_
  refine ow_cut [(27, .bool ((!y1.2.2) || (decide (y1.1 < 0)))), (0, .slice a_0 p0.length c_0), (7, .int .i64 y1.1), (8, .int .i64 y1.2.1)] 3 ?_ (fun key => OW.sub (R := [(0, .slice a_0 p0.length c_0), (7, .int .i64 y1.1), (8, .int .i64 y1.2.1), (24, .bool (!y1.2.2))]) ?_ ⟨rfl, rfl, rfl, rfl, trivial⟩)
  · refine ow_nil ?_
    refine x_qs ?_
    refine c_if rfl (fun hb => ?_) (fun hb => ?_)
    · have H := of_if_t hb H
      refine c_seq ?_
      refine c_reg ?_
      refine ow_blit0 (e := eVal (Value.int .i64) (fun _ => rfl)) rfl rfl rfl rfl sl22 ty3 (fun _ => kp) (fun b5 => ?_)
      refine ow_batch [.p, .p, .p] rfl ?_
      refine ow_nil ?_
      refine x_qs ?_
      refine c_ret ?_
      refine x_qs_ret ?_
      exact x_retR (rs := [.tmp 4, .tmp 5, .tmp 6]) (vs := [.slice (some ⟨b5, 0, none⟩) 0 0, .int .i64 0, .bool false]) rfl ⟨rfl, rfl, rfl, trivial⟩ (fun w' hw' => by
          obtain rfl := of_some H
          exact ⟨_, rfl, (some ⟨b5, 0, none⟩), 0, 0, [b5], rfl, hw'.sel [0] rfl rfl⟩)
    · have H := of_if_f hb H
      refine c_skip ?_
      refine x_qs ?_
      refine c_seq ?_
      refine c_reg ?_
      refine ow_blit0 (e := eVal (Value.int .i64) (fun _ => rfl)) rfl rfl rfl rfl sl22 ty3 (fun _ => kp) (fun b6 => ?_)
      refine ow_batch [.p] rfl ?_
      refine ow_nil ?_
      refine x_qs ?_
      refine c_seq ?_
      refine c_seq ?_
      refine c_reg ?_
      refine ow_batch [.p] rfl ?_
      refine ow_nil ?_
      refine x_qs ?_
      refine c_block ?_
      refine CW.at (loopI6 (fun (l23 : List Int) (a24 : Option Addr) (c25 : Nat) (F26 : List Nat) (i27 : Int) (i28 : Int) => St w M0 [Res.own (eList (eVal (Value.int .i64) (fun _ => rfl)) 3) F26 l23 [.slice a24 l23.length c25]]) (fun (l23 : List Int) (a24 : Option Addr) (c25 : Nat) (F26 : List Nat) (i27 : Int) (i28 : Int) => [(0, .slice a_0 p0.length c_0), (7, .int .i64 y1.1), (8, .int .i64 i28), (10, .slice a24 l23.length c25), (11, .int .i64 i27)]) (fun kk => fun (l23 : List Int) (a24 : Option Addr) (c25 : Nat) (F26 : List Nat) (i27 : Int) (i28 : Int) => spec_GetInts_L1 y1 p0 kk l23 i27 i28 = some r) (fun _ _ _ _ _ _ H => ?_) (fun k1 ihk1 l23 a24 c25 F26 i27 i28 H => ?_) Fuel (([] : List Int)) ((some ⟨b6, 0, none⟩)) (0) ([b6]) (0) (y1.2.1) (H)) (fun _ h => St.sel [0] rfl rfl h) ⟨rfl, rfl, rfl, rfl, rfl,  trivial⟩
      · unfold spec_GetInts_L1 at H
        exact absurd H (by simp)
      · unfold spec_GetInts_L1 at H
        refine c_seq ?_
        refine c_seq ?_
        refine c_reg ?_
        refine ow_batch [.p, .p, .p] rfl ?_
        refine ow_nil ?_
        refine x_qs ?_
        refine c_if rfl (fun hb => ?_) (fun hb => ?_)
        · have H := of_if_t hb H
          refine c_skip ?_
          refine x_qs ?_
          refine c_seq ?_
          refine c_block ?_
          refine c_seq ?_
          refine c_reg ?_
          refine ow_batch [.p, .p] rfl ?_
          obtain ⟨y45, h46, H⟩ := of_bind H
          refine ow_q rfl rfl (dstOk_lt rfl) (qy_call rfl fn50 rfl (fun w1 hw1 => spec_GetInt_ok w1  h46 (rds_bor g0 w1 hw1))) (fun _ _ => trivial) ?_
          refine ow_batch [.p, .p, .p, .p, .p, .p, .p] rfl ?_
          refine ow_nil ?_
          refine x_qs ?_
          refine c_seq ?_
          refine c_seq ?_
          refine c_reg ?_
          refine ow_batch [.p, .p] rfl ?_
          refine ow_nil ?_
          refine x_qs ?_
          refine c_if rfl (fun hb => ?_) (fun hb => ?_)
          · have H := of_if_t hb H
            refine c_seq ?_
            refine c_reg ?_
            refine ow_blit0 (e := eVal (Value.int .i64) (fun _ => rfl)) rfl rfl rfl rfl sl22 ty3 (fun _ => kp) (fun b47 => ?_)
            refine ow_batch [.p, .p, .p] rfl ?_
            refine ow_nil ?_
            refine x_qs ?_
            refine c_ret ?_
            refine x_qs_ret ?_
            refine x_qb_ret ?_
            refine x_qs_ret ?_
            refine x_ql_ret ?_
            refine x_qb_ret ?_
            refine x_qs_ret ?_
            exact x_retR (rs := [.tmp 4, .tmp 5, .tmp 6]) (vs := [.slice (some ⟨b47, 0, none⟩) 0 0, .int .i64 0, .bool false]) rfl ⟨rfl, rfl, rfl, trivial⟩ (fun w' hw' => by
                obtain rfl := of_some H
                exact ⟨_, rfl, (some ⟨b47, 0, none⟩), 0, 0, [b47], rfl, hw'.sel [1] rfl rfl⟩)
          · have H := of_if_f hb H
            refine c_skip ?_
            refine x_qs ?_
            refine c_seq ?_
            refine c_reg ?_
            refine ow_batch [.p, .p] rfl ?_
            refine ow_blit (val := Value.int .i64) (h1 := fun _ => rfl) [y45.1] [(0, [.int .i64 y45.1])] rfl rfl rfl rfl rfl sl22 ty3 rfl rfl rfl ⟨rfl, rfl, Nat.le_of_ble_eq_true rfl,  trivial⟩ rfl rfl (fun _ => kp) (fun b48 => ?_)
            obtain ⟨l49, h50, H⟩ := of_bind H
            refine ow_appR (r := 0) (ys := ([y45.1] : List Int)) rfl rfl rfl rfl rfl rfl sl22 ty3 rfl rfl rfl (fun w1 hw1 => rds_own (r := 1) rfl w1 hw1) h50 (fun _ _ _ => kp) (fun a51 c52 F53 => ?_)
            refine ow_fact rfl (fun w1 hw1 => own_nn (i := 0) hw1 rfl (app_ne h50)) (fun hz54 => ?_)
            refine ow_batch [.p] rfl ?_
            refine ow_nil ?_
            refine x_qs ?_
            refine c_reg ?_
            refine ow_batch [.p, .p] rfl ?_
            refine ow_nil ?_
            refine x_qb ?_
            refine x_qs ?_
            refine c_reg ?_
            refine ow_batch [.p, .p, .p] rfl ?_
            refine ow_nil ?_
            exact x_ql (RW.at (ihk1 (l49) (a51) (c52) (F53) (IntKind.i64.wrap (i27 + 1)) (y45.2.1) (H)) (fun _ h => St.sel [0] rfl rfl h) ⟨rfl, rfl, rfl, rfl, rfl, trivial⟩)
        · have H := of_if_f hb H
          refine c_exit ?_
          refine x_qs_exit ?_
          refine x_ql_exit ?_
          refine x_qb_here ?_
          refine x_qs ?_
          refine c_seq ?_
          refine c_reg ?_
          refine ow_batch [.p, .p, .p, .p, .p] rfl ?_
          refine ow_nil ?_
          refine x_qs ?_
          refine c_ret ?_
          exact x_retR (rs := [.tmp 4, .tmp 5, .tmp 6]) (vs := [.slice a24 l23.length c25, .int .i64 i28, .bool true]) rfl ⟨rfl, rfl, rfl, trivial⟩ (fun w' hw' => by
              obtain rfl := of_some H
              exact ⟨_, rfl, a24, l23.length, c25, F26, rfl, hw'.sel [0] rfl rfl⟩)
  · generalize (!y1.2.2) = t4 at key ⊢
    cases t4
    · refine ow_batch [.p, .p] rfl ?_
      refine ow_batch [.p] rfl ?_
      exact OW.sub key ⟨rfl, rfl, rfl, rfl, trivial⟩
    · refine ow_batch [.p, .p, .p] rfl ?_
      exact OW.sub key ⟨rfl, rfl, rfl, rfl, trivial⟩

set_option maxHeartbeats 4000000 in
set_option maxRecDepth 100000 in
theorem spec_l27GetLists_ok (w : World) {M0 : List Nat} {p0 : List Int} {p1 : Int} {a_0 : Option Addr} {n_0 c_0 : Nat} {r : (List (List Int)) × Int × Bool} (H : spec_l27GetLists p0 p1 = some r) (HS : St w M0 [] w) (g0 : (eList (eVal (Value.int .u8) (fun _ => rfl)) 5).rd w M0 p0 [.slice a_0 n_0 c_0]) :
    Calls Try.prog 58 #[.slice a_0 n_0 c_0, .int .i64 p1] w (fun en w' => ∃ v, en = .returned v ∧ ∃ (a0 : Option Addr), ∃ (n0 : Nat), ∃ (c0 : Nat), ∃ (F0 : List Nat), v = .tuple #[.slice a0 n0 c0, .int .i64 r.2.1, .bool r.2.2] ∧ St w M0 [Res.own (eList (eList (eVal (Value.int .i64) (fun _ => rfl)) 3) 22) F0 r.1 [.slice a0 n0 c0]] w') := by
  obtain rfl := rd_n g0
  unfold spec_l27GetLists at H
  refine f_enter (vs := [.slice a_0 p0.length c_0, .int .i64 p1]) Try.func58 rfl Try.ntmps58 rfl (HS) ?_
  refine c_seq ?_
  refine c_reg ?_
  refine ow_batch [.p, .p, .p] rfl ?_
  refine ow_nil ?_
  refine x_qs ?_
  refine c_seq ?_
  refine c_reg ?_
  refine ow_batch [.p, .p] rfl ?_
  obtain ⟨y1, h2, H⟩ := of_bind H
  refine ow_q rfl rfl (dstOk_lt rfl) (qy_call rfl fn50 rfl (fun w1 hw1 => spec_GetInt_ok w1  h2 (rds_bor g0 w1 hw1))) (fun _ _ => trivial) ?_
  refine ow_batch [.p, .p, .p, .p, .p, .p, .p] rfl ?_
  refine ow_nil ?_
  refine x_qs ?_
  refine c_seq ?_
  refine c_seq ?_
  refine c_reg ?_
  refine ow_batch [.p, .p, .p] rfl ?_
  refine ow_cut [(27, .bool ((!y1.2.2) || (decide (y1.1 < 0)))), (0, .slice a_0 p0.length c_0), (7, .int .i64 y1.1), (8, .int .i64 y1.2.1)] 3 ?_ (fun key => OW.sub (R := [(0, .slice a_0 p0.length c_0), (7, .int .i64 y1.1), (8, .int .i64 y1.2.1), (24, .bool (!y1.2.2))]) ?_ ⟨rfl, rfl, rfl, rfl, trivial⟩)
  · refine ow_nil ?_
    refine x_qs ?_
    refine c_if rfl (fun hb => ?_) (fun hb => ?_)
    · have H := of_if_t hb H
      refine c_seq ?_
      refine c_reg ?_
      refine ow_blit0 (e := eList (eVal (Value.int .i64) (fun _ => rfl)) 3) rfl rfl rfl rfl sl35 ty22 (fun _ => kp) (fun b5 => ?_)
      refine ow_batch [.p, .p, .p] rfl ?_
      refine ow_nil ?_
      refine x_qs ?_
      refine c_ret ?_
      refine x_qs_ret ?_
      exact x_retR (rs := [.tmp 4, .tmp 5, .tmp 6]) (vs := [.slice (some ⟨b5, 0, none⟩) 0 0, .int .i64 0, .bool false]) rfl ⟨rfl, rfl, rfl, trivial⟩ (fun w' hw' => by
          obtain rfl := of_some H
          exact ⟨_, rfl, (some ⟨b5, 0, none⟩), 0, 0, [b5], rfl, hw'.sel [0] rfl rfl⟩)
    · have H := of_if_f hb H
      refine c_skip ?_
      refine x_qs ?_
      refine c_seq ?_
      refine c_reg ?_
      refine ow_blit0 (e := eList (eVal (Value.int .i64) (fun _ => rfl)) 3) rfl rfl rfl rfl sl35 ty22 (fun _ => kp) (fun b6 => ?_)
      refine ow_batch [.p] rfl ?_
      refine ow_nil ?_
      refine x_qs ?_
      refine c_seq ?_
      refine c_seq ?_
      refine c_reg ?_
      refine ow_batch [.p] rfl ?_
      refine ow_nil ?_
      refine x_qs ?_
      refine c_block ?_
      refine CW.at (loopI6 (fun (l29 : List (List Int)) (a30 : Option Addr) (c31 : Nat) (F32 : List Nat) (i33 : Int) (i34 : Int) => St w M0 [Res.own (eList (eList (eVal (Value.int .i64) (fun _ => rfl)) 3) 22) F32 l29 [.slice a30 l29.length c31]]) (fun (l29 : List (List Int)) (a30 : Option Addr) (c31 : Nat) (F32 : List Nat) (i33 : Int) (i34 : Int) => [(0, .slice a_0 p0.length c_0), (7, .int .i64 y1.1), (8, .int .i64 i34), (10, .slice a30 l29.length c31), (11, .int .i64 i33)]) (fun kk => fun (l29 : List (List Int)) (a30 : Option Addr) (c31 : Nat) (F32 : List Nat) (i33 : Int) (i34 : Int) => spec_l27GetLists_L1 y1 p0 kk l29 i33 i34 = some r) (fun _ _ _ _ _ _ H => ?_) (fun k1 ihk1 l29 a30 c31 F32 i33 i34 H => ?_) Fuel (([] : List (List Int))) ((some ⟨b6, 0, none⟩)) (0) ([b6]) (0) (y1.2.1) (H)) (fun _ h => St.sel [0] rfl rfl h) ⟨rfl, rfl, rfl, rfl, rfl,  trivial⟩
      · unfold spec_l27GetLists_L1 at H
        exact absurd H (by simp)
      · unfold spec_l27GetLists_L1 at H
        refine c_seq ?_
        refine c_seq ?_
        refine c_reg ?_
        refine ow_batch [.p, .p, .p] rfl ?_
        refine ow_nil ?_
        refine x_qs ?_
        refine c_if rfl (fun hb => ?_) (fun hb => ?_)
        · have H := of_if_t hb H
          refine c_skip ?_
          refine x_qs ?_
          refine c_seq ?_
          refine c_block ?_
          refine c_seq ?_
          refine c_reg ?_
          refine ow_batch [.p, .p] rfl ?_
          obtain ⟨y57, h58, H⟩ := of_bind H
          refine ow_callS rfl fn18 rfl rfl rfl rfl (fun w1 hw1 => spec_GetInts_ok w1  h58 (hw1.carve [] rfl rfl) (rds_bor g0 w1 hw1)) (fun v59 w1 w2 hw1 hR61 => ?_)
          obtain ⟨a62, n63, c64, F65, rfl, hS60⟩ := hR61
          obtain rfl := own_nS (i := 0) hS60 rfl
          refine ⟨St w M0 [_, _], hw1.comp [] rfl rfl hS60, fun _ _ => trivial, ?_⟩
          refine ow_batch [.p, .p, .p, .p, .p, .p, .p] rfl ?_
          refine ow_nil ?_
          refine x_qs ?_
          refine c_seq ?_
          refine c_seq ?_
          refine c_reg ?_
          refine ow_batch [.p, .p] rfl ?_
          refine ow_nil ?_
          refine x_qs ?_
          refine c_if rfl (fun hb => ?_) (fun hb => ?_)
          · have H := of_if_t hb H
            refine c_seq ?_
            refine c_reg ?_
            refine ow_blit0 (e := eList (eVal (Value.int .i64) (fun _ => rfl)) 3) rfl rfl rfl rfl sl35 ty22 (fun _ => kp) (fun b66 => ?_)
            refine ow_batch [.p, .p, .p] rfl ?_
            refine ow_nil ?_
            refine x_qs ?_
            refine c_ret ?_
            refine x_qs_ret ?_
            refine x_qb_ret ?_
            refine x_qs_ret ?_
            refine x_ql_ret ?_
            refine x_qb_ret ?_
            refine x_qs_ret ?_
            exact x_retR (rs := [.tmp 4, .tmp 5, .tmp 6]) (vs := [.slice (some ⟨b66, 0, none⟩) 0 0, .int .i64 0, .bool false]) rfl ⟨rfl, rfl, rfl, trivial⟩ (fun w' hw' => by
                obtain rfl := of_some H
                exact ⟨_, rfl, (some ⟨b66, 0, none⟩), 0, 0, [b66], rfl, hw'.sel [2] rfl rfl⟩)
          · have H := of_if_f hb H
            refine c_skip ?_
            refine x_qs ?_
            refine c_seq ?_
            refine c_reg ?_
            refine ow_batch [.p, .p] rfl ?_
            refine ow_bslice [(0, [.slice a62 y57.1.length c64])] rfl rfl rfl rfl rfl sl35 ty22 rfl rfl ⟨rfl, rfl, Nat.le_of_ble_eq_true rfl,  trivial⟩ [.slice a62 y57.1.length c64] rfl (fun _ => kp) (fun b67 => ?_)
            refine ow_st rfl (fun _ h => lit1 (p := 2) (q := 1) h rfl rfl rfl) ?_
            obtain ⟨l68, h69, H⟩ := of_bind H
            refine ow_appM (r := 0) (j := 3) rfl rfl rfl rfl rfl rfl sl35 ty22 rfl rfl rfl rfl rfl rfl rfl h69 (fun _ _ _ => kp) (fun a70 c71 F72 => ?_)
            refine ow_batch [.p] rfl ?_
            refine ow_nil ?_
            refine x_qs ?_
            refine CW.weak (C' := St w M0 [_]) ?_ (fun _ h => St.sel [4] rfl rfl h)
            refine c_reg ?_
            refine ow_batch [.p, .p] rfl ?_
            refine ow_nil ?_
            refine x_qb ?_
            refine x_qs ?_
            refine c_reg ?_
            refine ow_batch [.p, .p, .p] rfl ?_
            refine ow_nil ?_
            exact x_ql (RW.at (ihk1 (l68) (a70) (c71) (F72) (IntKind.i64.wrap (i33 + 1)) (y57.2.1) (H)) (fun _ h => St.sel [0] rfl rfl h) ⟨rfl, rfl, rfl, rfl, rfl, trivial⟩)
        · have H := of_if_f hb H
          refine c_exit ?_
          refine x_qs_exit ?_
          refine x_ql_exit ?_
          refine x_qb_here ?_
          refine x_qs ?_
          refine c_seq ?_
          refine c_reg ?_
          refine ow_batch [.p, .p, .p, .p, .p] rfl ?_
          refine ow_nil ?_
          refine x_qs ?_
          refine c_ret ?_
          exact x_retR (rs := [.tmp 4, .tmp 5, .tmp 6]) (vs := [.slice a30 l29.length c31, .int .i64 i34, .bool true]) rfl ⟨rfl, rfl, rfl, trivial⟩ (fun w' hw' => by
              obtain rfl := of_some H
              exact ⟨_, rfl, a30, l29.length, c31, F32, rfl, hw'.sel [0] rfl rfl⟩)
  · generalize (!y1.2.2) = t4 at key ⊢
    cases t4
    · refine ow_batch [.p, .p] rfl ?_
      refine ow_batch [.p] rfl ?_
      exact OW.sub key ⟨rfl, rfl, rfl, rfl, trivial⟩
    · refine ow_batch [.p, .p, .p] rfl ?_
      exact OW.sub key ⟨rfl, rfl, rfl, rfl, trivial⟩

set_option maxHeartbeats 4000000 in
set_option maxRecDepth 100000 in
theorem spec_l27GetNode_ok (w : World) {M0 : List Nat} {p0 : List Int} {p1 : Int} {a_0 : Option Addr} {n_0 c_0 : Nat} {r : Timpl_Node × Int × Bool} (H : spec_l27GetNode p0 p1 = some r) (HS : St w M0 [] w) (g0 : (eList (eVal (Value.int .u8) (fun _ => rfl)) 5).rd w M0 p0 [.slice a_0 n_0 c_0]) :
    Calls Try.prog 69 #[.slice a_0 n_0 c_0, .int .i64 p1] w (fun en w' => ∃ v, en = .returned v ∧ ∃ (a0 : Option Addr), ∃ (n0 : Nat), ∃ (c0 : Nat), ∃ (F0 : List Nat), ∃ (a1 : Option Addr), ∃ (n1 : Nat), ∃ (c1 : Nat), ∃ (F1 : List Nat), ∃ (a2 : Option Addr), ∃ (n2 : Nat), ∃ (c2 : Nat), ∃ (F2 : List Nat), ∃ (a3 : Option Addr), ∃ (n3 : Nat), ∃ (c3 : Nat), ∃ (F3 : List Nat), v = .tuple #[.agg #[.bool r.1.Leaf_, .int .i64 r.1.Fork_.Attr_, .int .i64 r.1.Fork_.At_, .slice a0 n0 c0, .int .i64 r.1.Miss_, .slice a1 n1 c1, .slice a2 n2 c2, .int .i64 r.1.Since_, .slice a3 n3 c3, .int .i64 r.1.Depth_, .int .i64 r.1.Up_, .int .i64 r.1.Born_], .int .i64 r.2.1, .bool r.2.2] ∧ St w M0 [Res.own (eList (eVal (Value.int .i64) (fun _ => rfl)) 3) F0 r.1.Kids_ [.slice a0 n0 c0], Res.own (eList (eVal (Value.int .i64) (fun _ => rfl)) 3) F1 r.1.Stats_.Totals_ [.slice a1 n1 c1], Res.own (eList (eList (eVal (Value.int .i64) (fun _ => rfl)) 3) 22) F2 r.1.Stats_.Cells_ [.slice a2 n2 c2], Res.own (eList (eVal (Value.int .i64) (fun _ => rfl)) 3) F3 r.1.Attrs_ [.slice a3 n3 c3]] w') := by
  obtain rfl := rd_n g0
  unfold spec_l27GetNode at H
  refine f_enter (vs := [.slice a_0 p0.length c_0, .int .i64 p1]) Try.func69 rfl Try.ntmps69 rfl (HS) ?_
  refine c_seq ?_
  refine c_reg ?_
  refine ow_alloc rfl rfl rfl rfl ty91 (fun _ => kp) (fun b1 => ?_)
  refine ow_batch [.p, .p] rfl ?_
  refine ow_nil ?_
  refine x_qs ?_
  refine c_seq ?_
  refine c_reg ?_
  refine ow_r rfl (dstOk_lt rfl) (ry_build2 [] [.bool false, .int .i64 0, .int .i64 0, .slice none 0 0, .int .i64 0, .slice none 0 0, .slice none 0 0, .int .i64 0, .slice none 0 0, .int .i64 0, .int .i64 0, .int .i64 0] rfl rfl ty91 fs91 rfl trivial rfl) ?_
  refine ow_alloc rfl rfl rfl rfl ty91 (fun _ => kp) (fun b2 => ?_)
  refine ow_storeC (off := 0) [.bool false, .int .i64 0, .int .i64 0, .slice none 0 0, .int .i64 0, .slice none 0 0, .slice none 0 0, .int .i64 0, .slice none 0 0, .int .i64 0, .int .i64 0, .int .i64 0] [_, _, _, _, _, _, _, _, _, _, _, _] (i := 1) rfl rfl rfl rfl rfl rfl ty91 rfl rfl (by intro u hu; simp only [List.mem_cons, List.not_mem_nil, or_false] at hu; rcases hu with rfl | rfl | rfl | rfl | rfl | rfl | rfl | rfl | rfl | rfl | rfl | rfl <;> rfl) rfl rfl rfl kp ?_
  refine ow_nil ?_
  refine x_qs ?_
  refine c_seq ?_
  refine c_reg ?_
  refine ow_batch [.p, .p] rfl ?_
  obtain ⟨y3, h4, H⟩ := of_bind H
  refine ow_callS rfl fn68 rfl rfl rfl rfl (fun w1 hw1 => spec_l27Some_ok w1  h4 (hw1.carve [] rfl rfl) (rds_bor g0 w1 hw1)) (fun v5 w1 w2 hw1 hR7 => ?_)
  obtain ⟨a8, n9, c10, F11, rfl, hS6⟩ := hR7
  obtain rfl := own_nS (i := 0) hS6 rfl
  refine ⟨St w M0 [_, _, _], hw1.comp [] rfl rfl hS6, fun _ _ => trivial, ?_⟩
  refine ow_batch [.p, .p, .p, .p, .p, .p, .p] rfl ?_
  refine ow_nil ?_
  refine x_qs ?_
  refine c_seq ?_
  refine c_seq ?_
  refine c_reg ?_
  refine ow_batch [.p, .p, .p] rfl ?_
  obtain ⟨u12, hu18, H⟩ := of_bind H
  refine ow_cut [(34, .bool u12), (0, .slice a_0 p0.length c_0), (1, .int .i64 y3.2.1), (4, .pointer (some ⟨b1, 0, none⟩)), (7, .pointer (some ⟨b2, 0, none⟩)), (8, .slice a8 y3.1.length c10)] 6 ?_ (fun key => OW.sub (R := [(0, .slice a_0 p0.length c_0), (1, .int .i64 y3.2.1), (4, .pointer (some ⟨b1, 0, none⟩)), (7, .pointer (some ⟨b2, 0, none⟩)), (8, .slice a8 y3.1.length c10), (28, .bool (!y3.2.2))]) ?_ ⟨rfl, rfl, rfl, rfl, rfl, rfl, trivial⟩)
  · refine ow_nil ?_
    refine x_qs ?_
    refine c_if rfl (fun hb => ?_) (fun hb => ?_)
    · have H := of_if_t hb H
      refine c_seq ?_
      refine c_reg ?_
      refine ow_r rfl (dstOk_lt rfl) (ry_box (off := 0) (ds := [.bool false, .int .i64 0, .int .i64 0, .slice none 0 0, .int .i64 0, .slice none 0 0, .slice none 0 0, .int .i64 0, .slice none 0 0, .int .i64 0, .int .i64 0, .int .i64 0]) rfl rfl ty91 (boxIn (i := 1) rfl) rfl rfl) ?_
      refine ow_storeC (off := 0) [.bool false, .int .i64 0, .int .i64 0, .slice none 0 0, .int .i64 0, .slice none 0 0, .slice none 0 0, .int .i64 0, .slice none 0 0, .int .i64 0, .int .i64 0, .int .i64 0] [_, _, _, _, _, _, _, _, _, _, _, _] (i := 0) rfl rfl rfl rfl rfl rfl ty91 rfl rfl (by intro u hu; simp only [List.mem_cons, List.not_mem_nil, or_false] at hu; rcases hu with rfl | rfl | rfl | rfl | rfl | rfl | rfl | rfl | rfl | rfl | rfl | rfl <;> rfl) rfl rfl rfl kp ?_
      refine ow_batch [.p, .p] rfl ?_
      refine ow_nil ?_
      refine x_qs ?_
      refine c_ret ?_
      refine x_qs_ret ?_
      refine xw_st (fun _ h => St.pushNil (e := eVal (Value.int .i64) (fun _ => rfl)) (T := 3) h) ?_
      refine xw_st (fun _ h => St.pushNil (e := eVal (Value.int .i64) (fun _ => rfl)) (T := 3) h) ?_
      refine xw_st (fun _ h => St.pushNil (e := eList (eVal (Value.int .i64) (fun _ => rfl)) 3) (T := 22) h) ?_
      refine xw_st (fun _ h => St.pushNil (e := eVal (Value.int .i64) (fun _ => rfl)) (T := 3) h) ?_
      exact x_retR (rs := [.cell 4 91, .tmp 5, .tmp 6]) (vs := [.agg #[.bool false, .int .i64 0, .int .i64 0, .slice none 0 0, .int .i64 0, .slice none 0 0, .slice none 0 0, .int .i64 0, .slice none 0 0, .int .i64 0, .int .i64 0, .int .i64 0], .int .i64 0, .bool false]) rfl ⟨⟨_, [.bool false, .int .i64 0, .int .i64 0, .slice none 0 0, .int .i64 0, .slice none 0 0, .slice none 0 0, .int .i64 0, .slice none 0 0, .int .i64 0, .int .i64 0, .int .i64 0], _, _, _, rfl, ty91, (at_box (T := 91) 0 (boxIn (i := 0) rfl) rfl), rfl, rfl⟩, rfl, rfl, trivial⟩ (fun w' hw' => by
          obtain rfl := of_some H
          exact ⟨_, rfl, none, 0, 0, [], none, 0, 0, [], none, 0, 0, [], none, 0, 0, [], rfl, hw'.sel [3, 4, 5, 6] rfl rfl⟩)
    · have H := of_if_f hb H
      refine c_skip ?_
      refine x_qs ?_
      refine c_seq ?_
      refine c_regHT 13 [(0, true), (1, true), (2, true), (3, true), (4, true), (5, true), (6, true), (7, true), (8, true), (9, true), (10, true), (11, true), (12, false)] (St w M0 [Res.box b1 91 [.bool false, .int .i64 0, .int .i64 0, .slice none 0 0, .int .i64 0, .slice none 0 0, .slice none 0 0, .int .i64 0, .slice none 0 0, .int .i64 0, .int .i64 0, .int .i64 0], Res.box b2 91 [.bool false, .int .i64 0, .int .i64 0, .slice none 0 0, .int .i64 0, .slice none 0 0, .slice none 0 0, .int .i64 0, .slice none 0 0, .int .i64 0, .int .i64 0, .int .i64 0], Res.own (eList (eVal (Value.int .i64) (fun _ => rfl)) 3) F11 y3.1 [.slice a8 y3.1.length c10]]) mixed (by kernel_rfl) (panicOk_qs panicOk_body) (fun _ h => St.mask [true, true, true] rfl h) ?_
      refine ow_batch [.p] rfl ?_
      obtain ⟨e26, h27, H⟩ := of_bind H
      refine ow_ixE (e := eVal (Value.int .i64) (fun _ => rfl)) (xs := y3.1) (j := 0) rfl rfl rfl rfl rfl sl22 ty3 rfl (fun w1 hw1 => rds_own (r := 2) rfl w1 hw1) h27 (by rw [Nat.mul_one]) ?_
      refine ow_rH rfl (dstOk_lt rfl) (ry_load1 rfl rfl ty3 (at_elV (fun w1 hw1 => rds_own (r := 2) rfl w1 hw1) h27)) ?_
      refine ow_batch [.p, .p] rfl ?_
      obtain ⟨e28, h29, H⟩ := of_bind H
      refine ow_ixE (e := eVal (Value.int .i64) (fun _ => rfl)) (xs := y3.1) (j := 1) rfl rfl rfl rfl rfl sl22 ty3 rfl (fun w1 hw1 => rds_own (r := 2) rfl w1 hw1) h29 (by rw [Nat.mul_one]) ?_
      refine ow_rH rfl (dstOk_lt rfl) (ry_load1 rfl rfl ty3 (at_elV (fun w1 hw1 => rds_own (r := 2) rfl w1 hw1) h29)) ?_
      refine ow_batch [.p] rfl ?_
      obtain ⟨e30, h31, H⟩ := of_bind H
      refine ow_ixE (e := eVal (Value.int .i64) (fun _ => rfl)) (xs := y3.1) (j := 2) rfl rfl rfl rfl rfl sl22 ty3 rfl (fun w1 hw1 => rds_own (r := 2) rfl w1 hw1) h31 (by rw [Nat.mul_one]) ?_
      refine ow_rH rfl (dstOk_lt rfl) (ry_load1 rfl rfl ty3 (at_elV (fun w1 hw1 => rds_own (r := 2) rfl w1 hw1) h31)) ?_
      refine ow_rH rfl (dstOk_lt rfl) (ry_build2 [(0, [.int .i64 e28]), (1, [.int .i64 e30])] [.int .i64 e28, .int .i64 e30] rfl rfl ty87 fs87 rfl ⟨rfl, rfl, Nat.le_of_ble_eq_true rfl, rfl, rfl, Nat.le_of_ble_eq_true rfl,  trivial⟩ rfl) ?_
      refine ow_rH rfl (dstOk_lt rfl) (ry_build2 [(0, [.bool (e26 == 1)]), (1, [.int .i64 e28, .int .i64 e30])] [.bool (e26 == 1), .int .i64 e28, .int .i64 e30, .slice none 0 0, .int .i64 0, .slice none 0 0, .slice none 0 0, .int .i64 0, .slice none 0 0, .int .i64 0, .int .i64 0, .int .i64 0] rfl rfl ty91 fs91 rfl ⟨rfl, rfl, Nat.le_of_ble_eq_true rfl, rfl, rfl, Nat.le_of_ble_eq_true rfl,  trivial⟩ rfl) ?_
      refine ow_alloc rfl rfl rfl rfl ty91 (fun _ => (fun _ h => St.mask [true, true, true] rfl h)) (fun b32 => ?_)
      refine ow_nilH ?_
      refine x_qt ?_
      refine ow_storeC (off := 0) [.bool (e26 == 1), .int .i64 e28, .int .i64 e30, .slice none 0 0, .int .i64 0, .slice none 0 0, .slice none 0 0, .int .i64 0, .slice none 0 0, .int .i64 0, .int .i64 0, .int .i64 0] [_, _, _, _, _, _, _, _, _, _, _, _] (i := 3) rfl rfl rfl rfl rfl rfl ty91 rfl rfl (by intro u hu; simp only [List.mem_cons, List.not_mem_nil, or_false] at hu; rcases hu with rfl | rfl | rfl | rfl | rfl | rfl | rfl | rfl | rfl | rfl | rfl | rfl <;> rfl) rfl rfl rfl kp ?_
      refine ow_nil ?_
      refine x_qs ?_
      refine c_seq ?_
      refine c_reg ?_
      refine ow_batch [.p, .p] rfl ?_
      obtain ⟨y33, h34, H⟩ := of_bind H
      refine ow_callS rfl fn18 rfl rfl rfl rfl (fun w1 hw1 => spec_GetInts_ok w1  h34 (hw1.carve [] rfl rfl) (rds_bor g0 w1 hw1)) (fun v35 w1 w2 hw1 hR37 => ?_)
      obtain ⟨a38, n39, c40, F41, rfl, hS36⟩ := hR37
      obtain rfl := own_nS (i := 0) hS36 rfl
      refine ⟨St w M0 [_, _, _, _, _], hw1.comp [] rfl rfl hS36, fun _ _ => trivial, ?_⟩
      refine ow_batch [.p, .p, .p, .p, .p, .p, .p] rfl ?_
      refine ow_nil ?_
      refine x_qs ?_
      refine c_seq ?_
      refine c_seq ?_
      refine c_reg ?_
      refine ow_batch [.p, .p] rfl ?_
      refine ow_nil ?_
      refine x_qs ?_
      refine c_if rfl (fun hb => ?_) (fun hb => ?_)
      · have H := of_if_t hb H
        refine c_seq ?_
        refine c_reg ?_
        refine ow_r rfl (dstOk_lt rfl) (ry_box (off := 0) (ds := [.bool false, .int .i64 0, .int .i64 0, .slice none 0 0, .int .i64 0, .slice none 0 0, .slice none 0 0, .int .i64 0, .slice none 0 0, .int .i64 0, .int .i64 0, .int .i64 0]) rfl rfl ty91 (boxIn (i := 1) rfl) rfl rfl) ?_
        refine ow_storeC (off := 0) [.bool false, .int .i64 0, .int .i64 0, .slice none 0 0, .int .i64 0, .slice none 0 0, .slice none 0 0, .int .i64 0, .slice none 0 0, .int .i64 0, .int .i64 0, .int .i64 0] [_, _, _, _, _, _, _, _, _, _, _, _] (i := 0) rfl rfl rfl rfl rfl rfl ty91 rfl rfl (by intro u hu; simp only [List.mem_cons, List.not_mem_nil, or_false] at hu; rcases hu with rfl | rfl | rfl | rfl | rfl | rfl | rfl | rfl | rfl | rfl | rfl | rfl <;> rfl) rfl rfl rfl kp ?_
        refine ow_batch [.p, .p] rfl ?_
        refine ow_nil ?_
        refine x_qs ?_
        refine c_ret ?_
        refine x_qs_ret ?_
        refine xw_st (fun _ h => St.pushNil (e := eVal (Value.int .i64) (fun _ => rfl)) (T := 3) h) ?_
        refine xw_st (fun _ h => St.pushNil (e := eVal (Value.int .i64) (fun _ => rfl)) (T := 3) h) ?_
        refine xw_st (fun _ h => St.pushNil (e := eList (eVal (Value.int .i64) (fun _ => rfl)) 3) (T := 22) h) ?_
        refine xw_st (fun _ h => St.pushNil (e := eVal (Value.int .i64) (fun _ => rfl)) (T := 3) h) ?_
        exact x_retR (rs := [.cell 4 91, .tmp 5, .tmp 6]) (vs := [.agg #[.bool false, .int .i64 0, .int .i64 0, .slice none 0 0, .int .i64 0, .slice none 0 0, .slice none 0 0, .int .i64 0, .slice none 0 0, .int .i64 0, .int .i64 0, .int .i64 0], .int .i64 0, .bool false]) rfl ⟨⟨_, [.bool false, .int .i64 0, .int .i64 0, .slice none 0 0, .int .i64 0, .slice none 0 0, .slice none 0 0, .int .i64 0, .slice none 0 0, .int .i64 0, .int .i64 0, .int .i64 0], _, _, _, rfl, ty91, (at_box (T := 91) 0 (boxIn (i := 0) rfl) rfl), rfl, rfl⟩, rfl, rfl, trivial⟩ (fun w' hw' => by
            obtain rfl := of_some H
            exact ⟨_, rfl, none, 0, 0, [], none, 0, 0, [], none, 0, 0, [], none, 0, 0, [], rfl, hw'.sel [5, 6, 7, 8] rfl rfl⟩)
      · have H := of_if_f hb H
        refine c_skip ?_
        refine x_qs ?_
        refine c_seq ?_
        refine c_reg ?_
        refine ow_batch [.p, .p] rfl ?_
        obtain ⟨y42, h43, H⟩ := of_bind H
        refine ow_q rfl rfl (dstOk_lt rfl) (qy_call rfl fn50 rfl (fun w1 hw1 => spec_GetInt_ok w1  h43 (rds_bor g0 w1 hw1))) (fun _ _ => trivial) ?_
        refine ow_batch [.p, .p, .p, .p, .p, .p, .p] rfl ?_
        refine ow_nil ?_
        refine x_qs ?_
        refine c_seq ?_
        refine c_seq ?_
        refine c_reg ?_
        refine ow_batch [.p, .p] rfl ?_
        refine ow_nil ?_
        refine x_qs ?_
        refine c_if rfl (fun hb => ?_) (fun hb => ?_)
        · have H := of_if_t hb H
          refine c_seq ?_
          refine c_reg ?_
          refine ow_r rfl (dstOk_lt rfl) (ry_box (off := 0) (ds := [.bool false, .int .i64 0, .int .i64 0, .slice none 0 0, .int .i64 0, .slice none 0 0, .slice none 0 0, .int .i64 0, .slice none 0 0, .int .i64 0, .int .i64 0, .int .i64 0]) rfl rfl ty91 (boxIn (i := 1) rfl) rfl rfl) ?_
          refine ow_storeC (off := 0) [.bool false, .int .i64 0, .int .i64 0, .slice none 0 0, .int .i64 0, .slice none 0 0, .slice none 0 0, .int .i64 0, .slice none 0 0, .int .i64 0, .int .i64 0, .int .i64 0] [_, _, _, _, _, _, _, _, _, _, _, _] (i := 0) rfl rfl rfl rfl rfl rfl ty91 rfl rfl (by intro u hu; simp only [List.mem_cons, List.not_mem_nil, or_false] at hu; rcases hu with rfl | rfl | rfl | rfl | rfl | rfl | rfl | rfl | rfl | rfl | rfl | rfl <;> rfl) rfl rfl rfl kp ?_
          refine ow_batch [.p, .p] rfl ?_
          refine ow_nil ?_
          refine x_qs ?_
          refine c_ret ?_
          refine x_qs_ret ?_
          refine xw_st (fun _ h => St.pushNil (e := eVal (Value.int .i64) (fun _ => rfl)) (T := 3) h) ?_
          refine xw_st (fun _ h => St.pushNil (e := eVal (Value.int .i64) (fun _ => rfl)) (T := 3) h) ?_
          refine xw_st (fun _ h => St.pushNil (e := eList (eVal (Value.int .i64) (fun _ => rfl)) 3) (T := 22) h) ?_
          refine xw_st (fun _ h => St.pushNil (e := eVal (Value.int .i64) (fun _ => rfl)) (T := 3) h) ?_
          exact x_retR (rs := [.cell 4 91, .tmp 5, .tmp 6]) (vs := [.agg #[.bool false, .int .i64 0, .int .i64 0, .slice none 0 0, .int .i64 0, .slice none 0 0, .slice none 0 0, .int .i64 0, .slice none 0 0, .int .i64 0, .int .i64 0, .int .i64 0], .int .i64 0, .bool false]) rfl ⟨⟨_, [.bool false, .int .i64 0, .int .i64 0, .slice none 0 0, .int .i64 0, .slice none 0 0, .slice none 0 0, .int .i64 0, .slice none 0 0, .int .i64 0, .int .i64 0, .int .i64 0], _, _, _, rfl, ty91, (at_box (T := 91) 0 (boxIn (i := 0) rfl) rfl), rfl, rfl⟩, rfl, rfl, trivial⟩ (fun w' hw' => by
              obtain rfl := of_some H
              exact ⟨_, rfl, none, 0, 0, [], none, 0, 0, [], none, 0, 0, [], none, 0, 0, [], rfl, hw'.sel [5, 6, 7, 8] rfl rfl⟩)
        · have H := of_if_f hb H
          refine c_skip ?_
          refine x_qs ?_
          refine c_seq ?_
          refine c_reg ?_
          refine ow_batch [.p, .p] rfl ?_
          obtain ⟨y44, h45, H⟩ := of_bind H
          refine ow_callS rfl fn18 rfl rfl rfl rfl (fun w1 hw1 => spec_GetInts_ok w1  h45 (hw1.carve [] rfl rfl) (rds_bor g0 w1 hw1)) (fun v46 w1 w2 hw1 hR48 => ?_)
          obtain ⟨a49, n50, c51, F52, rfl, hS47⟩ := hR48
          obtain rfl := own_nS (i := 0) hS47 rfl
          refine ⟨St w M0 [_, _, _, _, _, _], hw1.comp [] rfl rfl hS47, fun _ _ => trivial, ?_⟩
          refine ow_batch [.p, .p, .p, .p, .p, .p, .p] rfl ?_
          refine ow_nil ?_
          refine x_qs ?_
          refine c_seq ?_
          refine c_seq ?_
          refine c_reg ?_
          refine ow_batch [.p, .p] rfl ?_
          refine ow_nil ?_
          refine x_qs ?_
          refine c_if rfl (fun hb => ?_) (fun hb => ?_)
          · have H := of_if_t hb H
            refine c_seq ?_
            refine c_reg ?_
            refine ow_r rfl (dstOk_lt rfl) (ry_box (off := 0) (ds := [.bool false, .int .i64 0, .int .i64 0, .slice none 0 0, .int .i64 0, .slice none 0 0, .slice none 0 0, .int .i64 0, .slice none 0 0, .int .i64 0, .int .i64 0, .int .i64 0]) rfl rfl ty91 (boxIn (i := 1) rfl) rfl rfl) ?_
            refine ow_storeC (off := 0) [.bool false, .int .i64 0, .int .i64 0, .slice none 0 0, .int .i64 0, .slice none 0 0, .slice none 0 0, .int .i64 0, .slice none 0 0, .int .i64 0, .int .i64 0, .int .i64 0] [_, _, _, _, _, _, _, _, _, _, _, _] (i := 0) rfl rfl rfl rfl rfl rfl ty91 rfl rfl (by intro u hu; simp only [List.mem_cons, List.not_mem_nil, or_false] at hu; rcases hu with rfl | rfl | rfl | rfl | rfl | rfl | rfl | rfl | rfl | rfl | rfl | rfl <;> rfl) rfl rfl rfl kp ?_
            refine ow_batch [.p, .p] rfl ?_
            refine ow_nil ?_
            refine x_qs ?_
            refine c_ret ?_
            refine x_qs_ret ?_
            refine xw_st (fun _ h => St.pushNil (e := eVal (Value.int .i64) (fun _ => rfl)) (T := 3) h) ?_
            refine xw_st (fun _ h => St.pushNil (e := eVal (Value.int .i64) (fun _ => rfl)) (T := 3) h) ?_
            refine xw_st (fun _ h => St.pushNil (e := eList (eVal (Value.int .i64) (fun _ => rfl)) 3) (T := 22) h) ?_
            refine xw_st (fun _ h => St.pushNil (e := eVal (Value.int .i64) (fun _ => rfl)) (T := 3) h) ?_
            exact x_retR (rs := [.cell 4 91, .tmp 5, .tmp 6]) (vs := [.agg #[.bool false, .int .i64 0, .int .i64 0, .slice none 0 0, .int .i64 0, .slice none 0 0, .slice none 0 0, .int .i64 0, .slice none 0 0, .int .i64 0, .int .i64 0, .int .i64 0], .int .i64 0, .bool false]) rfl ⟨⟨_, [.bool false, .int .i64 0, .int .i64 0, .slice none 0 0, .int .i64 0, .slice none 0 0, .slice none 0 0, .int .i64 0, .slice none 0 0, .int .i64 0, .int .i64 0, .int .i64 0], _, _, _, rfl, ty91, (at_box (T := 91) 0 (boxIn (i := 0) rfl) rfl), rfl, rfl⟩, rfl, rfl, trivial⟩ (fun w' hw' => by
                obtain rfl := of_some H
                exact ⟨_, rfl, none, 0, 0, [], none, 0, 0, [], none, 0, 0, [], none, 0, 0, [], rfl, hw'.sel [6, 7, 8, 9] rfl rfl⟩)
          · have H := of_if_f hb H
            refine c_skip ?_
            refine x_qs ?_
            refine c_seq ?_
            refine c_reg ?_
            refine ow_batch [.p, .p] rfl ?_
            obtain ⟨y53, h54, H⟩ := of_bind H
            refine ow_callS rfl fn58 rfl rfl rfl rfl (fun w1 hw1 => spec_l27GetLists_ok w1  h54 (hw1.carve [] rfl rfl) (rds_bor g0 w1 hw1)) (fun v55 w1 w2 hw1 hR57 => ?_)
            obtain ⟨a58, n59, c60, F61, rfl, hS56⟩ := hR57
            obtain rfl := own_nS (i := 0) hS56 rfl
            refine ⟨St w M0 [_, _, _, _, _, _, _], hw1.comp [] rfl rfl hS56, fun _ _ => trivial, ?_⟩
            refine ow_batch [.p, .p, .p, .p, .p, .p, .p] rfl ?_
            refine ow_nil ?_
            refine x_qs ?_
            refine c_seq ?_
            refine c_seq ?_
            refine c_reg ?_
            refine ow_batch [.p, .p] rfl ?_
            refine ow_nil ?_
            refine x_qs ?_
            refine c_if rfl (fun hb => ?_) (fun hb => ?_)
            · have H := of_if_t hb H
              refine c_seq ?_
              refine c_reg ?_
              refine ow_r rfl (dstOk_lt rfl) (ry_box (off := 0) (ds := [.bool false, .int .i64 0, .int .i64 0, .slice none 0 0, .int .i64 0, .slice none 0 0, .slice none 0 0, .int .i64 0, .slice none 0 0, .int .i64 0, .int .i64 0, .int .i64 0]) rfl rfl ty91 (boxIn (i := 1) rfl) rfl rfl) ?_
              refine ow_storeC (off := 0) [.bool false, .int .i64 0, .int .i64 0, .slice none 0 0, .int .i64 0, .slice none 0 0, .slice none 0 0, .int .i64 0, .slice none 0 0, .int .i64 0, .int .i64 0, .int .i64 0] [_, _, _, _, _, _, _, _, _, _, _, _] (i := 0) rfl rfl rfl rfl rfl rfl ty91 rfl rfl (by intro u hu; simp only [List.mem_cons, List.not_mem_nil, or_false] at hu; rcases hu with rfl | rfl | rfl | rfl | rfl | rfl | rfl | rfl | rfl | rfl | rfl | rfl <;> rfl) rfl rfl rfl kp ?_
              refine ow_batch [.p, .p] rfl ?_
              refine ow_nil ?_
              refine x_qs ?_
              refine c_ret ?_
              refine x_qs_ret ?_
              refine xw_st (fun _ h => St.pushNil (e := eVal (Value.int .i64) (fun _ => rfl)) (T := 3) h) ?_
              refine xw_st (fun _ h => St.pushNil (e := eVal (Value.int .i64) (fun _ => rfl)) (T := 3) h) ?_
              refine xw_st (fun _ h => St.pushNil (e := eList (eVal (Value.int .i64) (fun _ => rfl)) 3) (T := 22) h) ?_
              refine xw_st (fun _ h => St.pushNil (e := eVal (Value.int .i64) (fun _ => rfl)) (T := 3) h) ?_
              exact x_retR (rs := [.cell 4 91, .tmp 5, .tmp 6]) (vs := [.agg #[.bool false, .int .i64 0, .int .i64 0, .slice none 0 0, .int .i64 0, .slice none 0 0, .slice none 0 0, .int .i64 0, .slice none 0 0, .int .i64 0, .int .i64 0, .int .i64 0], .int .i64 0, .bool false]) rfl ⟨⟨_, [.bool false, .int .i64 0, .int .i64 0, .slice none 0 0, .int .i64 0, .slice none 0 0, .slice none 0 0, .int .i64 0, .slice none 0 0, .int .i64 0, .int .i64 0, .int .i64 0], _, _, _, rfl, ty91, (at_box (T := 91) 0 (boxIn (i := 0) rfl) rfl), rfl, rfl⟩, rfl, rfl, trivial⟩ (fun w' hw' => by
                  obtain rfl := of_some H
                  exact ⟨_, rfl, none, 0, 0, [], none, 0, 0, [], none, 0, 0, [], none, 0, 0, [], rfl, hw'.sel [7, 8, 9, 10] rfl rfl⟩)
            · have H := of_if_f hb H
              refine c_skip ?_
              refine x_qs ?_
              refine c_seq ?_
              refine c_reg ?_
              refine ow_batch [.p, .p] rfl ?_
              obtain ⟨y62, h63, H⟩ := of_bind H
              refine ow_q rfl rfl (dstOk_lt rfl) (qy_call rfl fn50 rfl (fun w1 hw1 => spec_GetInt_ok w1  h63 (rds_bor g0 w1 hw1))) (fun _ _ => trivial) ?_
              refine ow_batch [.p, .p, .p, .p, .p, .p, .p] rfl ?_
              refine ow_nil ?_
              refine x_qs ?_
              refine c_seq ?_
              refine c_seq ?_
              refine c_reg ?_
              refine ow_batch [.p, .p] rfl ?_
              refine ow_nil ?_
              refine x_qs ?_
              refine c_if rfl (fun hb => ?_) (fun hb => ?_)
              · have H := of_if_t hb H
                refine c_seq ?_
                refine c_reg ?_
                refine ow_r rfl (dstOk_lt rfl) (ry_box (off := 0) (ds := [.bool false, .int .i64 0, .int .i64 0, .slice none 0 0, .int .i64 0, .slice none 0 0, .slice none 0 0, .int .i64 0, .slice none 0 0, .int .i64 0, .int .i64 0, .int .i64 0]) rfl rfl ty91 (boxIn (i := 1) rfl) rfl rfl) ?_
                refine ow_storeC (off := 0) [.bool false, .int .i64 0, .int .i64 0, .slice none 0 0, .int .i64 0, .slice none 0 0, .slice none 0 0, .int .i64 0, .slice none 0 0, .int .i64 0, .int .i64 0, .int .i64 0] [_, _, _, _, _, _, _, _, _, _, _, _] (i := 0) rfl rfl rfl rfl rfl rfl ty91 rfl rfl (by intro u hu; simp only [List.mem_cons, List.not_mem_nil, or_false] at hu; rcases hu with rfl | rfl | rfl | rfl | rfl | rfl | rfl | rfl | rfl | rfl | rfl | rfl <;> rfl) rfl rfl rfl kp ?_
                refine ow_batch [.p, .p] rfl ?_
                refine ow_nil ?_
                refine x_qs ?_
                refine c_ret ?_
                refine x_qs_ret ?_
                refine xw_st (fun _ h => St.pushNil (e := eVal (Value.int .i64) (fun _ => rfl)) (T := 3) h) ?_
                refine xw_st (fun _ h => St.pushNil (e := eVal (Value.int .i64) (fun _ => rfl)) (T := 3) h) ?_
                refine xw_st (fun _ h => St.pushNil (e := eList (eVal (Value.int .i64) (fun _ => rfl)) 3) (T := 22) h) ?_
                refine xw_st (fun _ h => St.pushNil (e := eVal (Value.int .i64) (fun _ => rfl)) (T := 3) h) ?_
                exact x_retR (rs := [.cell 4 91, .tmp 5, .tmp 6]) (vs := [.agg #[.bool false, .int .i64 0, .int .i64 0, .slice none 0 0, .int .i64 0, .slice none 0 0, .slice none 0 0, .int .i64 0, .slice none 0 0, .int .i64 0, .int .i64 0, .int .i64 0], .int .i64 0, .bool false]) rfl ⟨⟨_, [.bool false, .int .i64 0, .int .i64 0, .slice none 0 0, .int .i64 0, .slice none 0 0, .slice none 0 0, .int .i64 0, .slice none 0 0, .int .i64 0, .int .i64 0, .int .i64 0], _, _, _, rfl, ty91, (at_box (T := 91) 0 (boxIn (i := 0) rfl) rfl), rfl, rfl⟩, rfl, rfl, trivial⟩ (fun w' hw' => by
                    obtain rfl := of_some H
                    exact ⟨_, rfl, none, 0, 0, [], none, 0, 0, [], none, 0, 0, [], none, 0, 0, [], rfl, hw'.sel [7, 8, 9, 10] rfl rfl⟩)
              · have H := of_if_f hb H
                refine c_skip ?_
                refine x_qs ?_
                refine c_seq ?_
                refine c_reg ?_
                refine ow_batch [.p, .p] rfl ?_
                obtain ⟨y64, h65, H⟩ := of_bind H
                refine ow_callS rfl fn18 rfl rfl rfl rfl (fun w1 hw1 => spec_GetInts_ok w1  h65 (hw1.carve [] rfl rfl) (rds_bor g0 w1 hw1)) (fun v66 w1 w2 hw1 hR68 => ?_)
                obtain ⟨a69, n70, c71, F72, rfl, hS67⟩ := hR68
                obtain rfl := own_nS (i := 0) hS67 rfl
                refine ⟨St w M0 [_, _, _, _, _, _, _, _], hw1.comp [] rfl rfl hS67, fun _ _ => trivial, ?_⟩
                refine ow_batch [.p, .p, .p, .p, .p, .p, .p] rfl ?_
                refine ow_nil ?_
                refine x_qs ?_
                refine c_seq ?_
                refine c_seq ?_
                refine c_reg ?_
                refine ow_batch [.p, .p] rfl ?_
                refine ow_nil ?_
                refine x_qs ?_
                refine c_if rfl (fun hb => ?_) (fun hb => ?_)
                · have H := of_if_t hb H
                  refine c_seq ?_
                  refine c_reg ?_
                  refine ow_r rfl (dstOk_lt rfl) (ry_box (off := 0) (ds := [.bool false, .int .i64 0, .int .i64 0, .slice none 0 0, .int .i64 0, .slice none 0 0, .slice none 0 0, .int .i64 0, .slice none 0 0, .int .i64 0, .int .i64 0, .int .i64 0]) rfl rfl ty91 (boxIn (i := 1) rfl) rfl rfl) ?_
                  refine ow_storeC (off := 0) [.bool false, .int .i64 0, .int .i64 0, .slice none 0 0, .int .i64 0, .slice none 0 0, .slice none 0 0, .int .i64 0, .slice none 0 0, .int .i64 0, .int .i64 0, .int .i64 0] [_, _, _, _, _, _, _, _, _, _, _, _] (i := 0) rfl rfl rfl rfl rfl rfl ty91 rfl rfl (by intro u hu; simp only [List.mem_cons, List.not_mem_nil, or_false] at hu; rcases hu with rfl | rfl | rfl | rfl | rfl | rfl | rfl | rfl | rfl | rfl | rfl | rfl <;> rfl) rfl rfl rfl kp ?_
                  refine ow_batch [.p, .p] rfl ?_
                  refine ow_nil ?_
                  refine x_qs ?_
                  refine c_ret ?_
                  refine x_qs_ret ?_
                  refine xw_st (fun _ h => St.pushNil (e := eVal (Value.int .i64) (fun _ => rfl)) (T := 3) h) ?_
                  refine xw_st (fun _ h => St.pushNil (e := eVal (Value.int .i64) (fun _ => rfl)) (T := 3) h) ?_
                  refine xw_st (fun _ h => St.pushNil (e := eList (eVal (Value.int .i64) (fun _ => rfl)) 3) (T := 22) h) ?_
                  refine xw_st (fun _ h => St.pushNil (e := eVal (Value.int .i64) (fun _ => rfl)) (T := 3) h) ?_
                  exact x_retR (rs := [.cell 4 91, .tmp 5, .tmp 6]) (vs := [.agg #[.bool false, .int .i64 0, .int .i64 0, .slice none 0 0, .int .i64 0, .slice none 0 0, .slice none 0 0, .int .i64 0, .slice none 0 0, .int .i64 0, .int .i64 0, .int .i64 0], .int .i64 0, .bool false]) rfl ⟨⟨_, [.bool false, .int .i64 0, .int .i64 0, .slice none 0 0, .int .i64 0, .slice none 0 0, .slice none 0 0, .int .i64 0, .slice none 0 0, .int .i64 0, .int .i64 0, .int .i64 0], _, _, _, rfl, ty91, (at_box (T := 91) 0 (boxIn (i := 0) rfl) rfl), rfl, rfl⟩, rfl, rfl, trivial⟩ (fun w' hw' => by
                      obtain rfl := of_some H
                      exact ⟨_, rfl, none, 0, 0, [], none, 0, 0, [], none, 0, 0, [], none, 0, 0, [], rfl, hw'.sel [8, 9, 10, 11] rfl rfl⟩)
                · have H := of_if_f hb H
                  refine c_skip ?_
                  refine x_qs ?_
                  refine c_seq ?_
                  refine c_reg ?_
                  refine ow_batch [.p, .p] rfl ?_
                  obtain ⟨y73, h74, H⟩ := of_bind H
                  refine ow_callS rfl fn68 rfl rfl rfl rfl (fun w1 hw1 => spec_l27Some_ok w1  h74 (hw1.carve [] rfl rfl) (rds_bor g0 w1 hw1)) (fun v75 w1 w2 hw1 hR77 => ?_)
                  obtain ⟨a78, n79, c80, F81, rfl, hS76⟩ := hR77
                  obtain rfl := own_nS (i := 0) hS76 rfl
                  refine ⟨St w M0 [_, _, _, _, _, _, _, _, _], hw1.comp [] rfl rfl hS76, fun _ _ => trivial, ?_⟩
                  refine ow_batch [.p, .p, .p, .p, .p, .p, .p] rfl ?_
                  refine ow_nil ?_
                  refine x_qs ?_
                  refine c_seq ?_
                  refine c_seq ?_
                  refine c_reg ?_
                  refine ow_batch [.p, .p] rfl ?_
                  refine ow_nil ?_
                  refine x_qs ?_
                  refine c_if rfl (fun hb => ?_) (fun hb => ?_)
                  · have H := of_if_t hb H
                    refine c_seq ?_
                    refine c_reg ?_
                    refine ow_r rfl (dstOk_lt rfl) (ry_box (off := 0) (ds := [.bool false, .int .i64 0, .int .i64 0, .slice none 0 0, .int .i64 0, .slice none 0 0, .slice none 0 0, .int .i64 0, .slice none 0 0, .int .i64 0, .int .i64 0, .int .i64 0]) rfl rfl ty91 (boxIn (i := 1) rfl) rfl rfl) ?_
                    refine ow_storeC (off := 0) [.bool false, .int .i64 0, .int .i64 0, .slice none 0 0, .int .i64 0, .slice none 0 0, .slice none 0 0, .int .i64 0, .slice none 0 0, .int .i64 0, .int .i64 0, .int .i64 0] [_, _, _, _, _, _, _, _, _, _, _, _] (i := 0) rfl rfl rfl rfl rfl rfl ty91 rfl rfl (by intro u hu; simp only [List.mem_cons, List.not_mem_nil, or_false] at hu; rcases hu with rfl | rfl | rfl | rfl | rfl | rfl | rfl | rfl | rfl | rfl | rfl | rfl <;> rfl) rfl rfl rfl kp ?_
                    refine ow_batch [.p, .p] rfl ?_
                    refine ow_nil ?_
                    refine x_qs ?_
                    refine c_ret ?_
                    refine x_qs_ret ?_
                    refine xw_st (fun _ h => St.pushNil (e := eVal (Value.int .i64) (fun _ => rfl)) (T := 3) h) ?_
                    refine xw_st (fun _ h => St.pushNil (e := eVal (Value.int .i64) (fun _ => rfl)) (T := 3) h) ?_
                    refine xw_st (fun _ h => St.pushNil (e := eList (eVal (Value.int .i64) (fun _ => rfl)) 3) (T := 22) h) ?_
                    refine xw_st (fun _ h => St.pushNil (e := eVal (Value.int .i64) (fun _ => rfl)) (T := 3) h) ?_
                    exact x_retR (rs := [.cell 4 91, .tmp 5, .tmp 6]) (vs := [.agg #[.bool false, .int .i64 0, .int .i64 0, .slice none 0 0, .int .i64 0, .slice none 0 0, .slice none 0 0, .int .i64 0, .slice none 0 0, .int .i64 0, .int .i64 0, .int .i64 0], .int .i64 0, .bool false]) rfl ⟨⟨_, [.bool false, .int .i64 0, .int .i64 0, .slice none 0 0, .int .i64 0, .slice none 0 0, .slice none 0 0, .int .i64 0, .slice none 0 0, .int .i64 0, .int .i64 0, .int .i64 0], _, _, _, rfl, ty91, (at_box (T := 91) 0 (boxIn (i := 0) rfl) rfl), rfl, rfl⟩, rfl, rfl, trivial⟩ (fun w' hw' => by
                        obtain rfl := of_some H
                        exact ⟨_, rfl, none, 0, 0, [], none, 0, 0, [], none, 0, 0, [], none, 0, 0, [], rfl, hw'.sel [9, 10, 11, 12] rfl rfl⟩)
                  · have H := of_if_f hb H
                    refine c_skip ?_
                    refine x_qs ?_
                    refine c_seq ?_
                    refine c_reg ?_
                    refine ow_batch [.p, .fa 91 2 3 fa91_2] rfl ?_
                    refine ow_storeC (off := 3) [.slice a38 y33.1.length c40] [_, _, _, _, _, _, _, _, _, _, _, _] (i := 3) rfl rfl rfl rfl rfl rfl ty22 rfl rfl (by intro u hu; simp only [List.mem_cons, List.not_mem_nil, or_false] at hu; rcases hu with rfl <;> rfl) rfl rfl rfl kp ?_
                    refine ow_nil ?_
                    refine x_qs ?_
                    refine c_seq ?_
                    refine c_reg ?_
                    refine ow_batch [.p, .fa 91 3 4 fa91_3] rfl ?_
                    refine ow_storeC (off := 4) [.int .i64 y42.1] [_, _, _, _, _, _, _, _, _, _, _, _] (i := 3) rfl rfl rfl rfl rfl rfl ty3 rfl rfl (by intro u hu; simp only [List.mem_cons, List.not_mem_nil, or_false] at hu; rcases hu with rfl <;> rfl) rfl rfl rfl kp ?_
                    refine ow_nil ?_
                    refine x_qs ?_
                    refine c_seq ?_
                    refine c_reg ?_
                    refine ow_batch [.p, .p] rfl ?_
                    refine ow_r rfl (dstOk_lt rfl) (ry_build2 [(0, [.slice a49 y44.1.length c51]), (1, [.slice a58 y53.1.length c60])] [.slice a49 y44.1.length c51, .slice a58 y53.1.length c60] rfl rfl ty89 fs89 rfl ⟨rfl, rfl, Nat.le_of_ble_eq_true rfl, rfl, rfl, Nat.le_of_ble_eq_true rfl,  trivial⟩ rfl) ?_
                    refine ow_batch [.fa 91 4 5 fa91_4] rfl ?_
                    refine ow_storeC (off := 5) [.slice a49 y44.1.length c51, .slice a58 y53.1.length c60] [_, _, _, _, _, _, _, _, _, _, _, _] (i := 3) rfl rfl rfl rfl rfl rfl ty89 rfl rfl (by intro u hu; simp only [List.mem_cons, List.not_mem_nil, or_false] at hu; rcases hu with rfl | rfl <;> rfl) rfl rfl rfl kp ?_
                    refine ow_nil ?_
                    refine x_qs ?_
                    refine c_seq ?_
                    refine c_reg ?_
                    refine ow_batch [.p, .fa 91 5 7 fa91_5] rfl ?_
                    refine ow_storeC (off := 7) [.int .i64 y62.1] [_, _, _, _, _, _, _, _, _, _, _, _] (i := 3) rfl rfl rfl rfl rfl rfl ty3 rfl rfl (by intro u hu; simp only [List.mem_cons, List.not_mem_nil, or_false] at hu; rcases hu with rfl <;> rfl) rfl rfl rfl kp ?_
                    refine ow_nil ?_
                    refine x_qs ?_
                    refine c_seq ?_
                    refine CW.weak (C' := St w M0 [_, _, _, _, _, _, _, _, _]) ?_ (fun _ h => St.sel [0, 1, 2, 3, 4, 5, 6, 7, 8] rfl rfl h)
                    refine c_reg ?_
                    refine ow_batch [.p, .fa 91 6 8 fa91_6] rfl ?_
                    refine ow_storeC (off := 8) [.slice a69 y64.1.length c71] [_, _, _, _, _, _, _, _, _, _, _, _] (i := 3) rfl rfl rfl rfl rfl rfl ty22 rfl rfl (by intro u hu; simp only [List.mem_cons, List.not_mem_nil, or_false] at hu; rcases hu with rfl <;> rfl) rfl rfl rfl kp ?_
                    refine ow_nil ?_
                    refine x_qs ?_
                    refine c_seq ?_
                    refine c_reg ?_
                    refine ow_batch [.p] rfl ?_
                    obtain ⟨e82, h83, H⟩ := of_bind H
                    refine ow_ixE (e := eVal (Value.int .i64) (fun _ => rfl)) (xs := y73.1) (j := 0) rfl rfl rfl rfl rfl sl22 ty3 rfl (fun w1 hw1 => rds_own (r := 8) rfl w1 hw1) h83 (by rw [Nat.mul_one]) ?_
                    refine ow_r rfl (dstOk_lt rfl) (ry_load1 rfl rfl ty3 (at_elV (fun w1 hw1 => rds_own (r := 8) rfl w1 hw1) h83)) ?_
                    refine ow_batch [.fa 91 7 9 fa91_7] rfl ?_
                    refine ow_storeC (off := 9) [.int .i64 e82] [_, _, _, _, _, _, _, _, _, _, _, _] (i := 3) rfl rfl rfl rfl rfl rfl ty3 rfl rfl (by intro u hu; simp only [List.mem_cons, List.not_mem_nil, or_false] at hu; rcases hu with rfl <;> rfl) rfl rfl rfl kp ?_
                    refine ow_nil ?_
                    refine x_qs ?_
                    refine c_seq ?_
                    refine c_reg ?_
                    refine ow_batch [.p] rfl ?_
                    obtain ⟨e84, h85, H⟩ := of_bind H
                    refine ow_ixE (e := eVal (Value.int .i64) (fun _ => rfl)) (xs := y73.1) (j := 1) rfl rfl rfl rfl rfl sl22 ty3 rfl (fun w1 hw1 => rds_own (r := 8) rfl w1 hw1) h85 (by rw [Nat.mul_one]) ?_
                    refine ow_r rfl (dstOk_lt rfl) (ry_load1 rfl rfl ty3 (at_elV (fun w1 hw1 => rds_own (r := 8) rfl w1 hw1) h85)) ?_
                    refine ow_batch [.fa 91 8 10 fa91_8] rfl ?_
                    refine ow_storeC (off := 10) [.int .i64 e84] [_, _, _, _, _, _, _, _, _, _, _, _] (i := 3) rfl rfl rfl rfl rfl rfl ty3 rfl rfl (by intro u hu; simp only [List.mem_cons, List.not_mem_nil, or_false] at hu; rcases hu with rfl <;> rfl) rfl rfl rfl kp ?_
                    refine ow_nil ?_
                    refine x_qs ?_
                    refine c_seq ?_
                    refine c_reg ?_
                    refine ow_batch [.p] rfl ?_
                    obtain ⟨e86, h87, H⟩ := of_bind H
                    refine ow_ixE (e := eVal (Value.int .i64) (fun _ => rfl)) (xs := y73.1) (j := 2) rfl rfl rfl rfl rfl sl22 ty3 rfl (fun w1 hw1 => rds_own (r := 8) rfl w1 hw1) h87 (by rw [Nat.mul_one]) ?_
                    refine ow_r rfl (dstOk_lt rfl) (ry_load1 rfl rfl ty3 (at_elV (fun w1 hw1 => rds_own (r := 8) rfl w1 hw1) h87)) ?_
                    refine ow_batch [.fa 91 9 11 fa91_9] rfl ?_
                    refine ow_storeC (off := 11) [.int .i64 e86] [_, _, _, _, _, _, _, _, _, _, _, _] (i := 3) rfl rfl rfl rfl rfl rfl ty3 rfl rfl (by intro u hu; simp only [List.mem_cons, List.not_mem_nil, or_false] at hu; rcases hu with rfl <;> rfl) rfl rfl rfl kp ?_
                    refine ow_nil ?_
                    refine x_qs ?_
                    refine c_seq ?_
                    refine c_reg ?_
                    refine ow_r rfl (dstOk_lt rfl) (ry_box (off := 0) (ds := [.bool (e26 == 1), .int .i64 e28, .int .i64 e30, .slice a38 y33.1.length c40, .int .i64 y42.1, .slice a49 y44.1.length c51, .slice a58 y53.1.length c60, .int .i64 y62.1, .slice a69 y64.1.length c71, .int .i64 e82, .int .i64 e84, .int .i64 e86]) rfl rfl ty91 (boxIn (i := 3) rfl) rfl rfl) ?_
                    refine ow_batch [.p] rfl ?_
                    refine ow_storeC (off := 0) [.bool (e26 == 1), .int .i64 e28, .int .i64 e30, .slice a38 y33.1.length c40, .int .i64 y42.1, .slice a49 y44.1.length c51, .slice a58 y53.1.length c60, .int .i64 y62.1, .slice a69 y64.1.length c71, .int .i64 e82, .int .i64 e84, .int .i64 e86] [_, _, _, _, _, _, _, _, _, _, _, _] (i := 0) rfl rfl rfl rfl rfl rfl ty91 rfl rfl (by intro u hu; simp only [List.mem_cons, List.not_mem_nil, or_false] at hu; rcases hu with rfl | rfl | rfl | rfl | rfl | rfl | rfl | rfl | rfl | rfl | rfl | rfl <;> rfl) rfl rfl rfl kp ?_
                    refine ow_batch [.p, .p] rfl ?_
                    refine ow_nil ?_
                    refine x_qs ?_
                    refine c_ret ?_
                    exact x_retR (rs := [.cell 4 91, .tmp 5, .tmp 6]) (vs := [.agg #[.bool (e26 == 1), .int .i64 e28, .int .i64 e30, .slice a38 y33.1.length c40, .int .i64 y42.1, .slice a49 y44.1.length c51, .slice a58 y53.1.length c60, .int .i64 y62.1, .slice a69 y64.1.length c71, .int .i64 e82, .int .i64 e84, .int .i64 e86], .int .i64 y73.2.1, .bool true]) rfl ⟨⟨_, [.bool (e26 == 1), .int .i64 e28, .int .i64 e30, .slice a38 y33.1.length c40, .int .i64 y42.1, .slice a49 y44.1.length c51, .slice a58 y53.1.length c60, .int .i64 y62.1, .slice a69 y64.1.length c71, .int .i64 e82, .int .i64 e84, .int .i64 e86], _, _, _, rfl, ty91, (at_box (T := 91) 0 (boxIn (i := 0) rfl) rfl), rfl, rfl⟩, rfl, rfl, trivial⟩ (fun w' hw' => by
                        obtain rfl := of_some H
                        exact ⟨_, rfl, a38, y33.1.length, c40, F41, a49, y44.1.length, c51, F52, a58, y53.1.length, c60, F61, a69, y64.1.length, c71, F72, rfl, hw'.sel [4, 5, 6, 7] rfl rfl⟩)
  · clear H
    have H := hu18
    clear hu18
    generalize (!y3.2.2) = t17 at H ⊢
    cases t17
    · have H := of_if_f rfl H
      refine ow_batch [.p] rfl ?_
      obtain ⟨e13, h14, H⟩ := of_bind H
      refine ow_ixE (e := eVal (Value.int .i64) (fun _ => rfl)) (xs := y3.1) (j := 0) rfl rfl rfl rfl rfl sl22 ty3 rfl (fun w1 hw1 => rds_own (r := 2) rfl w1 hw1) h14 (by rw [Nat.mul_one]) ?_
      refine ow_r rfl (dstOk_lt rfl) (ry_load1 rfl rfl ty3 (at_elV (fun w1 hw1 => rds_own (r := 2) rfl w1 hw1) h14)) ?_
      obtain ⟨y15, h16, H⟩ := of_bind H
      refine ow_q rfl rfl (dstOk_lt rfl) (qy_call rfl fn80 rfl (fun w1 hw1 => spec_l1In_ok w1  h16)) (fun _ _ => trivial) ?_
      refine ow_batch [.p] rfl ?_
      refine ow_batch [.p] rfl ?_
      obtain rfl := of_some H
      exact OW.sub key ⟨rfl, rfl, rfl, rfl, rfl, rfl, trivial⟩
    · have H := of_if_t rfl H
      refine ow_batch [.p, .p, .p, .p, .p, .p] rfl ?_
      obtain rfl := of_some H
      exact OW.sub key ⟨rfl, rfl, rfl, rfl, rfl, rfl, trivial⟩

set_option maxHeartbeats 4000000 in
set_option maxRecDepth 100000 in
theorem spec_GetTree_ok (w : World) {M0 : List Nat} {p0 : List Int} {p1 : Int} {a_0 : Option Addr} {n_0 c_0 : Nat} {r : Timpl_Tree × Int × Bool} (H : spec_GetTree p0 p1 = some r) (HS : St w M0 [] w) (g0 : (eList (eVal (Value.int .u8) (fun _ => rfl)) 5).rd w M0 p0 [.slice a_0 n_0 c_0]) :
    Calls Try.prog 37 #[.slice a_0 n_0 c_0, .int .i64 p1] w (fun en w' => ∃ v, en = .returned v ∧ ∃ (a0 : Option Addr), ∃ (n0 : Nat), ∃ (c0 : Nat), ∃ (F0 : List Nat), v = .tuple #[.agg #[.slice a0 n0 c0, .int .i64 r.1.Seen_], .int .i64 r.2.1, .bool r.2.2] ∧ St w M0 [Res.own (eList (eTimpl_Node) 91) F0 r.1.Nodes_ [.slice a0 n0 c0]] w') := by
  obtain rfl := rd_n g0
  unfold spec_GetTree at H
  refine f_enter (vs := [.slice a_0 p0.length c_0, .int .i64 p1]) Try.func37 rfl Try.ntmps37 rfl (HS) ?_
  refine c_seq ?_
  refine c_reg ?_
  refine ow_alloc rfl rfl rfl rfl ty54 (fun _ => kp) (fun b1 => ?_)
  refine ow_batch [.p, .p] rfl ?_
  refine ow_nil ?_
  refine x_qs ?_
  refine c_seq ?_
  refine c_reg ?_
  refine ow_batch [.p, .p] rfl ?_
  obtain ⟨y2, h3, H⟩ := of_bind H
  refine ow_callS rfl fn68 rfl rfl rfl rfl (fun w1 hw1 => spec_l27Some_ok w1  h3 (hw1.carve [] rfl rfl) (rds_bor g0 w1 hw1)) (fun v4 w1 w2 hw1 hR6 => ?_)
  obtain ⟨a7, n8, c9, F10, rfl, hS5⟩ := hR6
  obtain rfl := own_nS (i := 0) hS5 rfl
  refine ⟨St w M0 [_, _], hw1.comp [] rfl rfl hS5, fun _ _ => trivial, ?_⟩
  refine ow_batch [.p, .p, .p, .p, .p, .p, .p] rfl ?_
  refine ow_nil ?_
  refine x_qs ?_
  refine c_seq ?_
  refine c_seq ?_
  refine c_reg ?_
  refine ow_batch [.p, .p, .p] rfl ?_
  obtain ⟨u11, hu15, H⟩ := of_bind H
  refine ow_cut [(29, .bool u11), (0, .slice a_0 p0.length c_0), (4, .pointer (some ⟨b1, 0, none⟩)), (7, .slice a7 y2.1.length c9), (8, .int .i64 y2.2.1)] 5 ?_ (fun key => OW.sub (R := [(0, .slice a_0 p0.length c_0), (4, .pointer (some ⟨b1, 0, none⟩)), (7, .slice a7 y2.1.length c9), (8, .int .i64 y2.2.1), (24, .bool (!y2.2.2))]) ?_ ⟨rfl, rfl, rfl, rfl, rfl, trivial⟩)
  · refine ow_nil ?_
    refine x_qs ?_
    refine c_if rfl (fun hb => ?_) (fun hb => ?_)
    · have H := of_if_t hb H
      refine c_seq ?_
      refine c_reg ?_
      refine ow_r rfl (dstOk_lt rfl) (ry_build2 [] [.slice none 0 0, .int .i64 0] rfl rfl ty54 fs54 rfl trivial rfl) ?_
      refine ow_storeC (off := 0) [.slice none 0 0, .int .i64 0] [_, _] (i := 0) rfl rfl rfl rfl rfl rfl ty54 rfl rfl (by intro u hu; simp only [List.mem_cons, List.not_mem_nil, or_false] at hu; rcases hu with rfl | rfl <;> rfl) rfl rfl rfl kp ?_
      refine ow_batch [.p, .p] rfl ?_
      refine ow_nil ?_
      refine x_qs ?_
      refine c_ret ?_
      refine x_qs_ret ?_
      refine xw_st (fun _ h => St.pushNil (e := eTimpl_Node) (T := 91) h) ?_
      exact x_retR (rs := [.cell 4 54, .tmp 5, .tmp 6]) (vs := [.agg #[.slice none 0 0, .int .i64 0], .int .i64 0, .bool false]) rfl ⟨⟨_, [.slice none 0 0, .int .i64 0], _, _, _, rfl, ty54, (at_box (T := 54) 0 (boxIn (i := 0) rfl) rfl), rfl, rfl⟩, rfl, rfl, trivial⟩ (fun w' hw' => by
          obtain rfl := of_some H
          exact ⟨_, rfl, none, 0, 0, [], rfl, hw'.sel [2] rfl rfl⟩)
    · have H := of_if_f hb H
      refine c_skip ?_
      refine x_qs ?_
      refine c_seq ?_
      refine c_reg ?_
      refine ow_batch [.p] rfl ?_
      obtain ⟨e16, h17, H⟩ := of_bind H
      refine ow_ixE (e := eVal (Value.int .i64) (fun _ => rfl)) (xs := y2.1) (j := 0) rfl rfl rfl rfl rfl sl22 ty3 rfl (fun w1 hw1 => rds_own (r := 1) rfl w1 hw1) h17 (by rw [Nat.mul_one]) ?_
      refine ow_r rfl (dstOk_lt rfl) (ry_load1 rfl rfl ty3 (at_elV (fun w1 hw1 => rds_own (r := 1) rfl w1 hw1) h17)) ?_
      refine ow_r rfl (dstOk_lt rfl) (ry_build2 [(1, [.int .i64 e16])] [.slice none 0 0, .int .i64 e16] rfl rfl ty54 fs54 rfl ⟨rfl, rfl, Nat.le_of_ble_eq_true rfl,  trivial⟩ rfl) ?_
      refine ow_alloc rfl rfl rfl rfl ty54 (fun _ => kp) (fun b18 => ?_)
      refine ow_storeC (off := 0) [.slice none 0 0, .int .i64 e16] [_, _] (i := 2) rfl rfl rfl rfl rfl rfl ty54 rfl rfl (by intro u hu; simp only [List.mem_cons, List.not_mem_nil, or_false] at hu; rcases hu with rfl | rfl <;> rfl) rfl rfl rfl kp ?_
      refine ow_nil ?_
      refine x_qs ?_
      refine c_seq ?_
      refine c_seq ?_
      refine c_reg ?_
      refine ow_batch [.p] rfl ?_
      refine ow_nil ?_
      refine x_qs ?_
      refine c_block ?_
      refine CW.weak ?_ (fun _ h => St.pushNil (e := eTimpl_Node) (T := 91) h)
      refine CW.at (loopI6 (fun (l56 : List Timpl_Node) (a57 : Option Addr) (c58 : Nat) (F59 : List Nat) (i60 : Int) (i61 : Int) => St w M0 [Res.box b18 54 [.slice a57 l56.length c58, .int .i64 e16], Res.own (eList (eTimpl_Node) 91) F59 l56 [.slice a57 l56.length c58], Res.box b1 54 [.slice none 0 0, .int .i64 0], Res.own (eList (eVal (Value.int .i64) (fun _ => rfl)) 3) F10 y2.1 [.slice a7 y2.1.length c9]]) (fun (l56 : List Timpl_Node) (a57 : Option Addr) (c58 : Nat) (F59 : List Nat) (i60 : Int) (i61 : Int) => [(0, .slice a_0 p0.length c_0), (4, .pointer (some ⟨b1, 0, none⟩)), (7, .slice a7 y2.1.length c9), (8, .int .i64 i61), (10, .pointer (some ⟨b18, 0, none⟩)), (11, .int .i64 i60)]) (fun kk => fun (l56 : List Timpl_Node) (a57 : Option Addr) (c58 : Nat) (F59 : List Nat) (i60 : Int) (i61 : Int) => spec_GetTree_L1 y2 p0 e16 kk l56 i60 i61 = some r) (fun _ _ _ _ _ _ H => ?_) (fun k1 ihk1 l56 a57 c58 F59 i60 i61 H => ?_) Fuel (([] : List Timpl_Node)) (none) (0) ([]) (0) (y2.2.1) (H)) (fun _ h => St.sel [2, 3, 0, 1] rfl rfl h) ⟨rfl, rfl, rfl, rfl, rfl, rfl,  trivial⟩
      · unfold spec_GetTree_L1 at H
        exact absurd H (by simp)
      · unfold spec_GetTree_L1 at H
        refine c_seq ?_
        refine c_seq ?_
        refine c_reg ?_
        refine ow_batch [.p, .p] rfl ?_
        obtain ⟨e99, h100, H⟩ := of_bind H
        refine ow_ixE (e := eVal (Value.int .i64) (fun _ => rfl)) (xs := y2.1) (j := 1) rfl rfl rfl rfl rfl sl22 ty3 rfl (fun w1 hw1 => rds_own (r := 3) rfl w1 hw1) h100 (by rw [Nat.mul_one]) ?_
        refine ow_r rfl (dstOk_lt rfl) (ry_load1 rfl rfl ty3 (at_elV (fun w1 hw1 => rds_own (r := 3) rfl w1 hw1) h100)) ?_
        refine ow_batch [.p] rfl ?_
        refine ow_nil ?_
        refine x_qs ?_
        refine c_if rfl (fun hb => ?_) (fun hb => ?_)
        · have H := of_if_t hb H
          refine c_skip ?_
          refine x_qs ?_
          refine c_seq ?_
          refine c_block ?_
          refine c_seq ?_
          refine c_reg ?_
          refine ow_batch [.p, .p] rfl ?_
          obtain ⟨y101, h102, H⟩ := of_bind H
          refine ow_callS rfl fn69 rfl rfl rfl rfl (fun w1 hw1 => spec_l27GetNode_ok w1  h102 (hw1.carve [] rfl rfl) (rds_bor g0 w1 hw1)) (fun v103 w1 w2 hw1 hR105 => ?_)
          obtain ⟨a106, n107, c108, F109, a110, n111, c112, F113, a114, n115, c116, F117, a118, n119, c120, F121, rfl, hS104⟩ := hR105
          obtain rfl := own_nS (i := 0) hS104 rfl
          obtain rfl := own_nS (i := 1) hS104 rfl
          obtain rfl := own_nS (i := 2) hS104 rfl
          obtain rfl := own_nS (i := 3) hS104 rfl
          refine ⟨St w M0 [_, _, _, _, _, _, _, _], hw1.comp [] rfl rfl hS104, fun _ _ => trivial, ?_⟩
          refine ow_batch [.p, .p, .p, .p] rfl ?_
          refine ow_alloc rfl rfl rfl rfl ty91 (fun _ => kp) (fun b122 => ?_)
          refine ow_storeC (off := 0) [.bool y101.1.Leaf_, .int .i64 y101.1.Fork_.Attr_, .int .i64 y101.1.Fork_.At_, .slice a106 y101.1.Kids_.length c108, .int .i64 y101.1.Miss_, .slice a110 y101.1.Stats_.Totals_.length c112, .slice a114 y101.1.Stats_.Cells_.length c116, .int .i64 y101.1.Since_, .slice a118 y101.1.Attrs_.length c120, .int .i64 y101.1.Depth_, .int .i64 y101.1.Up_, .int .i64 y101.1.Born_] [_, _, _, _, _, _, _, _, _, _, _, _] (i := 8) rfl rfl rfl rfl rfl rfl ty91 rfl rfl (by intro u hu; simp only [List.mem_cons, List.not_mem_nil, or_false] at hu; rcases hu with rfl | rfl | rfl | rfl | rfl | rfl | rfl | rfl | rfl | rfl | rfl | rfl <;> rfl) rfl rfl rfl kp ?_
          refine ow_batch [.p, .p] rfl ?_
          refine ow_nil ?_
          refine x_qs ?_
          refine c_seq ?_
          refine c_seq ?_
          refine c_reg ?_
          refine ow_batch [.p, .p] rfl ?_
          refine ow_nil ?_
          refine x_qs ?_
          refine c_if rfl (fun hb => ?_) (fun hb => ?_)
          · have H := of_if_t hb H
            refine c_seq ?_
            refine c_reg ?_
            refine ow_r rfl (dstOk_lt rfl) (ry_build2 [] [.slice none 0 0, .int .i64 0] rfl rfl ty54 fs54 rfl trivial rfl) ?_
            refine ow_storeC (off := 0) [.slice none 0 0, .int .i64 0] [_, _] (i := 2) rfl rfl rfl rfl rfl rfl ty54 rfl rfl (by intro u hu; simp only [List.mem_cons, List.not_mem_nil, or_false] at hu; rcases hu with rfl | rfl <;> rfl) rfl rfl rfl kp ?_
            refine ow_batch [.p, .p] rfl ?_
            refine ow_nil ?_
            refine x_qs ?_
            refine c_ret ?_
            refine x_qs_ret ?_
            refine x_qb_ret ?_
            refine x_qs_ret ?_
            refine x_ql_ret ?_
            refine x_qb_ret ?_
            refine x_qs_ret ?_
            refine xw_st (fun _ h => St.pushNil (e := eTimpl_Node) (T := 91) h) ?_
            exact x_retR (rs := [.cell 4 54, .tmp 5, .tmp 6]) (vs := [.agg #[.slice none 0 0, .int .i64 0], .int .i64 0, .bool false]) rfl ⟨⟨_, [.slice none 0 0, .int .i64 0], _, _, _, rfl, ty54, (at_box (T := 54) 0 (boxIn (i := 2) rfl) rfl), rfl, rfl⟩, rfl, rfl, trivial⟩ (fun w' hw' => by
                obtain rfl := of_some H
                exact ⟨_, rfl, none, 0, 0, [], rfl, hw'.sel [9] rfl rfl⟩)
          · have H := of_if_f hb H
            refine c_skip ?_
            refine x_qs ?_
            refine c_seq ?_
            refine c_reg ?_
            refine ow_batch [.fa 54 0 0 fa54_0] rfl ?_
            refine ow_r rfl (dstOk_lt rfl) (ry_box1 (off := 0) rfl rfl ty52 (boxIn (i := 0) rfl) rfl) ?_
            refine ow_r rfl (dstOk_lt rfl) (ry_box (off := 0) (ds := [.bool y101.1.Leaf_, .int .i64 y101.1.Fork_.Attr_, .int .i64 y101.1.Fork_.At_, .slice a106 y101.1.Kids_.length c108, .int .i64 y101.1.Miss_, .slice a110 y101.1.Stats_.Totals_.length c112, .slice a114 y101.1.Stats_.Cells_.length c116, .int .i64 y101.1.Since_, .slice a118 y101.1.Attrs_.length c120, .int .i64 y101.1.Depth_, .int .i64 y101.1.Up_, .int .i64 y101.1.Born_]) rfl rfl ty91 (boxIn (i := 8) rfl) rfl rfl) ?_
            refine ow_ex rfl (fun w1 hw1 => fus_Timpl_Node (x0 := y101.1.Leaf_) (x1 := y101.1.Fork_.Attr_) (x2 := y101.1.Fork_.At_) (x4 := y101.1.Miss_) (x7 := y101.1.Since_) (x9 := y101.1.Depth_) (x10 := y101.1.Up_) (x11 := y101.1.Born_) [4, 5, 6, 7] hw1 rfl rfl) (fun F124 => ?_)
            refine ow_st (C' := St w M0 [_, _, _, _, _, _, _, _, _, _]) rfl (fun _ h => h) ?_
            refine ow_bslice [(0, [.bool y101.1.Leaf_, .int .i64 y101.1.Fork_.Attr_, .int .i64 y101.1.Fork_.At_, .slice a106 y101.1.Kids_.length c108, .int .i64 y101.1.Miss_, .slice a110 y101.1.Stats_.Totals_.length c112, .slice a114 y101.1.Stats_.Cells_.length c116, .int .i64 y101.1.Since_, .slice a118 y101.1.Attrs_.length c120, .int .i64 y101.1.Depth_, .int .i64 y101.1.Up_, .int .i64 y101.1.Born_])] rfl rfl rfl rfl rfl sl52 ty91 rfl rfl ⟨rfl, rfl, Nat.le_of_ble_eq_true rfl,  trivial⟩ [.bool y101.1.Leaf_, .int .i64 y101.1.Fork_.Attr_, .int .i64 y101.1.Fork_.At_, .slice a106 y101.1.Kids_.length c108, .int .i64 y101.1.Miss_, .slice a110 y101.1.Stats_.Totals_.length c112, .slice a114 y101.1.Stats_.Cells_.length c116, .int .i64 y101.1.Since_, .slice a118 y101.1.Attrs_.length c120, .int .i64 y101.1.Depth_, .int .i64 y101.1.Up_, .int .i64 y101.1.Born_] rfl (fun _ => kp) (fun b123 => ?_)
            refine ow_st rfl (fun _ h => lit1 (p := 10) (q := 9) h rfl rfl rfl) ?_
            obtain ⟨l125, h126, H⟩ := of_bind H
            refine ow_appM (r := 1) (j := 11) rfl rfl rfl rfl rfl rfl sl52 ty91 rfl rfl rfl rfl rfl rfl rfl h126 (fun _ _ _ => kp) (fun a127 c128 F129 => ?_)
            refine ow_batch [.fa 54 0 0 fa54_0] rfl ?_
            refine ow_storeC (off := 0) [.slice a127 l125.length c128] [_, _] (i := 0) rfl rfl rfl rfl rfl rfl ty52 rfl rfl (by intro u hu; simp only [List.mem_cons, List.not_mem_nil, or_false] at hu; rcases hu with rfl <;> rfl) rfl rfl rfl kp ?_
            refine ow_nil ?_
            refine x_qs ?_
            refine CW.weak (C' := St w M0 [_, _, _, _, _]) ?_ (fun _ h => St.sel [0, 2, 3, 8, 12] rfl rfl h)
            refine c_reg ?_
            refine ow_batch [.p, .p] rfl ?_
            refine ow_nil ?_
            refine x_qb ?_
            refine x_qs ?_
            refine c_reg ?_
            refine ow_batch [.p, .p, .p] rfl ?_
            refine ow_nil ?_
            exact x_ql (RW.at (ihk1 (l125) (a127) (c128) (F129) (IntKind.i64.wrap (i60 + 1)) (y101.2.1) (H)) (fun _ h => St.sel [0, 4, 1, 2] rfl rfl h) ⟨rfl, rfl, rfl, rfl, rfl, rfl, trivial⟩)
        · have H := of_if_f hb H
          refine c_exit ?_
          refine x_qs_exit ?_
          refine x_ql_exit ?_
          refine x_qb_here ?_
          refine x_qs ?_
          refine c_seq ?_
          refine c_reg ?_
          refine ow_r rfl (dstOk_lt rfl) (ry_box (off := 0) (ds := [.slice a57 l56.length c58, .int .i64 e16]) rfl rfl ty54 (boxIn (i := 0) rfl) rfl rfl) ?_
          refine ow_batch [.p] rfl ?_
          refine ow_storeC (off := 0) [.slice a57 l56.length c58, .int .i64 e16] [_, _] (i := 2) rfl rfl rfl rfl rfl rfl ty54 rfl rfl (by intro u hu; simp only [List.mem_cons, List.not_mem_nil, or_false] at hu; rcases hu with rfl | rfl <;> rfl) rfl rfl rfl kp ?_
          refine ow_batch [.p, .p] rfl ?_
          refine ow_nil ?_
          refine x_qs ?_
          refine c_ret ?_
          exact x_retR (rs := [.cell 4 54, .tmp 5, .tmp 6]) (vs := [.agg #[.slice a57 l56.length c58, .int .i64 e16], .int .i64 i61, .bool true]) rfl ⟨⟨_, [.slice a57 l56.length c58, .int .i64 e16], _, _, _, rfl, ty54, (at_box (T := 54) 0 (boxIn (i := 2) rfl) rfl), rfl, rfl⟩, rfl, rfl, trivial⟩ (fun w' hw' => by
              obtain rfl := of_some H
              exact ⟨_, rfl, a57, l56.length, c58, F59, rfl, hw'.sel [1] rfl rfl⟩)
  · clear H
    have H := hu15
    clear hu15
    generalize (!y2.2.2) = t14 at H ⊢
    cases t14
    · have H := of_if_f rfl H
      refine ow_batch [.p] rfl ?_
      obtain ⟨e12, h13, H⟩ := of_bind H
      refine ow_ixE (e := eVal (Value.int .i64) (fun _ => rfl)) (xs := y2.1) (j := 1) rfl rfl rfl rfl rfl sl22 ty3 rfl (fun w1 hw1 => rds_own (r := 1) rfl w1 hw1) h13 (by rw [Nat.mul_one]) ?_
      refine ow_r rfl (dstOk_lt rfl) (ry_load1 rfl rfl ty3 (at_elV (fun w1 hw1 => rds_own (r := 1) rfl w1 hw1) h13)) ?_
      refine ow_batch [.p] rfl ?_
      refine ow_batch [.p] rfl ?_
      obtain rfl := of_some H
      exact OW.sub key ⟨rfl, rfl, rfl, rfl, rfl, trivial⟩
    · have H := of_if_t rfl H
      refine ow_batch [.p, .p, .p, .p, .p] rfl ?_
      obtain rfl := of_some H
      exact OW.sub key ⟨rfl, rfl, rfl, rfl, rfl, trivial⟩

set_option maxHeartbeats 4000000 in
set_option maxRecDepth 100000 in
theorem impl_reader_flag_ok (w : World) {M0 : List Nat} {p0b : List Int} {p0 : Timpl_reader} {b_0 : Nat} {a_p0b : Option Addr} {n_p0b c_p0b : Nat} {r : Bool × Timpl_reader} (H : impl_reader_flag p0b p0 = some r) (HS : St w M0 [Res.box b_0 74 [.slice a_p0b p0b.length c_p0b, .int .i64 p0.at_, .bool p0.bad_]] w) (g_p0b : (eList (eVal (Value.int .u8) (fun _ => rfl)) 5).rd w M0 p0b [.slice a_p0b n_p0b c_p0b]) :
    Calls Try.prog 92 #[.pointer (some ⟨b_0, 0, none⟩)] w (fun en w' => ∃ v, en = .returned v ∧ v = .bool r.1 ∧ St w M0 [Res.box b_0 74 [.slice a_p0b n_p0b c_p0b, .int .i64 r.2.at_, .bool r.2.bad_]] w') := by
  obtain rfl := rd_n g_p0b
  unfold impl_reader_flag at H
  refine f_enter (vs := [.pointer (some ⟨b_0, 0, none⟩)]) Try.func92 rfl Try.ntmps92 rfl (HS) ?_
  refine c_seq ?_
  refine c_reg ?_
  refine ow_batch [.p] rfl ?_
  refine ow_nil ?_
  refine x_qs ?_
  refine c_seq ?_
  refine c_reg ?_
  refine ow_batch [.p] rfl ?_
  obtain ⟨y1, h2, H⟩ := of_bind H
  refine ow_callS rfl fn85 rfl rfl rfl rfl (fun w1 hw1 => impl_reader_int_ok w1  h2 (hw1.carve [0] rfl rfl) (rdB [0] rfl rfl hw1 g_p0b)) (fun v3 w1 w2 hw1 hR5 => ?_)
  obtain ⟨rfl, hS4⟩ := hR5
  refine ⟨St w M0 [_, _], hw1.comp [0] rfl rfl hS4, fun _ _ => trivial, ?_⟩
  refine ow_batch [.p] rfl ?_
  refine ow_nil ?_
  refine x_qs ?_
  refine c_seq ?_
  refine c_reg ?_
  refine ow_batch [.p, .p, .p, .fa 74 2 2 fa74_2] rfl ?_
  refine ow_r rfl (dstOk_lt rfl) (ry_box1 (off := 2) rfl rfl ty4 (boxIn (i := 1) rfl) rfl) ?_
  refine ow_batch [.p] rfl ?_
  refine ow_cut [(18, .bool (y1.2.bad_ || ((y1.1 != 0) && (y1.1 != 1)))), (0, .pointer (some ⟨b_0, 0, none⟩)), (3, .int .i64 y1.1), (6, .pointer (some ⟨b_0, 0, none⟩))] 7 ?_ (fun key => OW.sub (R := [(0, .pointer (some ⟨b_0, 0, none⟩)), (3, .int .i64 y1.1), (6, .pointer (some ⟨b_0, 0, none⟩)), (11, .bool y1.2.bad_)]) ?_ ⟨rfl, rfl, rfl, rfl, trivial⟩)
  · refine ow_batch [.p, .fa 74 2 2 fa74_2] rfl ?_
    refine ow_storeC (off := 2) [.bool (y1.2.bad_ || ((y1.1 != 0) && (y1.1 != 1)))] [_, _, _] (i := 1) rfl rfl rfl rfl rfl rfl ty4 rfl rfl (by intro u hu; simp only [List.mem_cons, List.not_mem_nil, or_false] at hu; rcases hu with rfl <;> rfl) rfl rfl rfl kp ?_
    refine ow_nil ?_
    refine x_qs ?_
    refine c_seq ?_
    refine c_reg ?_
    refine ow_batch [.p, .p, .p] rfl ?_
    refine ow_nil ?_
    refine x_qs ?_
    refine c_ret ?_
    exact x_retR (rs := [.tmp 2]) (vs := [.bool (y1.1 == 1)]) rfl ⟨rfl, trivial⟩ (fun w' hw' => by
        obtain rfl := of_some H
        exact ⟨_, rfl, rfl, hw'.sel [1] rfl rfl⟩)
  · generalize y1.2.bad_ = t9 at key ⊢
    cases t9
    · refine ow_batch [.p, .p, .p] rfl ?_
      refine ow_cut [(17, .bool ((y1.1 != 0) && (y1.1 != 1))), (0, .pointer (some ⟨b_0, 0, none⟩)), (3, .int .i64 y1.1), (6, .pointer (some ⟨b_0, 0, none⟩)), (11, .bool false)] 3 ?_ (fun key => OW.sub (R := [(0, .pointer (some ⟨b_0, 0, none⟩)), (3, .int .i64 y1.1), (6, .pointer (some ⟨b_0, 0, none⟩)), (11, .bool false), (14, .bool (y1.1 != 0))]) ?_ ⟨rfl, rfl, rfl, rfl, rfl, trivial⟩)
      · refine ow_batch [.p] rfl ?_
        exact OW.sub key ⟨rfl, rfl, rfl, rfl, trivial⟩
      · generalize (y1.1 != 0) = t8 at key ⊢
        cases t8
        · refine ow_batch [.p, .p, .p] rfl ?_
          exact OW.sub key ⟨rfl, rfl, rfl, rfl, rfl, trivial⟩
        · refine ow_batch [.p, .p] rfl ?_
          refine ow_batch [.p] rfl ?_
          exact OW.sub key ⟨rfl, rfl, rfl, rfl, rfl, trivial⟩
    · refine ow_batch [.p, .p, .p, .p, .p, .p, .p] rfl ?_
      exact OW.sub key ⟨rfl, rfl, rfl, rfl, trivial⟩

set_option maxHeartbeats 4000000 in
set_option maxRecDepth 100000 in
theorem impl_reader_tree_ok (w : World) {M0 : List Nat} {p0b : List Int} {p0 : Timpl_reader} {b_0 : Nat} {a_p0b : Option Addr} {n_p0b c_p0b : Nat} {r : Timpl_Tree × Timpl_reader} (H : impl_reader_tree p0b p0 = some r) (HS : St w M0 [Res.box b_0 74 [.slice a_p0b p0b.length c_p0b, .int .i64 p0.at_, .bool p0.bad_]] w) (g_p0b : (eList (eVal (Value.int .u8) (fun _ => rfl)) 5).rd w M0 p0b [.slice a_p0b n_p0b c_p0b]) :
    Calls Try.prog 70 #[.pointer (some ⟨b_0, 0, none⟩)] w (fun en w' => ∃ v, en = .returned v ∧ ∃ (a0 : Option Addr), ∃ (n0 : Nat), ∃ (c0 : Nat), ∃ (F0 : List Nat), v = .agg #[.slice a0 n0 c0, .int .i64 r.1.Seen_] ∧ St w M0 [Res.own (eList (eTimpl_Node) 91) F0 r.1.Nodes_ [.slice a0 n0 c0], Res.box b_0 74 [.slice a_p0b n_p0b c_p0b, .int .i64 r.2.at_, .bool r.2.bad_]] w') := by
  obtain rfl := rd_n g_p0b
  unfold impl_reader_tree at H
  refine f_enter (vs := [.pointer (some ⟨b_0, 0, none⟩)]) Try.func70 rfl Try.ntmps70 rfl (HS) ?_
  refine c_seq ?_
  refine c_reg ?_
  refine ow_alloc rfl rfl rfl rfl ty54 (fun _ => kp) (fun b1 => ?_)
  refine ow_nil ?_
  refine x_qs ?_
  refine c_seq ?_
  refine c_reg ?_
  refine ow_batch [.p] rfl ?_
  obtain ⟨y2, h3, H⟩ := of_bind H
  refine ow_callS rfl fn85 rfl rfl rfl rfl (fun w1 hw1 => impl_reader_int_ok w1  h3 (hw1.carve [0] rfl rfl) (rdB [0] rfl rfl hw1 g_p0b)) (fun v4 w1 w2 hw1 hR6 => ?_)
  obtain ⟨rfl, hS5⟩ := hR6
  refine ⟨St w M0 [_, _, _], hw1.comp [0] rfl rfl hS5, fun _ _ => trivial, ?_⟩
  refine ow_r rfl (dstOk_lt rfl) (ry_build2 [(1, [.int .i64 y2.1])] [.slice none 0 0, .int .i64 y2.1] rfl rfl ty54 fs54 rfl ⟨rfl, rfl, Nat.le_of_ble_eq_true rfl,  trivial⟩ rfl) ?_
  refine ow_alloc rfl rfl rfl rfl ty54 (fun _ => kp) (fun b7 => ?_)
  refine ow_storeC (off := 0) [.slice none 0 0, .int .i64 y2.1] [_, _] (i := 3) rfl rfl rfl rfl rfl rfl ty54 rfl rfl (by intro u hu; simp only [List.mem_cons, List.not_mem_nil, or_false] at hu; rcases hu with rfl | rfl <;> rfl) rfl rfl rfl kp ?_
  refine ow_nil ?_
  refine x_qs ?_
  refine c_seq ?_
  refine c_seq ?_
  refine c_reg ?_
  refine ow_batch [.p] rfl ?_
  obtain ⟨y8, h9, H⟩ := of_bind H
  refine ow_callS rfl fn84 rfl rfl rfl rfl (fun w1 hw1 => impl_reader_count_ok w1  h9 (hw1.carve [2] rfl rfl) (rdB [2] rfl rfl hw1 g_p0b)) (fun v10 w1 w2 hw1 hR12 => ?_)
  obtain ⟨rfl, hS11⟩ := hR12
  refine ⟨St w M0 [_, _, _, _, _], hw1.comp [2] rfl rfl hS11, fun _ _ => trivial, ?_⟩
  refine ow_batch [.p] rfl ?_
  refine ow_nil ?_
  refine x_qs ?_
  refine c_block ?_
  refine CW.weak ?_ (fun _ h => St.pushNil (e := eTimpl_Node) (T := 91) h)
  refine CW.at (loopI7 (fun (i212 : Int) (q213 : Bool) (l214 : List Timpl_Node) (a215 : Option Addr) (c216 : Nat) (F217 : List Nat) (i218 : Int) => St w M0 [Res.box b_0 74 [.slice a_p0b p0b.length c_p0b, .int .i64 i212, .bool q213], Res.box b1 54 [.slice none 0 0, .int .i64 0], Res.box b7 54 [.slice a215 l214.length c216, .int .i64 y2.1], Res.own (eList (eTimpl_Node) 91) F217 l214 [.slice a215 l214.length c216]]) (fun (i212 : Int) (q213 : Bool) (l214 : List Timpl_Node) (a215 : Option Addr) (c216 : Nat) (F217 : List Nat) (i218 : Int) => [(0, .pointer (some ⟨b_0, 0, none⟩)), (2, .pointer (some ⟨b1, 0, none⟩)), (3, .pointer (some ⟨b7, 0, none⟩)), (4, .int .i64 i218)]) (fun kk => fun (i212 : Int) (q213 : Bool) (l214 : List Timpl_Node) (a215 : Option Addr) (c216 : Nat) (F217 : List Nat) (i218 : Int) => impl_reader_tree_L1 p0b y2 kk i212 q213 l214 i218 = some r) (fun _ _ _ _ _ _ _ H => ?_) (fun k1 ihk1 i212 q213 l214 a215 c216 F217 i218 H => ?_) Fuel (y8.2.at_) (y8.2.bad_) (([] : List Timpl_Node)) (none) (0) ([]) (y8.1) (H)) (fun _ h => St.sel [4, 1, 3, 5] rfl rfl h) ⟨rfl, rfl, rfl, rfl,  trivial⟩
  · unfold impl_reader_tree_L1 at H
    exact absurd H (by simp)
  · unfold impl_reader_tree_L1 at H
    refine c_seq ?_
    refine c_seq ?_
    refine c_reg ?_
    refine ow_batch [.p, .p, .p] rfl ?_
    refine ow_cut [(20, .bool ((decide (i218 > 0)) && (!q213))), (0, .pointer (some ⟨b_0, 0, none⟩)), (2, .pointer (some ⟨b1, 0, none⟩)), (3, .pointer (some ⟨b7, 0, none⟩)), (4, .int .i64 i218)] 6 ?_ (fun key => OW.sub (R := [(0, .pointer (some ⟨b_0, 0, none⟩)), (2, .pointer (some ⟨b1, 0, none⟩)), (3, .pointer (some ⟨b7, 0, none⟩)), (4, .int .i64 i218), (14, .bool (decide (i218 > 0)))]) ?_ ⟨rfl, rfl, rfl, rfl, rfl, trivial⟩)
    · refine ow_nil ?_
      refine x_qs ?_
      refine c_if rfl (fun hb => ?_) (fun hb => ?_)
      · have H := of_if_t hb H
        refine c_skip ?_
        refine x_qs ?_
        refine c_seq ?_
        refine c_block ?_
        refine c_seq ?_
        refine c_reg ?_
        refine ow_batch [.p] rfl ?_
        obtain ⟨y416, h417, H⟩ := of_bind H
        refine ow_callS rfl fn92 rfl rfl rfl rfl (fun w1 hw1 => impl_reader_flag_ok w1  h417 (hw1.carve [0] rfl rfl) (rdB [0] rfl rfl hw1 g_p0b)) (fun v418 w1 w2 hw1 hR420 => ?_)
        obtain ⟨rfl, hS419⟩ := hR420
        refine ⟨St w M0 [_, _, _, _, _], hw1.comp [0] rfl rfl hS419, fun _ _ => trivial, ?_⟩
        refine ow_r rfl (dstOk_lt rfl) (ry_build2 [(0, [.bool y416.1])] [.bool y416.1, .int .i64 0, .int .i64 0, .slice none 0 0, .int .i64 0, .slice none 0 0, .slice none 0 0, .int .i64 0, .slice none 0 0, .int .i64 0, .int .i64 0, .int .i64 0] rfl rfl ty91 fs91 rfl ⟨rfl, rfl, Nat.le_of_ble_eq_true rfl,  trivial⟩ rfl) ?_
        refine ow_alloc rfl rfl rfl rfl ty91 (fun _ => kp) (fun b421 => ?_)
        refine ow_storeC (off := 0) [.bool y416.1, .int .i64 0, .int .i64 0, .slice none 0 0, .int .i64 0, .slice none 0 0, .slice none 0 0, .int .i64 0, .slice none 0 0, .int .i64 0, .int .i64 0, .int .i64 0] [_, _, _, _, _, _, _, _, _, _, _, _] (i := 5) rfl rfl rfl rfl rfl rfl ty91 rfl rfl (by intro u hu; simp only [List.mem_cons, List.not_mem_nil, or_false] at hu; rcases hu with rfl | rfl | rfl | rfl | rfl | rfl | rfl | rfl | rfl | rfl | rfl | rfl <;> rfl) rfl rfl rfl kp ?_
        refine ow_nil ?_
        refine x_qs ?_
        refine c_seq ?_
        refine c_reg ?_
        refine ow_batch [.p] rfl ?_
        obtain ⟨y422, h423, H⟩ := of_bind H
        refine ow_callS rfl fn85 rfl rfl rfl rfl (fun w1 hw1 => impl_reader_int_ok w1  h423 (hw1.carve [4] rfl rfl) (rdB [4] rfl rfl hw1 g_p0b)) (fun v424 w1 w2 hw1 hR426 => ?_)
        obtain ⟨rfl, hS425⟩ := hR426
        refine ⟨St w M0 [_, _, _, _, _, _, _], hw1.comp [4] rfl rfl hS425, fun _ _ => trivial, ?_⟩
        refine ow_batch [.fa 91 1 1 fa91_1, .fa 87 0 0 fa87_0] rfl ?_
        refine ow_storeC (off := 1) [.int .i64 y422.1] [_, _, _, _, _, _, _, _, _, _, _, _] (i := 5) rfl rfl rfl rfl rfl rfl ty3 rfl rfl (by intro u hu; simp only [List.mem_cons, List.not_mem_nil, or_false] at hu; rcases hu with rfl <;> rfl) rfl rfl rfl kp ?_
        refine ow_nil ?_
        refine x_qs ?_
        refine c_seq ?_
        refine CW.weak (C' := St w M0 [_, _, _, _, _]) ?_ (fun _ h => St.sel [1, 2, 3, 5, 6] rfl rfl h)
        refine c_reg ?_
        refine ow_batch [.p] rfl ?_
        obtain ⟨y427, h428, H⟩ := of_bind H
        refine ow_callS rfl fn85 rfl rfl rfl rfl (fun w1 hw1 => impl_reader_int_ok w1  h428 (hw1.carve [4] rfl rfl) (rdB [4] rfl rfl hw1 g_p0b)) (fun v429 w1 w2 hw1 hR431 => ?_)
        obtain ⟨rfl, hS430⟩ := hR431
        refine ⟨St w M0 [_, _, _, _, _, _], hw1.comp [4] rfl rfl hS430, fun _ _ => trivial, ?_⟩
        refine ow_batch [.fa 91 1 1 fa91_1, .fa 87 1 1 fa87_1] rfl ?_
        refine ow_storeC (off := 2) [.int .i64 y427.1] [_, _, _, _, _, _, _, _, _, _, _, _] (i := 3) rfl rfl rfl rfl rfl rfl ty3 rfl rfl (by intro u hu; simp only [List.mem_cons, List.not_mem_nil, or_false] at hu; rcases hu with rfl <;> rfl) rfl rfl rfl kp ?_
        refine ow_nil ?_
        refine x_qs ?_
        refine c_seq ?_
        refine c_reg ?_
        refine ow_batch [.p] rfl ?_
        obtain ⟨y432, h433, H⟩ := of_bind H
        refine ow_callS rfl fn51 rfl rfl rfl rfl (fun w1 hw1 => impl_reader_list_ok w1  h433 (hw1.carve [5] rfl rfl) (rdB [5] rfl rfl hw1 g_p0b)) (fun v434 w1 w2 hw1 hR436 => ?_)
        obtain ⟨a437, n438, c439, F440, rfl, hS435⟩ := hR436
        obtain rfl := own_nS (i := 0) hS435 rfl
        refine ⟨St w M0 [_, _, _, _, _, _, _, _], hw1.comp [5] rfl rfl hS435, fun _ _ => trivial, ?_⟩
        refine ow_batch [.fa 91 2 3 fa91_2] rfl ?_
        refine ow_storeC (off := 3) [.slice a437 y432.1.length c439] [_, _, _, _, _, _, _, _, _, _, _, _] (i := 3) rfl rfl rfl rfl rfl rfl ty22 rfl rfl (by intro u hu; simp only [List.mem_cons, List.not_mem_nil, or_false] at hu; rcases hu with rfl <;> rfl) rfl rfl rfl kp ?_
        refine ow_nil ?_
        refine x_qs ?_
        refine c_seq ?_
        refine CW.weak (C' := St w M0 [_, _, _, _, _, _]) ?_ (fun _ h => St.sel [0, 1, 2, 3, 6, 7] rfl rfl h)
        refine c_reg ?_
        refine ow_batch [.p] rfl ?_
        obtain ⟨y441, h442, H⟩ := of_bind H
        refine ow_callS rfl fn85 rfl rfl rfl rfl (fun w1 hw1 => impl_reader_int_ok w1  h442 (hw1.carve [5] rfl rfl) (rdB [5] rfl rfl hw1 g_p0b)) (fun v443 w1 w2 hw1 hR445 => ?_)
        obtain ⟨rfl, hS444⟩ := hR445
        refine ⟨St w M0 [_, _, _, _, _, _, _], hw1.comp [5] rfl rfl hS444, fun _ _ => trivial, ?_⟩
        refine ow_batch [.fa 91 3 4 fa91_3] rfl ?_
        refine ow_storeC (off := 4) [.int .i64 y441.1] [_, _, _, _, _, _, _, _, _, _, _, _] (i := 3) rfl rfl rfl rfl rfl rfl ty3 rfl rfl (by intro u hu; simp only [List.mem_cons, List.not_mem_nil, or_false] at hu; rcases hu with rfl <;> rfl) rfl rfl rfl kp ?_
        refine ow_nil ?_
        refine x_qs ?_
        refine c_seq ?_
        refine c_reg ?_
        refine ow_batch [.p] rfl ?_
        obtain ⟨y446, h447, H⟩ := of_bind H
        refine ow_callS rfl fn51 rfl rfl rfl rfl (fun w1 hw1 => impl_reader_list_ok w1  h447 (hw1.carve [6] rfl rfl) (rdB [6] rfl rfl hw1 g_p0b)) (fun v448 w1 w2 hw1 hR450 => ?_)
        obtain ⟨a451, n452, c453, F454, rfl, hS449⟩ := hR450
        obtain rfl := own_nS (i := 0) hS449 rfl
        refine ⟨St w M0 [_, _, _, _, _, _, _, _, _], hw1.comp [6] rfl rfl hS449, fun _ _ => trivial, ?_⟩
        refine ow_batch [.fa 91 4 5 fa91_4, .fa 89 0 0 fa89_0] rfl ?_
        refine ow_storeC (off := 5) [.slice a451 y446.1.length c453] [_, _, _, _, _, _, _, _, _, _, _, _] (i := 3) rfl rfl rfl rfl rfl rfl ty22 rfl rfl (by intro u hu; simp only [List.mem_cons, List.not_mem_nil, or_false] at hu; rcases hu with rfl <;> rfl) rfl rfl rfl kp ?_
        refine ow_nil ?_
        refine x_qs ?_
        refine c_seq ?_
        refine c_seq ?_
        refine CW.weak (C' := St w M0 [_, _, _, _, _, _, _]) ?_ (fun _ h => St.sel [0, 1, 2, 3, 4, 7, 8] rfl rfl h)
        refine c_reg ?_
        refine ow_batch [.p] rfl ?_
        obtain ⟨y455, h456, H⟩ := of_bind H
        refine ow_callS rfl fn84 rfl rfl rfl rfl (fun w1 hw1 => impl_reader_count_ok w1  h456 (hw1.carve [6] rfl rfl) (rdB [6] rfl rfl hw1 g_p0b)) (fun v457 w1 w2 hw1 hR459 => ?_)
        obtain ⟨rfl, hS458⟩ := hR459
        refine ⟨St w M0 [_, _, _, _, _, _, _, _], hw1.comp [6] rfl rfl hS458, fun _ _ => trivial, ?_⟩
        refine ow_batch [.p] rfl ?_
        refine ow_nil ?_
        refine x_qs ?_
        refine c_block ?_
        refine CW.weak ?_ (fun _ h => St.pushNil (e := eList (eVal (Value.int .i64) (fun _ => rfl)) 3) (T := 22) h)
        refine CW.at (loopI7 (fun (i498 : Int) (q499 : Bool) (l500 : List (List Int)) (a501 : Option Addr) (c502 : Nat) (F503 : List Nat) (i504 : Int) => St w M0 [Res.box b_0 74 [.slice a_p0b p0b.length c_p0b, .int .i64 i498, .bool q499], Res.box b1 54 [.slice none 0 0, .int .i64 0], Res.box b7 54 [.slice a215 l214.length c216, .int .i64 y2.1], Res.own (eList (eTimpl_Node) 91) F217 l214 [.slice a215 l214.length c216], Res.box b421 91 [.bool y416.1, .int .i64 y422.1, .int .i64 y427.1, .slice a437 y432.1.length c439, .int .i64 y441.1, .slice a451 y446.1.length c453, .slice a501 l500.length c502, .int .i64 0, .slice none 0 0, .int .i64 0, .int .i64 0, .int .i64 0], Res.own (eList (eVal (Value.int .i64) (fun _ => rfl)) 3) F440 y432.1 [.slice a437 y432.1.length c439], Res.own (eList (eVal (Value.int .i64) (fun _ => rfl)) 3) F454 y446.1 [.slice a451 y446.1.length c453], Res.own (eList (eList (eVal (Value.int .i64) (fun _ => rfl)) 3) 22) F503 l500 [.slice a501 l500.length c502]]) (fun (i498 : Int) (q499 : Bool) (l500 : List (List Int)) (a501 : Option Addr) (c502 : Nat) (F503 : List Nat) (i504 : Int) => [(0, .pointer (some ⟨b_0, 0, none⟩)), (2, .pointer (some ⟨b1, 0, none⟩)), (3, .pointer (some ⟨b7, 0, none⟩)), (4, .int .i64 i218), (5, .pointer (some ⟨b421, 0, none⟩)), (6, .int .i64 i504)]) (fun kk => fun (i498 : Int) (q499 : Bool) (l500 : List (List Int)) (a501 : Option Addr) (c502 : Nat) (F503 : List Nat) (i504 : Int) => impl_reader_tree_L2 p0b l214 y416 y422 y427 y432 y441 y446 (impl_reader_tree_L1 p0b y2 k1) i218 kk i498 q499 l500 i504 = some r) (fun _ _ _ _ _ _ _ H => ?_) (fun k2 ihk2 i498 q499 l500 a501 c502 F503 i504 H => ?_) Fuel (y455.2.at_) (y455.2.bad_) (([] : List (List Int))) (none) (0) ([]) (y455.1) (H)) (fun _ h => St.sel [7, 0, 1, 2, 3, 4, 5, 8] rfl rfl h) ⟨rfl, rfl, rfl, rfl, rfl, rfl,  trivial⟩
        · unfold impl_reader_tree_L2 at H
          exact absurd H (by simp)
        · unfold impl_reader_tree_L2 at H
          refine c_seq ?_
          refine c_seq ?_
          refine c_reg ?_
          refine ow_batch [.p, .p, .p] rfl ?_
          refine ow_cut [(54, .bool ((decide (i504 > 0)) && (!q499))), (0, .pointer (some ⟨b_0, 0, none⟩)), (2, .pointer (some ⟨b1, 0, none⟩)), (3, .pointer (some ⟨b7, 0, none⟩)), (4, .int .i64 i218), (5, .pointer (some ⟨b421, 0, none⟩)), (6, .int .i64 i504)] 6 ?_ (fun key => OW.sub (R := [(0, .pointer (some ⟨b_0, 0, none⟩)), (2, .pointer (some ⟨b1, 0, none⟩)), (3, .pointer (some ⟨b7, 0, none⟩)), (4, .int .i64 i218), (5, .pointer (some ⟨b421, 0, none⟩)), (6, .int .i64 i504), (48, .bool (decide (i504 > 0)))]) ?_ ⟨rfl, rfl, rfl, rfl, rfl, rfl, rfl, trivial⟩)
          · refine ow_nil ?_
            refine x_qs ?_
            refine c_if rfl (fun hb => ?_) (fun hb => ?_)
            · have H := of_if_t hb H
              refine c_skip ?_
              refine x_qs ?_
              refine c_seq ?_
              refine c_block ?_
              refine c_regHT 6 [(0, true), (1, true), (2, true), (3, true), (4, false), (5, false)] (St w M0 [Res.nil, Res.box b1 54 [.slice none 0 0, .int .i64 0], Res.box b7 54 [.slice a215 l214.length c216, .int .i64 y2.1], Res.own (eList (eTimpl_Node) 91) F217 l214 [.slice a215 l214.length c216], Res.box b421 91 [.bool y416.1, .int .i64 y422.1, .int .i64 y427.1, .slice a437 y432.1.length c439, .int .i64 y441.1, .slice a451 y446.1.length c453, .slice a501 l500.length c502, .int .i64 0, .slice none 0 0, .int .i64 0, .int .i64 0, .int .i64 0], Res.own (eList (eVal (Value.int .i64) (fun _ => rfl)) 3) F440 y432.1 [.slice a437 y432.1.length c439], Res.own (eList (eVal (Value.int .i64) (fun _ => rfl)) 3) F454 y446.1 [.slice a451 y446.1.length c453], Res.own (eList (eList (eVal (Value.int .i64) (fun _ => rfl)) 3) 22) F503 l500 [.slice a501 l500.length c502]]) mixed (by kernel_rfl) (panicOk_qb (panicOk_qs (panicOk_ql (panicOk_qb (panicOk_qs (panicOk_qb (panicOk_qs (panicOk_ql (panicOk_qb (panicOk_qs panicOk_body)))))))))) (fun _ h => St.mask [false, true, true, true, true, true, true, true] rfl h) ?_
              refine ow_batch [.fa 91 4 5 fa91_4, .fa 89 1 1 fa89_1] rfl ?_
              refine ow_rH rfl (dstOk_lt rfl) (ry_box1 (off := 6) rfl rfl ty35 (boxIn (i := 4) rfl) rfl) ?_
              refine ow_batch [.p] rfl ?_
              obtain ⟨y551, h552, H⟩ := of_bind H
              refine ow_callS rfl fn51 rfl rfl rfl rfl (fun w1 hw1 => impl_reader_list_ok w1  h552 (hw1.carve [0] rfl rfl) (rdB [0] rfl rfl hw1 g_p0b)) (fun v553 w1 w2 hw1 hR555 => ?_)
              obtain ⟨a556, n557, c558, F559, rfl, hS554⟩ := hR555
              obtain rfl := own_nS (i := 0) hS554 rfl
              refine ⟨St w M0 [_, _, _, _, _, _, _, _, _, _], hw1.comp [0] rfl rfl hS554, (fun _ h => St.mask [false, true, true, true, true, true, true, true] rfl h), ?_⟩
              refine ow_bslice [(0, [.slice a556 y551.1.length c558])] rfl rfl rfl rfl rfl sl35 ty22 rfl rfl ⟨rfl, rfl, Nat.le_of_ble_eq_true rfl,  trivial⟩ [.slice a556 y551.1.length c558] rfl (fun _ => (fun _ h => St.mask [false, true, true, true, true, true, true, true] rfl h)) (fun b560 => ?_)
              refine ow_st rfl (fun _ h => lit1 (p := 10) (q := 8) h rfl rfl rfl) ?_
              refine ow_nilH ?_
              refine x_qt ?_
              obtain ⟨l561, h562, H⟩ := of_bind H
              refine ow_appM (r := 7) (j := 11) rfl rfl rfl rfl rfl rfl sl35 ty22 rfl rfl rfl rfl rfl rfl rfl h562 (fun _ _ _ => kp) (fun a563 c564 F565 => ?_)
              refine ow_batch [.fa 91 4 5 fa91_4, .fa 89 1 1 fa89_1] rfl ?_
              refine ow_storeC (off := 6) [.slice a563 l561.length c564] [_, _, _, _, _, _, _, _, _, _, _, _] (i := 4) rfl rfl rfl rfl rfl rfl ty35 rfl rfl (by intro u hu; simp only [List.mem_cons, List.not_mem_nil, or_false] at hu; rcases hu with rfl <;> rfl) rfl rfl rfl kp ?_
              refine ow_nil ?_
              refine x_qb ?_
              refine x_qs ?_
              refine CW.weak (C' := St w M0 [_, _, _, _, _, _, _, _]) ?_ (fun _ h => St.sel [1, 2, 3, 4, 5, 6, 9, 12] rfl rfl h)
              refine c_reg ?_
              refine ow_batch [.p, .p, .p] rfl ?_
              refine ow_nil ?_
              exact x_ql (RW.at (ihk2 (y551.2.at_) (y551.2.bad_) (l561) (a563) (c564) (F565) (IntKind.i64.wrap (i504 - 1)) (H)) (fun _ h => St.sel [6, 0, 1, 2, 3, 4, 5, 7] rfl rfl h) ⟨rfl, rfl, rfl, rfl, rfl, rfl, trivial⟩)
            · have H := of_if_f hb H
              refine c_exit ?_
              refine x_qs_exit ?_
              refine x_ql_exit ?_
              refine x_qb_here ?_
              refine x_qs ?_
              refine c_seq ?_
              refine c_reg ?_
              refine ow_batch [.p] rfl ?_
              obtain ⟨y566, h567, H⟩ := of_bind H
              refine ow_callS rfl fn85 rfl rfl rfl rfl (fun w1 hw1 => impl_reader_int_ok w1  h567 (hw1.carve [0] rfl rfl) (rdB [0] rfl rfl hw1 g_p0b)) (fun v568 w1 w2 hw1 hR570 => ?_)
              obtain ⟨rfl, hS569⟩ := hR570
              refine ⟨St w M0 [_, _, _, _, _, _, _, _, _], hw1.comp [0] rfl rfl hS569, fun _ _ => trivial, ?_⟩
              refine ow_batch [.fa 91 5 7 fa91_5] rfl ?_
              refine ow_storeC (off := 7) [.int .i64 y566.1] [_, _, _, _, _, _, _, _, _, _, _, _] (i := 4) rfl rfl rfl rfl rfl rfl ty3 rfl rfl (by intro u hu; simp only [List.mem_cons, List.not_mem_nil, or_false] at hu; rcases hu with rfl <;> rfl) rfl rfl rfl kp ?_
              refine ow_nil ?_
              refine x_qs ?_
              refine c_seq ?_
              refine c_reg ?_
              refine ow_batch [.p] rfl ?_
              obtain ⟨y571, h572, H⟩ := of_bind H
              refine ow_callS rfl fn51 rfl rfl rfl rfl (fun w1 hw1 => impl_reader_list_ok w1  h572 (hw1.carve [8] rfl rfl) (rdB [8] rfl rfl hw1 g_p0b)) (fun v573 w1 w2 hw1 hR575 => ?_)
              obtain ⟨a576, n577, c578, F579, rfl, hS574⟩ := hR575
              obtain rfl := own_nS (i := 0) hS574 rfl
              refine ⟨St w M0 [_, _, _, _, _, _, _, _, _, _, _], hw1.comp [8] rfl rfl hS574, fun _ _ => trivial, ?_⟩
              refine ow_batch [.fa 91 6 8 fa91_6] rfl ?_
              refine ow_storeC (off := 8) [.slice a576 y571.1.length c578] [_, _, _, _, _, _, _, _, _, _, _, _] (i := 4) rfl rfl rfl rfl rfl rfl ty22 rfl rfl (by intro u hu; simp only [List.mem_cons, List.not_mem_nil, or_false] at hu; rcases hu with rfl <;> rfl) rfl rfl rfl kp ?_
              refine ow_nil ?_
              refine x_qs ?_
              refine c_seq ?_
              refine CW.weak (C' := St w M0 [_, _, _, _, _, _, _, _, _]) ?_ (fun _ h => St.sel [1, 2, 3, 4, 5, 6, 7, 9, 10] rfl rfl h)
              refine c_reg ?_
              refine ow_batch [.p] rfl ?_
              obtain ⟨y580, h581, H⟩ := of_bind H
              refine ow_callS rfl fn85 rfl rfl rfl rfl (fun w1 hw1 => impl_reader_int_ok w1  h581 (hw1.carve [8] rfl rfl) (rdB [8] rfl rfl hw1 g_p0b)) (fun v582 w1 w2 hw1 hR584 => ?_)
              obtain ⟨rfl, hS583⟩ := hR584
              refine ⟨St w M0 [_, _, _, _, _, _, _, _, _, _], hw1.comp [8] rfl rfl hS583, fun _ _ => trivial, ?_⟩
              refine ow_batch [.fa 91 7 9 fa91_7] rfl ?_
              refine ow_storeC (off := 9) [.int .i64 y580.1] [_, _, _, _, _, _, _, _, _, _, _, _] (i := 3) rfl rfl rfl rfl rfl rfl ty3 rfl rfl (by intro u hu; simp only [List.mem_cons, List.not_mem_nil, or_false] at hu; rcases hu with rfl <;> rfl) rfl rfl rfl kp ?_
              refine ow_nil ?_
              refine x_qs ?_
              refine c_seq ?_
              refine c_reg ?_
              refine ow_batch [.p] rfl ?_
              obtain ⟨y585, h586, H⟩ := of_bind H
              refine ow_callS rfl fn85 rfl rfl rfl rfl (fun w1 hw1 => impl_reader_int_ok w1  h586 (hw1.carve [9] rfl rfl) (rdB [9] rfl rfl hw1 g_p0b)) (fun v587 w1 w2 hw1 hR589 => ?_)
              obtain ⟨rfl, hS588⟩ := hR589
              refine ⟨St w M0 [_, _, _, _, _, _, _, _, _, _, _], hw1.comp [9] rfl rfl hS588, fun _ _ => trivial, ?_⟩
              refine ow_batch [.fa 91 8 10 fa91_8] rfl ?_
              refine ow_storeC (off := 10) [.int .i64 y585.1] [_, _, _, _, _, _, _, _, _, _, _, _] (i := 3) rfl rfl rfl rfl rfl rfl ty3 rfl rfl (by intro u hu; simp only [List.mem_cons, List.not_mem_nil, or_false] at hu; rcases hu with rfl <;> rfl) rfl rfl rfl kp ?_
              refine ow_nil ?_
              refine x_qs ?_
              refine c_seq ?_
              refine CW.weak (C' := St w M0 [_, _, _, _, _, _, _, _, _]) ?_ (fun _ h => St.sel [0, 1, 2, 3, 4, 5, 6, 7, 10] rfl rfl h)
              refine c_reg ?_
              refine ow_batch [.p] rfl ?_
              obtain ⟨y590, h591, H⟩ := of_bind H
              refine ow_callS rfl fn85 rfl rfl rfl rfl (fun w1 hw1 => impl_reader_int_ok w1  h591 (hw1.carve [8] rfl rfl) (rdB [8] rfl rfl hw1 g_p0b)) (fun v592 w1 w2 hw1 hR594 => ?_)
              obtain ⟨rfl, hS593⟩ := hR594
              refine ⟨St w M0 [_, _, _, _, _, _, _, _, _, _], hw1.comp [8] rfl rfl hS593, fun _ _ => trivial, ?_⟩
              refine ow_batch [.fa 91 9 11 fa91_9] rfl ?_
              refine ow_storeC (off := 11) [.int .i64 y590.1] [_, _, _, _, _, _, _, _, _, _, _, _] (i := 3) rfl rfl rfl rfl rfl rfl ty3 rfl rfl (by intro u hu; simp only [List.mem_cons, List.not_mem_nil, or_false] at hu; rcases hu with rfl <;> rfl) rfl rfl rfl kp ?_
              refine ow_nil ?_
              refine x_qs ?_
              refine c_reg ?_
              refine ow_batch [.fa 54 0 0 fa54_0] rfl ?_
              refine ow_r rfl (dstOk_lt rfl) (ry_box1 (off := 0) rfl rfl ty52 (boxIn (i := 1) rfl) rfl) ?_
              refine ow_r rfl (dstOk_lt rfl) (ry_box (off := 0) (ds := [.bool y416.1, .int .i64 y422.1, .int .i64 y427.1, .slice a437 y432.1.length c439, .int .i64 y441.1, .slice a451 y446.1.length c453, .slice a501 l500.length c502, .int .i64 y566.1, .slice a576 y571.1.length c578, .int .i64 y580.1, .int .i64 y585.1, .int .i64 y590.1]) rfl rfl ty91 (boxIn (i := 3) rfl) rfl rfl) ?_
              refine ow_ex rfl (fun w1 hw1 => fus_Timpl_Node (x0 := y416.1) (x1 := y422.1) (x2 := y427.1) (x4 := y441.1) (x7 := y566.1) (x9 := y580.1) (x10 := y585.1) (x11 := y590.1) [4, 5, 6, 7] hw1 rfl rfl) (fun F596 => ?_)
              refine ow_st (C' := St w M0 [_, _, _, _, _, _, _, _, _, _, _]) rfl (fun _ h => h) ?_
              refine ow_bslice [(0, [.bool y416.1, .int .i64 y422.1, .int .i64 y427.1, .slice a437 y432.1.length c439, .int .i64 y441.1, .slice a451 y446.1.length c453, .slice a501 l500.length c502, .int .i64 y566.1, .slice a576 y571.1.length c578, .int .i64 y580.1, .int .i64 y585.1, .int .i64 y590.1])] rfl rfl rfl rfl rfl sl52 ty91 rfl rfl ⟨rfl, rfl, Nat.le_of_ble_eq_true rfl,  trivial⟩ [.bool y416.1, .int .i64 y422.1, .int .i64 y427.1, .slice a437 y432.1.length c439, .int .i64 y441.1, .slice a451 y446.1.length c453, .slice a501 l500.length c502, .int .i64 y566.1, .slice a576 y571.1.length c578, .int .i64 y580.1, .int .i64 y585.1, .int .i64 y590.1] rfl (fun _ => kp) (fun b595 => ?_)
              refine ow_st rfl (fun _ h => lit1 (p := 11) (q := 10) h rfl rfl rfl) ?_
              obtain ⟨l597, h598, H⟩ := of_bind H
              refine ow_appM (r := 2) (j := 12) rfl rfl rfl rfl rfl rfl sl52 ty91 rfl rfl rfl rfl rfl rfl rfl h598 (fun _ _ _ => kp) (fun a599 c600 F601 => ?_)
              refine ow_batch [.fa 54 0 0 fa54_0] rfl ?_
              refine ow_storeC (off := 0) [.slice a599 l597.length c600] [_, _] (i := 1) rfl rfl rfl rfl rfl rfl ty52 rfl rfl (by intro u hu; simp only [List.mem_cons, List.not_mem_nil, or_false] at hu; rcases hu with rfl <;> rfl) rfl rfl rfl kp ?_
              refine ow_nil ?_
              refine x_qb ?_
              refine x_qs ?_
              refine CW.weak (C' := St w M0 [_, _, _, _, _]) ?_ (fun _ h => St.sel [0, 1, 3, 9, 13] rfl rfl h)
              refine c_reg ?_
              refine ow_batch [.p, .p, .p] rfl ?_
              refine ow_nil ?_
              exact x_ql (RW.at (ihk1 (y590.2.at_) (y590.2.bad_) (l597) (a599) (c600) (F601) (IntKind.i64.wrap (i218 - 1)) (H)) (fun _ h => St.sel [3, 0, 1, 4] rfl rfl h) ⟨rfl, rfl, rfl, rfl, trivial⟩)
          · generalize (decide (i504 > 0)) = t540 at key ⊢
            cases t540
            · refine ow_batch [.p, .p, .p, .p, .p, .p] rfl ?_
              exact OW.sub key ⟨rfl, rfl, rfl, rfl, rfl, rfl, rfl, trivial⟩
            · refine ow_batch [.p, .p, .fa 74 2 2 fa74_2] rfl ?_
              refine ow_r rfl (dstOk_lt rfl) (ry_box1 (off := 2) rfl rfl ty4 (boxIn (i := 0) rfl) rfl) ?_
              refine ow_batch [.p] rfl ?_
              refine ow_batch [.p] rfl ?_
              exact OW.sub key ⟨rfl, rfl, rfl, rfl, rfl, rfl, rfl, trivial⟩
      · have H := of_if_f hb H
        refine c_exit ?_
        refine x_qs_exit ?_
        refine x_ql_exit ?_
        refine x_qb_here ?_
        refine x_qs ?_
        refine c_seq ?_
        refine c_reg ?_
        refine ow_r rfl (dstOk_lt rfl) (ry_box (off := 0) (ds := [.slice a215 l214.length c216, .int .i64 y2.1]) rfl rfl ty54 (boxIn (i := 2) rfl) rfl rfl) ?_
        refine ow_storeC (off := 0) [.slice a215 l214.length c216, .int .i64 y2.1] [_, _] (i := 1) rfl rfl rfl rfl rfl rfl ty54 rfl rfl (by intro u hu; simp only [List.mem_cons, List.not_mem_nil, or_false] at hu; rcases hu with rfl | rfl <;> rfl) rfl rfl rfl kp ?_
        refine ow_nil ?_
        refine x_qs ?_
        refine c_ret ?_
        exact x_retR (rs := [.cell 2 54]) (vs := [.agg #[.slice a215 l214.length c216, .int .i64 y2.1]]) rfl ⟨⟨_, [.slice a215 l214.length c216, .int .i64 y2.1], _, _, _, rfl, ty54, (at_box (T := 54) 0 (boxIn (i := 1) rfl) rfl), rfl, rfl⟩, trivial⟩ (fun w' hw' => by
            obtain rfl := of_some H
            exact ⟨_, rfl, a215, l214.length, c216, F217, rfl, hw'.sel [3, 0] rfl rfl⟩)
    · generalize (decide (i218 > 0)) = t415 at key ⊢
      cases t415
      · refine ow_batch [.p, .p, .p, .p, .p, .p] rfl ?_
        exact OW.sub key ⟨rfl, rfl, rfl, rfl, rfl, trivial⟩
      · refine ow_batch [.p, .p, .fa 74 2 2 fa74_2] rfl ?_
        refine ow_r rfl (dstOk_lt rfl) (ry_box1 (off := 2) rfl rfl ty4 (boxIn (i := 0) rfl) rfl) ?_
        refine ow_batch [.p] rfl ?_
        refine ow_batch [.p] rfl ?_
        exact OW.sub key ⟨rfl, rfl, rfl, rfl, rfl, trivial⟩

set_option maxHeartbeats 4000000 in
set_option maxRecDepth 100000 in
theorem impl_GetTree_ok (w : World) {M0 : List Nat} {p0 : List Int} {p1 : Int} {a_0 : Option Addr} {n_0 c_0 : Nat} {r : Timpl_Tree × Int × Bool} (H : impl_GetTree p0 p1 = some r) (HS : St w M0 [] w) (g0 : (eList (eVal (Value.int .u8) (fun _ => rfl)) 5).rd w M0 p0 [.slice a_0 n_0 c_0]) :
    Calls Try.prog 38 #[.slice a_0 n_0 c_0, .int .i64 p1] w (fun en w' => ∃ v, en = .returned v ∧ ∃ (a0 : Option Addr), ∃ (n0 : Nat), ∃ (c0 : Nat), ∃ (F0 : List Nat), v = .tuple #[.agg #[.slice a0 n0 c0, .int .i64 r.1.Seen_], .int .i64 r.2.1, .bool r.2.2] ∧ St w M0 [Res.own (eList (eTimpl_Node) 91) F0 r.1.Nodes_ [.slice a0 n0 c0]] w') := by
  obtain rfl := rd_n g0
  unfold impl_GetTree at H
  refine f_enter (vs := [.slice a_0 p0.length c_0, .int .i64 p1]) Try.func38 rfl Try.ntmps38 rfl (HS) ?_
  refine c_seq ?_
  refine c_reg ?_
  refine ow_alloc rfl rfl rfl rfl ty54 (fun _ => kp) (fun b1 => ?_)
  refine ow_batch [.p, .p] rfl ?_
  refine ow_nil ?_
  refine x_qs ?_
  refine c_seq ?_
  refine c_reg ?_
  refine ow_batch [.p, .p] rfl ?_
  refine ow_r rfl (dstOk_lt rfl) (ry_build2 [(0, [.slice a_0 p0.length c_0]), (1, [.int .i64 p1])] [.slice a_0 p0.length c_0, .int .i64 p1, .bool false] rfl rfl ty74 fs74 rfl ⟨rfl, rfl, Nat.le_of_ble_eq_true rfl, rfl, rfl, Nat.le_of_ble_eq_true rfl,  trivial⟩ rfl) ?_
  refine ow_box (cs := [.slice a_0 p0.length c_0, .int .i64 p1, .bool false]) rfl rfl rfl rfl rfl rfl (fun _ => kp) (fun b2 => ?_)
  refine ow_batch [.p] rfl ?_
  refine ow_nil ?_
  refine x_qs ?_
  refine c_seq ?_
  refine c_reg ?_
  refine ow_batch [.p] rfl ?_
  obtain ⟨y3, h4, H⟩ := of_bind H
  refine ow_callS rfl fn70 rfl rfl rfl rfl (fun w1 hw1 => impl_reader_tree_ok w1  h4 (hw1.carve [1] rfl rfl) (rdB [1] rfl rfl hw1 g0)) (fun v5 w1 w2 hw1 hR7 => ?_)
  obtain ⟨a8, n9, c10, F11, rfl, hS6⟩ := hR7
  obtain rfl := own_nS (i := 0) hS6 rfl
  refine ⟨St w M0 [_, _, _, _], hw1.comp [1] rfl rfl hS6, fun _ _ => trivial, ?_⟩
  refine ow_alloc rfl rfl rfl rfl ty54 (fun _ => kp) (fun b12 => ?_)
  refine ow_storeC (off := 0) [.slice a8 y3.1.Nodes_.length c10, .int .i64 y3.1.Seen_] [_, _] (i := 4) rfl rfl rfl rfl rfl rfl ty54 rfl rfl (by intro u hu; simp only [List.mem_cons, List.not_mem_nil, or_false] at hu; rcases hu with rfl | rfl <;> rfl) rfl rfl rfl kp ?_
  refine ow_nil ?_
  refine x_qs ?_
  refine c_seq ?_
  refine c_seq ?_
  refine c_reg ?_
  refine ow_batch [.p, .p, .fa 74 2 2 fa74_2] rfl ?_
  refine ow_r rfl (dstOk_lt rfl) (ry_box1 (off := 2) rfl rfl ty4 (boxIn (i := 3) rfl) rfl) ?_
  refine ow_nil ?_
  refine x_qs ?_
  refine c_if rfl (fun hb => ?_) (fun hb => ?_)
  · have H := of_if_t hb H
    refine c_seq ?_
    refine c_reg ?_
    refine ow_r rfl (dstOk_lt rfl) (ry_build2 [] [.slice none 0 0, .int .i64 0] rfl rfl ty54 fs54 rfl trivial rfl) ?_
    refine ow_storeC (off := 0) [.slice none 0 0, .int .i64 0] [_, _] (i := 0) rfl rfl rfl rfl rfl rfl ty54 rfl rfl (by intro u hu; simp only [List.mem_cons, List.not_mem_nil, or_false] at hu; rcases hu with rfl | rfl <;> rfl) rfl rfl rfl kp ?_
    refine ow_batch [.p, .p] rfl ?_
    refine ow_nil ?_
    refine x_qs ?_
    refine c_ret ?_
    refine x_qs_ret ?_
    refine xw_st (fun _ h => St.pushNil (e := eTimpl_Node) (T := 91) h) ?_
    exact x_retR (rs := [.cell 4 54, .tmp 5, .tmp 6]) (vs := [.agg #[.slice none 0 0, .int .i64 0], .int .i64 0, .bool false]) rfl ⟨⟨_, [.slice none 0 0, .int .i64 0], _, _, _, rfl, ty54, (at_box (T := 54) 0 (boxIn (i := 0) rfl) rfl), rfl, rfl⟩, rfl, rfl, trivial⟩ (fun w' hw' => by
        obtain rfl := of_some H
        exact ⟨_, rfl, none, 0, 0, [], rfl, hw'.sel [5] rfl rfl⟩)
  · have H := of_if_f hb H
    refine c_skip ?_
    refine x_qs ?_
    refine c_seq ?_
    refine c_regHT 6 [(0, true), (1, true), (2, true), (3, true), (4, true), (5, false)] (St w M0 [Res.nil, Res.nil, Res.own (eList (eTimpl_Node) 91) F11 y3.1.Nodes_ [.slice a8 y3.1.Nodes_.length c10], Res.box b2 74 [.slice a_0 p0.length c_0, .int .i64 y3.2.at_, .bool y3.2.bad_], Res.box b12 54 [.slice a8 y3.1.Nodes_.length c10, .int .i64 y3.1.Seen_]]) mixed (by kernel_rfl) (panicOk_qs panicOk_body) (fun _ h => St.mask [false, true, true, true, true] rfl h) ?_
    refine ow_rH rfl (dstOk_lt rfl) (ry_box (off := 0) (ds := [.slice a8 y3.1.Nodes_.length c10, .int .i64 y3.1.Seen_]) rfl rfl ty54 (boxIn (i := 4) rfl) rfl rfl) ?_
    refine ow_batch [.p, .p, .fa 74 1 1 fa74_1] rfl ?_
    refine ow_rH rfl (dstOk_lt rfl) (ry_box1 (off := 1) rfl rfl ty3 (boxIn (i := 3) rfl) rfl) ?_
    refine ow_storeC (off := 0) [.slice a8 y3.1.Nodes_.length c10, .int .i64 y3.1.Seen_] [_, _] (i := 0) rfl rfl rfl rfl rfl rfl ty54 rfl rfl (by intro u hu; simp only [List.mem_cons, List.not_mem_nil, or_false] at hu; rcases hu with rfl | rfl <;> rfl) rfl rfl rfl (fun _ h => St.mask [false, true, true, true, true] rfl h) ?_
    refine ow_nilH ?_
    refine x_qt ?_
    refine ow_batch [.p, .p] rfl ?_
    refine ow_nil ?_
    refine x_qs ?_
    refine c_ret ?_
    exact x_retR (rs := [.cell 4 54, .tmp 5, .tmp 6]) (vs := [.agg #[.slice a8 y3.1.Nodes_.length c10, .int .i64 y3.1.Seen_], .int .i64 y3.2.at_, .bool true]) rfl ⟨⟨_, [.slice a8 y3.1.Nodes_.length c10, .int .i64 y3.1.Seen_], _, _, _, rfl, ty54, (at_box (T := 54) 0 (boxIn (i := 0) rfl) rfl), rfl, rfl⟩, rfl, rfl, trivial⟩ (fun w' hw' => by
        obtain rfl := of_some H
        exact ⟨_, rfl, a8, y3.1.Nodes_.length, c10, F11, rfl, hw'.sel [2] rfl rfl⟩)

set_option maxHeartbeats 4000000 in
set_option maxRecDepth 100000 in
theorem laws_eqFork_ok (w : World) {p0 : Timpl_Fork} {p1 : Timpl_Fork}  {r : Bool} (H : laws_eqFork p0 p1 = some r)   :
    Calls Try.prog 97 #[.agg #[.int .i64 p0.Attr_, .int .i64 p0.At_], .agg #[.int .i64 p1.Attr_, .int .i64 p1.At_]] w (fun en w' => en = .returned (.bool r) ∧ Ext [] w w') := by
  unfold laws_eqFork at H
  refine f_enter (vs := [.agg #[.int .i64 p0.Attr_, .int .i64 p0.At_], .agg #[.int .i64 p1.Attr_, .int .i64 p1.At_]]) Try.func97 rfl Try.ntmps97 rfl (St.init w []) ?_
  refine c_seq ?_
  refine c_reg ?_
  refine ow_box (cs := [.int .i64 p0.Attr_, .int .i64 p0.At_]) rfl rfl rfl rfl rfl rfl (fun _ => kp) (fun b1 => ?_)
  refine ow_box (cs := [.int .i64 p1.Attr_, .int .i64 p1.At_]) rfl rfl rfl rfl rfl rfl (fun _ => kp) (fun b2 => ?_)
  refine ow_batch [.p] rfl ?_
  refine ow_nil ?_
  refine x_qs ?_
  refine c_seq ?_
  refine c_seq ?_
  refine c_reg ?_
  refine ow_batch [.fa 87 0 0 fa87_0] rfl ?_
  refine ow_r rfl (dstOk_lt rfl) (ry_box1 (off := 0) rfl rfl ty3 (boxIn (i := 0) rfl) rfl) ?_
  refine ow_batch [.fa 87 0 0 fa87_0] rfl ?_
  refine ow_r rfl (dstOk_lt rfl) (ry_box1 (off := 0) rfl rfl ty3 (boxIn (i := 1) rfl) rfl) ?_
  refine ow_batch [.p] rfl ?_
  refine ow_nil ?_
  refine x_qs ?_
  refine c_if rfl (fun hb => ?_) (fun hb => ?_)
  · have H := of_if_t hb H
    refine c_seq ?_
    refine c_reg ?_
    refine ow_batch [.p] rfl ?_
    refine ow_nil ?_
    refine x_qs ?_
    refine c_ret ?_
    refine x_qs_ret ?_
    exact x_retR (rs := [.tmp 4]) (vs := [.bool false]) rfl ⟨rfl, trivial⟩ (fun w' hw' => by
        obtain rfl := of_some H
        exact ⟨rfl, hw'.ext⟩)
  · have H := of_if_f hb H
    refine c_skip ?_
    refine x_qs ?_
    refine c_seq ?_
    refine c_seq ?_
    refine c_reg ?_
    refine ow_batch [.fa 87 1 1 fa87_1] rfl ?_
    refine ow_r rfl (dstOk_lt rfl) (ry_box1 (off := 1) rfl rfl ty3 (boxIn (i := 0) rfl) rfl) ?_
    refine ow_batch [.fa 87 1 1 fa87_1] rfl ?_
    refine ow_r rfl (dstOk_lt rfl) (ry_box1 (off := 1) rfl rfl ty3 (boxIn (i := 1) rfl) rfl) ?_
    refine ow_batch [.p] rfl ?_
    refine ow_nil ?_
    refine x_qs ?_
    refine c_if rfl (fun hb => ?_) (fun hb => ?_)
    · have H := of_if_t hb H
      refine c_seq ?_
      refine c_reg ?_
      refine ow_batch [.p] rfl ?_
      refine ow_nil ?_
      refine x_qs ?_
      refine c_ret ?_
      refine x_qs_ret ?_
      exact x_retR (rs := [.tmp 4]) (vs := [.bool false]) rfl ⟨rfl, trivial⟩ (fun w' hw' => by
          obtain rfl := of_some H
          exact ⟨rfl, hw'.ext⟩)
    · have H := of_if_f hb H
      refine c_skip ?_
      refine x_qs ?_
      refine c_seq ?_
      refine c_reg ?_
      refine ow_batch [.p] rfl ?_
      refine ow_nil ?_
      refine x_qs ?_
      refine c_ret ?_
      exact x_retR (rs := [.tmp 4]) (vs := [.bool true]) rfl ⟨rfl, trivial⟩ (fun w' hw' => by
          obtain rfl := of_some H
          exact ⟨rfl, hw'.ext⟩)

set_option maxHeartbeats 4000000 in
set_option maxRecDepth 100000 in
theorem laws_eqStats_ok (w : World) {p0 : Timpl_Stats} {p1 : Timpl_Stats} {cs0 : List Value} {cs1 : List Value} {r : Bool} (H : laws_eqStats p0 p1 = some r)  (g0 : (eTimpl_Stats).rd w [] p0 cs0) (g1 : (eTimpl_Stats).rd w [] p1 cs1) :
    Calls Try.prog 98 #[.agg cs0.toArray, .agg cs1.toArray] w (fun en w' => en = .returned (.bool r) ∧ Ext [] w w') := by
  obtain ⟨c1, c2, rfl, g3, g4⟩ := rdo_Timpl_Stats g0
  obtain ⟨a5, c6, rfl⟩ := rd_sl1 g3
  obtain ⟨a7, c8, rfl⟩ := rd_sl1 g4
  obtain ⟨c9, c10, rfl, g11, g12⟩ := rdo_Timpl_Stats g1
  obtain ⟨a13, c14, rfl⟩ := rd_sl1 g11
  obtain ⟨a15, c16, rfl⟩ := rd_sl1 g12
  unfold laws_eqStats at H
  refine f_enter (vs := [.agg #[.slice a5 p0.Totals_.length c6, .slice a7 p0.Cells_.length c8], .agg #[.slice a13 p1.Totals_.length c14, .slice a15 p1.Cells_.length c16]]) Try.func98 rfl Try.ntmps98 rfl (St.init w []) ?_
  refine c_seq ?_
  refine c_reg ?_
  refine ow_box (cs := [.slice a5 p0.Totals_.length c6, .slice a7 p0.Cells_.length c8]) rfl rfl rfl rfl rfl rfl (fun _ => kp) (fun b17 => ?_)
  refine ow_box (cs := [.slice a13 p1.Totals_.length c14, .slice a15 p1.Cells_.length c16]) rfl rfl rfl rfl rfl rfl (fun _ => kp) (fun b18 => ?_)
  refine ow_batch [.p] rfl ?_
  refine ow_nil ?_
  refine x_qs ?_
  refine c_seq ?_
  refine c_seq ?_
  refine c_reg ?_
  refine ow_batch [.fa 89 0 0 fa89_0] rfl ?_
  refine ow_r rfl (dstOk_lt rfl) (ry_box1 (off := 0) rfl rfl ty22 (boxIn (i := 0) rfl) rfl) ?_
  refine ow_batch [.fa 89 0 0 fa89_0] rfl ?_
  refine ow_r rfl (dstOk_lt rfl) (ry_box1 (off := 0) rfl rfl ty22 (boxIn (i := 1) rfl) rfl) ?_
  obtain ⟨y19, h20, H⟩ := of_bind H
  refine ow_q rfl rfl (dstOk_lt rfl) (qy_call rfl fn14 rfl (fun w1 hw1 => laws_eqIntS_ok w1  h20 (rds_bor g3 w1 hw1) (rds_bor g11 w1 hw1))) (fun _ _ => trivial) ?_
  refine ow_batch [.p] rfl ?_
  refine ow_nil ?_
  refine x_qs ?_
  refine c_if rfl (fun hb => ?_) (fun hb => ?_)
  · have H := of_if_t hb H
    refine c_seq ?_
    refine c_reg ?_
    refine ow_batch [.p] rfl ?_
    refine ow_nil ?_
    refine x_qs ?_
    refine c_ret ?_
    refine x_qs_ret ?_
    exact x_retR (rs := [.tmp 4]) (vs := [.bool false]) rfl ⟨rfl, trivial⟩ (fun w' hw' => by
        obtain rfl := of_some H
        exact ⟨rfl, hw'.ext⟩)
  · have H := of_if_f hb H
    refine c_skip ?_
    refine x_qs ?_
    refine c_seq ?_
    refine c_seq ?_
    refine c_reg ?_
    refine ow_batch [.fa 89 1 1 fa89_1] rfl ?_
    refine ow_r rfl (dstOk_lt rfl) (ry_box1 (off := 1) rfl rfl ty35 (boxIn (i := 0) rfl) rfl) ?_
    refine ow_batch [.fa 89 1 1 fa89_1] rfl ?_
    refine ow_r rfl (dstOk_lt rfl) (ry_box1 (off := 1) rfl rfl ty35 (boxIn (i := 1) rfl) rfl) ?_
    obtain ⟨y21, h22, H⟩ := of_bind H
    refine ow_q rfl rfl (dstOk_lt rfl) (qy_call rfl fn56 rfl (fun w1 hw1 => laws_eqIntSS_ok w1  h22 (rds_bor g4 w1 hw1) (rds_bor g12 w1 hw1))) (fun _ _ => trivial) ?_
    refine ow_batch [.p] rfl ?_
    refine ow_nil ?_
    refine x_qs ?_
    refine c_if rfl (fun hb => ?_) (fun hb => ?_)
    · have H := of_if_t hb H
      refine c_seq ?_
      refine c_reg ?_
      refine ow_batch [.p] rfl ?_
      refine ow_nil ?_
      refine x_qs ?_
      refine c_ret ?_
      refine x_qs_ret ?_
      exact x_retR (rs := [.tmp 4]) (vs := [.bool false]) rfl ⟨rfl, trivial⟩ (fun w' hw' => by
          obtain rfl := of_some H
          exact ⟨rfl, hw'.ext⟩)
    · have H := of_if_f hb H
      refine c_skip ?_
      refine x_qs ?_
      refine c_seq ?_
      refine c_reg ?_
      refine ow_batch [.p] rfl ?_
      refine ow_nil ?_
      refine x_qs ?_
      refine c_ret ?_
      exact x_retR (rs := [.tmp 4]) (vs := [.bool true]) rfl ⟨rfl, trivial⟩ (fun w' hw' => by
          obtain rfl := of_some H
          exact ⟨rfl, hw'.ext⟩)

set_option maxHeartbeats 4000000 in
set_option maxRecDepth 100000 in
theorem laws_eqNode_ok (w : World) {p0 : Timpl_Node} {p1 : Timpl_Node} {cs0 : List Value} {cs1 : List Value} {r : Bool} (H : laws_eqNode p0 p1 = some r)  (g0 : (eTimpl_Node).rd w [] p0 cs0) (g1 : (eTimpl_Node).rd w [] p1 cs1) :
    Calls Try.prog 91 #[.agg cs0.toArray, .agg cs1.toArray] w (fun en w' => en = .returned (.bool r) ∧ Ext [] w w') := by
  obtain ⟨c1, c2, c3, c4, c5, c6, c7, c8, c9, c10, rfl, g11, g12, g13, g14, g15, g16, g17, g18, g19, g20⟩ := rdo_Timpl_Node g0
  obtain rfl : c1 = [.bool p0.Leaf_] := g11
  obtain rfl : c2 = [.int .i64 p0.Fork_.Attr_, .int .i64 p0.Fork_.At_] := g12
  obtain ⟨a21, c22, rfl⟩ := rd_sl1 g13
  obtain rfl : c4 = [.int .i64 p0.Miss_] := g14
  obtain ⟨c23, c24, rfl, g25, g26⟩ := rdo_Timpl_Stats g15
  obtain ⟨a27, c28, rfl⟩ := rd_sl1 g25
  obtain ⟨a29, c30, rfl⟩ := rd_sl1 g26
  obtain rfl : c6 = [.int .i64 p0.Since_] := g16
  obtain ⟨a31, c32, rfl⟩ := rd_sl1 g17
  obtain rfl : c8 = [.int .i64 p0.Depth_] := g18
  obtain rfl : c9 = [.int .i64 p0.Up_] := g19
  obtain rfl : c10 = [.int .i64 p0.Born_] := g20
  obtain ⟨c33, c34, c35, c36, c37, c38, c39, c40, c41, c42, rfl, g43, g44, g45, g46, g47, g48, g49, g50, g51, g52⟩ := rdo_Timpl_Node g1
  obtain rfl : c33 = [.bool p1.Leaf_] := g43
  obtain rfl : c34 = [.int .i64 p1.Fork_.Attr_, .int .i64 p1.Fork_.At_] := g44
  obtain ⟨a53, c54, rfl⟩ := rd_sl1 g45
  obtain rfl : c36 = [.int .i64 p1.Miss_] := g46
  obtain ⟨c55, c56, rfl, g57, g58⟩ := rdo_Timpl_Stats g47
  obtain ⟨a59, c60, rfl⟩ := rd_sl1 g57
  obtain ⟨a61, c62, rfl⟩ := rd_sl1 g58
  obtain rfl : c38 = [.int .i64 p1.Since_] := g48
  obtain ⟨a63, c64, rfl⟩ := rd_sl1 g49
  obtain rfl : c40 = [.int .i64 p1.Depth_] := g50
  obtain rfl : c41 = [.int .i64 p1.Up_] := g51
  obtain rfl : c42 = [.int .i64 p1.Born_] := g52
  unfold laws_eqNode at H
  refine f_enter (vs := [.agg #[.bool p0.Leaf_, .int .i64 p0.Fork_.Attr_, .int .i64 p0.Fork_.At_, .slice a21 p0.Kids_.length c22, .int .i64 p0.Miss_, .slice a27 p0.Stats_.Totals_.length c28, .slice a29 p0.Stats_.Cells_.length c30, .int .i64 p0.Since_, .slice a31 p0.Attrs_.length c32, .int .i64 p0.Depth_, .int .i64 p0.Up_, .int .i64 p0.Born_], .agg #[.bool p1.Leaf_, .int .i64 p1.Fork_.Attr_, .int .i64 p1.Fork_.At_, .slice a53 p1.Kids_.length c54, .int .i64 p1.Miss_, .slice a59 p1.Stats_.Totals_.length c60, .slice a61 p1.Stats_.Cells_.length c62, .int .i64 p1.Since_, .slice a63 p1.Attrs_.length c64, .int .i64 p1.Depth_, .int .i64 p1.Up_, .int .i64 p1.Born_]]) Try.func91 rfl Try.ntmps91 rfl (St.init w []) ?_
  refine c_seq ?_
  refine c_reg ?_
  refine ow_box (cs := [.bool p0.Leaf_, .int .i64 p0.Fork_.Attr_, .int .i64 p0.Fork_.At_, .slice a21 p0.Kids_.length c22, .int .i64 p0.Miss_, .slice a27 p0.Stats_.Totals_.length c28, .slice a29 p0.Stats_.Cells_.length c30, .int .i64 p0.Since_, .slice a31 p0.Attrs_.length c32, .int .i64 p0.Depth_, .int .i64 p0.Up_, .int .i64 p0.Born_]) rfl rfl rfl rfl rfl rfl (fun _ => kp) (fun b65 => ?_)
  refine ow_box (cs := [.bool p1.Leaf_, .int .i64 p1.Fork_.Attr_, .int .i64 p1.Fork_.At_, .slice a53 p1.Kids_.length c54, .int .i64 p1.Miss_, .slice a59 p1.Stats_.Totals_.length c60, .slice a61 p1.Stats_.Cells_.length c62, .int .i64 p1.Since_, .slice a63 p1.Attrs_.length c64, .int .i64 p1.Depth_, .int .i64 p1.Up_, .int .i64 p1.Born_]) rfl rfl rfl rfl rfl rfl (fun _ => kp) (fun b66 => ?_)
  refine ow_batch [.p] rfl ?_
  refine ow_nil ?_
  refine x_qs ?_
  refine c_seq ?_
  refine c_seq ?_
  refine c_reg ?_
  refine ow_batch [.fa 91 0 0 fa91_0] rfl ?_
  refine ow_r rfl (dstOk_lt rfl) (ry_box1 (off := 0) rfl rfl ty4 (boxIn (i := 0) rfl) rfl) ?_
  refine ow_batch [.fa 91 0 0 fa91_0] rfl ?_
  refine ow_r rfl (dstOk_lt rfl) (ry_box1 (off := 0) rfl rfl ty4 (boxIn (i := 1) rfl) rfl) ?_
  refine ow_r rfl (dstOk_lt rfl) (ry_bneq rfl rfl rfl bl4) ?_
  refine ow_nil ?_
  refine x_qs ?_
  refine c_if rfl (fun hb => ?_) (fun hb => ?_)
  · have H := of_if_t hb H
    refine c_seq ?_
    refine c_reg ?_
    refine ow_batch [.p] rfl ?_
    refine ow_nil ?_
    refine x_qs ?_
    refine c_ret ?_
    refine x_qs_ret ?_
    exact x_retR (rs := [.tmp 4]) (vs := [.bool false]) rfl ⟨rfl, trivial⟩ (fun w' hw' => by
        obtain rfl := of_some H
        exact ⟨rfl, hw'.ext⟩)
  · have H := of_if_f hb H
    refine c_skip ?_
    refine x_qs ?_
    refine c_seq ?_
    refine c_seq ?_
    refine c_reg ?_
    refine ow_batch [.fa 91 1 1 fa91_1] rfl ?_
    refine ow_r rfl (dstOk_lt rfl) (ry_box (off := 1) (ds := [.int .i64 p0.Fork_.Attr_, .int .i64 p0.Fork_.At_]) rfl rfl ty87 (boxIn (i := 0) rfl) rfl rfl) ?_
    refine ow_batch [.fa 91 1 1 fa91_1] rfl ?_
    refine ow_r rfl (dstOk_lt rfl) (ry_box (off := 1) (ds := [.int .i64 p1.Fork_.Attr_, .int .i64 p1.Fork_.At_]) rfl rfl ty87 (boxIn (i := 1) rfl) rfl rfl) ?_
    obtain ⟨y67, h68, H⟩ := of_bind H
    refine ow_q rfl rfl (dstOk_lt rfl) (qy_call rfl fn97 rfl (fun w1 hw1 => laws_eqFork_ok w1  h68)) (fun _ _ => trivial) ?_
    refine ow_batch [.p] rfl ?_
    refine ow_nil ?_
    refine x_qs ?_
    refine c_if rfl (fun hb => ?_) (fun hb => ?_)
    · have H := of_if_t hb H
      refine c_seq ?_
      refine c_reg ?_
      refine ow_batch [.p] rfl ?_
      refine ow_nil ?_
      refine x_qs ?_
      refine c_ret ?_
      refine x_qs_ret ?_
      exact x_retR (rs := [.tmp 4]) (vs := [.bool false]) rfl ⟨rfl, trivial⟩ (fun w' hw' => by
          obtain rfl := of_some H
          exact ⟨rfl, hw'.ext⟩)
    · have H := of_if_f hb H
      refine c_skip ?_
      refine x_qs ?_
      refine c_seq ?_
      refine c_seq ?_
      refine c_reg ?_
      refine ow_batch [.fa 91 2 3 fa91_2] rfl ?_
      refine ow_r rfl (dstOk_lt rfl) (ry_box1 (off := 3) rfl rfl ty22 (boxIn (i := 0) rfl) rfl) ?_
      refine ow_batch [.fa 91 2 3 fa91_2] rfl ?_
      refine ow_r rfl (dstOk_lt rfl) (ry_box1 (off := 3) rfl rfl ty22 (boxIn (i := 1) rfl) rfl) ?_
      obtain ⟨y69, h70, H⟩ := of_bind H
      refine ow_q rfl rfl (dstOk_lt rfl) (qy_call rfl fn14 rfl (fun w1 hw1 => laws_eqIntS_ok w1  h70 (rds_bor g13 w1 hw1) (rds_bor g45 w1 hw1))) (fun _ _ => trivial) ?_
      refine ow_batch [.p] rfl ?_
      refine ow_nil ?_
      refine x_qs ?_
      refine c_if rfl (fun hb => ?_) (fun hb => ?_)
      · have H := of_if_t hb H
        refine c_seq ?_
        refine c_reg ?_
        refine ow_batch [.p] rfl ?_
        refine ow_nil ?_
        refine x_qs ?_
        refine c_ret ?_
        refine x_qs_ret ?_
        exact x_retR (rs := [.tmp 4]) (vs := [.bool false]) rfl ⟨rfl, trivial⟩ (fun w' hw' => by
            obtain rfl := of_some H
            exact ⟨rfl, hw'.ext⟩)
      · have H := of_if_f hb H
        refine c_skip ?_
        refine x_qs ?_
        refine c_seq ?_
        refine c_seq ?_
        refine c_reg ?_
        refine ow_batch [.fa 91 3 4 fa91_3] rfl ?_
        refine ow_r rfl (dstOk_lt rfl) (ry_box1 (off := 4) rfl rfl ty3 (boxIn (i := 0) rfl) rfl) ?_
        refine ow_batch [.fa 91 3 4 fa91_3] rfl ?_
        refine ow_r rfl (dstOk_lt rfl) (ry_box1 (off := 4) rfl rfl ty3 (boxIn (i := 1) rfl) rfl) ?_
        refine ow_batch [.p] rfl ?_
        refine ow_nil ?_
        refine x_qs ?_
        refine c_if rfl (fun hb => ?_) (fun hb => ?_)
        · have H := of_if_t hb H
          refine c_seq ?_
          refine c_reg ?_
          refine ow_batch [.p] rfl ?_
          refine ow_nil ?_
          refine x_qs ?_
          refine c_ret ?_
          refine x_qs_ret ?_
          exact x_retR (rs := [.tmp 4]) (vs := [.bool false]) rfl ⟨rfl, trivial⟩ (fun w' hw' => by
              obtain rfl := of_some H
              exact ⟨rfl, hw'.ext⟩)
        · have H := of_if_f hb H
          refine c_skip ?_
          refine x_qs ?_
          refine c_seq ?_
          refine c_seq ?_
          refine c_reg ?_
          refine ow_batch [.fa 91 4 5 fa91_4] rfl ?_
          refine ow_r rfl (dstOk_lt rfl) (ry_box (off := 5) (ds := [.slice a27 p0.Stats_.Totals_.length c28, .slice a29 p0.Stats_.Cells_.length c30]) rfl rfl ty89 (boxIn (i := 0) rfl) rfl rfl) ?_
          refine ow_batch [.fa 91 4 5 fa91_4] rfl ?_
          refine ow_r rfl (dstOk_lt rfl) (ry_box (off := 5) (ds := [.slice a59 p1.Stats_.Totals_.length c60, .slice a61 p1.Stats_.Cells_.length c62]) rfl rfl ty89 (boxIn (i := 1) rfl) rfl rfl) ?_
          obtain ⟨y71, h72, H⟩ := of_bind H
          refine ow_q rfl rfl (dstOk_lt rfl) (qy_call rfl fn98 rfl (fun w1 hw1 => laws_eqStats_ok w1 (cs0 := [.slice a27 p0.Stats_.Totals_.length c28, .slice a29 p0.Stats_.Cells_.length c30]) (cs1 := [.slice a59 p1.Stats_.Totals_.length c60, .slice a61 p1.Stats_.Cells_.length c62]) h72 (rdm_Timpl_Stats (x := p0.Stats_) (c0 := [.slice a27 p0.Stats_.Totals_.length c28]) (c1 := [.slice a29 p0.Stats_.Cells_.length c30]) (rds_bor g25 w1 hw1) (rds_bor g26 w1 hw1)) (rdm_Timpl_Stats (x := p1.Stats_) (c0 := [.slice a59 p1.Stats_.Totals_.length c60]) (c1 := [.slice a61 p1.Stats_.Cells_.length c62]) (rds_bor g57 w1 hw1) (rds_bor g58 w1 hw1)))) (fun _ _ => trivial) ?_
          refine ow_batch [.p] rfl ?_
          refine ow_nil ?_
          refine x_qs ?_
          refine c_if rfl (fun hb => ?_) (fun hb => ?_)
          · have H := of_if_t hb H
            refine c_seq ?_
            refine c_reg ?_
            refine ow_batch [.p] rfl ?_
            refine ow_nil ?_
            refine x_qs ?_
            refine c_ret ?_
            refine x_qs_ret ?_
            exact x_retR (rs := [.tmp 4]) (vs := [.bool false]) rfl ⟨rfl, trivial⟩ (fun w' hw' => by
                obtain rfl := of_some H
                exact ⟨rfl, hw'.ext⟩)
          · have H := of_if_f hb H
            refine c_skip ?_
            refine x_qs ?_
            refine c_seq ?_
            refine c_seq ?_
            refine c_reg ?_
            refine ow_batch [.fa 91 5 7 fa91_5] rfl ?_
            refine ow_r rfl (dstOk_lt rfl) (ry_box1 (off := 7) rfl rfl ty3 (boxIn (i := 0) rfl) rfl) ?_
            refine ow_batch [.fa 91 5 7 fa91_5] rfl ?_
            refine ow_r rfl (dstOk_lt rfl) (ry_box1 (off := 7) rfl rfl ty3 (boxIn (i := 1) rfl) rfl) ?_
            refine ow_batch [.p] rfl ?_
            refine ow_nil ?_
            refine x_qs ?_
            refine c_if rfl (fun hb => ?_) (fun hb => ?_)
            · have H := of_if_t hb H
              refine c_seq ?_
              refine c_reg ?_
              refine ow_batch [.p] rfl ?_
              refine ow_nil ?_
              refine x_qs ?_
              refine c_ret ?_
              refine x_qs_ret ?_
              exact x_retR (rs := [.tmp 4]) (vs := [.bool false]) rfl ⟨rfl, trivial⟩ (fun w' hw' => by
                  obtain rfl := of_some H
                  exact ⟨rfl, hw'.ext⟩)
            · have H := of_if_f hb H
              refine c_skip ?_
              refine x_qs ?_
              refine c_seq ?_
              refine c_seq ?_
              refine c_reg ?_
              refine ow_batch [.fa 91 6 8 fa91_6] rfl ?_
              refine ow_r rfl (dstOk_lt rfl) (ry_box1 (off := 8) rfl rfl ty22 (boxIn (i := 0) rfl) rfl) ?_
              refine ow_batch [.fa 91 6 8 fa91_6] rfl ?_
              refine ow_r rfl (dstOk_lt rfl) (ry_box1 (off := 8) rfl rfl ty22 (boxIn (i := 1) rfl) rfl) ?_
              obtain ⟨y73, h74, H⟩ := of_bind H
              refine ow_q rfl rfl (dstOk_lt rfl) (qy_call rfl fn14 rfl (fun w1 hw1 => laws_eqIntS_ok w1  h74 (rds_bor g17 w1 hw1) (rds_bor g49 w1 hw1))) (fun _ _ => trivial) ?_
              refine ow_batch [.p] rfl ?_
              refine ow_nil ?_
              refine x_qs ?_
              refine c_if rfl (fun hb => ?_) (fun hb => ?_)
              · have H := of_if_t hb H
                refine c_seq ?_
                refine c_reg ?_
                refine ow_batch [.p] rfl ?_
                refine ow_nil ?_
                refine x_qs ?_
                refine c_ret ?_
                refine x_qs_ret ?_
                exact x_retR (rs := [.tmp 4]) (vs := [.bool false]) rfl ⟨rfl, trivial⟩ (fun w' hw' => by
                    obtain rfl := of_some H
                    exact ⟨rfl, hw'.ext⟩)
              · have H := of_if_f hb H
                refine c_skip ?_
                refine x_qs ?_
                refine c_seq ?_
                refine c_seq ?_
                refine c_reg ?_
                refine ow_batch [.fa 91 7 9 fa91_7] rfl ?_
                refine ow_r rfl (dstOk_lt rfl) (ry_box1 (off := 9) rfl rfl ty3 (boxIn (i := 0) rfl) rfl) ?_
                refine ow_batch [.fa 91 7 9 fa91_7] rfl ?_
                refine ow_r rfl (dstOk_lt rfl) (ry_box1 (off := 9) rfl rfl ty3 (boxIn (i := 1) rfl) rfl) ?_
                refine ow_batch [.p] rfl ?_
                refine ow_nil ?_
                refine x_qs ?_
                refine c_if rfl (fun hb => ?_) (fun hb => ?_)
                · have H := of_if_t hb H
                  refine c_seq ?_
                  refine c_reg ?_
                  refine ow_batch [.p] rfl ?_
                  refine ow_nil ?_
                  refine x_qs ?_
                  refine c_ret ?_
                  refine x_qs_ret ?_
                  exact x_retR (rs := [.tmp 4]) (vs := [.bool false]) rfl ⟨rfl, trivial⟩ (fun w' hw' => by
                      obtain rfl := of_some H
                      exact ⟨rfl, hw'.ext⟩)
                · have H := of_if_f hb H
                  refine c_skip ?_
                  refine x_qs ?_
                  refine c_seq ?_
                  refine c_seq ?_
                  refine c_reg ?_
                  refine ow_batch [.fa 91 8 10 fa91_8] rfl ?_
                  refine ow_r rfl (dstOk_lt rfl) (ry_box1 (off := 10) rfl rfl ty3 (boxIn (i := 0) rfl) rfl) ?_
                  refine ow_batch [.fa 91 8 10 fa91_8] rfl ?_
                  refine ow_r rfl (dstOk_lt rfl) (ry_box1 (off := 10) rfl rfl ty3 (boxIn (i := 1) rfl) rfl) ?_
                  refine ow_batch [.p] rfl ?_
                  refine ow_nil ?_
                  refine x_qs ?_
                  refine c_if rfl (fun hb => ?_) (fun hb => ?_)
                  · have H := of_if_t hb H
                    refine c_seq ?_
                    refine c_reg ?_
                    refine ow_batch [.p] rfl ?_
                    refine ow_nil ?_
                    refine x_qs ?_
                    refine c_ret ?_
                    refine x_qs_ret ?_
                    exact x_retR (rs := [.tmp 4]) (vs := [.bool false]) rfl ⟨rfl, trivial⟩ (fun w' hw' => by
                        obtain rfl := of_some H
                        exact ⟨rfl, hw'.ext⟩)
                  · have H := of_if_f hb H
                    refine c_skip ?_
                    refine x_qs ?_
                    refine c_seq ?_
                    refine c_seq ?_
                    refine c_reg ?_
                    refine ow_batch [.fa 91 9 11 fa91_9] rfl ?_
                    refine ow_r rfl (dstOk_lt rfl) (ry_box1 (off := 11) rfl rfl ty3 (boxIn (i := 0) rfl) rfl) ?_
                    refine ow_batch [.fa 91 9 11 fa91_9] rfl ?_
                    refine ow_r rfl (dstOk_lt rfl) (ry_box1 (off := 11) rfl rfl ty3 (boxIn (i := 1) rfl) rfl) ?_
                    refine ow_batch [.p] rfl ?_
                    refine ow_nil ?_
                    refine x_qs ?_
                    refine c_if rfl (fun hb => ?_) (fun hb => ?_)
                    · have H := of_if_t hb H
                      refine c_seq ?_
                      refine c_reg ?_
                      refine ow_batch [.p] rfl ?_
                      refine ow_nil ?_
                      refine x_qs ?_
                      refine c_ret ?_
                      refine x_qs_ret ?_
                      exact x_retR (rs := [.tmp 4]) (vs := [.bool false]) rfl ⟨rfl, trivial⟩ (fun w' hw' => by
                          obtain rfl := of_some H
                          exact ⟨rfl, hw'.ext⟩)
                    · have H := of_if_f hb H
                      refine c_skip ?_
                      refine x_qs ?_
                      refine c_seq ?_
                      refine c_reg ?_
                      refine ow_batch [.p] rfl ?_
                      refine ow_nil ?_
                      refine x_qs ?_
                      refine c_ret ?_
                      exact x_retR (rs := [.tmp 4]) (vs := [.bool true]) rfl ⟨rfl, trivial⟩ (fun w' hw' => by
                          obtain rfl := of_some H
                          exact ⟨rfl, hw'.ext⟩)

set_option maxHeartbeats 4000000 in
set_option maxRecDepth 100000 in
theorem laws_eqNodeS_ok (w : World) {p0 : List Timpl_Node} {p1 : List Timpl_Node} {a_0 : Option Addr} {n_0 c_0 : Nat} {a_1 : Option Addr} {n_1 c_1 : Nat} {r : Bool} (H : laws_eqNodeS p0 p1 = some r)  (g0 : (eList (eTimpl_Node) 91).rd w [] p0 [.slice a_0 n_0 c_0]) (g1 : (eList (eTimpl_Node) 91).rd w [] p1 [.slice a_1 n_1 c_1]) :
    Calls Try.prog 66 #[.slice a_0 n_0 c_0, .slice a_1 n_1 c_1] w (fun en w' => en = .returned (.bool r) ∧ Ext [] w w') := by
  obtain rfl := rd_n g0
  obtain rfl := rd_n g1
  unfold laws_eqNodeS at H
  refine f_enter (vs := [.slice a_0 p0.length c_0, .slice a_1 p1.length c_1]) Try.func66 rfl Try.ntmps66 rfl (St.init w []) ?_
  refine c_seq ?_
  refine c_reg ?_
  refine ow_batch [.p] rfl ?_
  refine ow_nil ?_
  refine x_qs ?_
  refine c_seq ?_
  refine c_seq ?_
  refine c_reg ?_
  refine ow_batch [.p, .lenS 52 91 sl52, .p, .lenS 52 91 sl52, .p] rfl ?_
  refine ow_nil ?_
  refine x_qs ?_
  refine c_if rfl (fun hb => ?_) (fun hb => ?_)
  · have H := of_if_t hb H
    refine c_seq ?_
    refine c_reg ?_
    refine ow_batch [.p] rfl ?_
    refine ow_nil ?_
    refine x_qs ?_
    refine c_ret ?_
    refine x_qs_ret ?_
    exact x_retR (rs := [.tmp 4]) (vs := [.bool false]) rfl ⟨rfl, trivial⟩ (fun w' hw' => by
        obtain rfl := of_some H
        exact ⟨rfl, hw'.ext⟩)
  · have H := of_if_f hb H
    refine c_skip ?_
    refine x_qs ?_
    refine c_seq ?_
    refine c_seq ?_
    refine c_reg ?_
    refine ow_batch [.p] rfl ?_
    refine ow_nil ?_
    refine x_qs ?_
    refine c_block ?_
    refine CW.at (loopI1 (fun (i80 : Int) => St w [] []) (fun (i80 : Int) => [(0, .slice a_0 p0.length c_0), (1, .slice a_1 p1.length c_1), (5, .int .i64 i80)]) (fun kk => fun (i80 : Int) => laws_eqNodeS_L1 p0 p1 kk i80 = some r) (fun _ H => ?_) (fun k1 ihk1 i80 H => ?_) Fuel (0) (H)) (fun _ h => St.sel [] rfl rfl h) ⟨rfl, rfl, rfl,  trivial⟩
    · unfold laws_eqNodeS_L1 at H
      exact absurd H (by simp)
    · unfold laws_eqNodeS_L1 at H
      refine c_seq ?_
      refine c_seq ?_
      refine c_reg ?_
      refine ow_batch [.p, .p, .lenS 52 91 sl52, .p] rfl ?_
      refine ow_nil ?_
      refine x_qs ?_
      refine c_if rfl (fun hb => ?_) (fun hb => ?_)
      · have H := of_if_t hb H
        refine c_skip ?_
        refine x_qs ?_
        refine c_seq ?_
        refine c_block ?_
        refine c_seq ?_
        refine c_regQ mixed (by kernel_rfl) ?_
        refine ow_batch [.p, .p] rfl ?_
        obtain ⟨e160, h161, H⟩ := of_bind H
        refine ow_ixB rfl rfl rfl rfl rfl sl52 ty91 rfl g0 h161 (fun q164 c165 hd162 hA163 => ?_)
        obtain ⟨c166, c167, c168, c169, c170, c171, c172, c173, c174, c175, rfl, g176, g177, g178, g179, g180, g181, g182, g183, g184, g185⟩ := rdo_Timpl_Node hd162
        obtain rfl : c166 = [.bool e160.Leaf_] := g176
        obtain rfl : c167 = [.int .i64 e160.Fork_.Attr_, .int .i64 e160.Fork_.At_] := g177
        obtain ⟨a186, c187, rfl⟩ := rd_sl1 g178
        obtain rfl : c169 = [.int .i64 e160.Miss_] := g179
        obtain ⟨c188, c189, rfl, g190, g191⟩ := rdo_Timpl_Stats g180
        obtain ⟨a192, c193, rfl⟩ := rd_sl1 g190
        obtain ⟨a194, c195, rfl⟩ := rd_sl1 g191
        obtain rfl : c171 = [.int .i64 e160.Since_] := g181
        obtain ⟨a196, c197, rfl⟩ := rd_sl1 g182
        obtain rfl : c173 = [.int .i64 e160.Depth_] := g183
        obtain rfl : c174 = [.int .i64 e160.Up_] := g184
        obtain rfl : c175 = [.int .i64 e160.Born_] := g185
        refine ow_r rfl (dstOk_lt rfl) (ry_load (cs := [.bool e160.Leaf_, .int .i64 e160.Fork_.Attr_, .int .i64 e160.Fork_.At_, .slice a186 e160.Kids_.length c187, .int .i64 e160.Miss_, .slice a192 e160.Stats_.Totals_.length c193, .slice a194 e160.Stats_.Cells_.length c195, .int .i64 e160.Since_, .slice a196 e160.Attrs_.length c197, .int .i64 e160.Depth_, .int .i64 e160.Up_, .int .i64 e160.Born_]) rfl rfl ty91 (at_bor bor hA163) rfl) ?_
        refine ow_batch [.p, .p] rfl ?_
        obtain ⟨e198, h199, H⟩ := of_bind H
        refine ow_ixB rfl rfl rfl rfl rfl sl52 ty91 rfl g1 h199 (fun q202 c203 hd200 hA201 => ?_)
        obtain ⟨c204, c205, c206, c207, c208, c209, c210, c211, c212, c213, rfl, g214, g215, g216, g217, g218, g219, g220, g221, g222, g223⟩ := rdo_Timpl_Node hd200
        obtain rfl : c204 = [.bool e198.Leaf_] := g214
        obtain rfl : c205 = [.int .i64 e198.Fork_.Attr_, .int .i64 e198.Fork_.At_] := g215
        obtain ⟨a224, c225, rfl⟩ := rd_sl1 g216
        obtain rfl : c207 = [.int .i64 e198.Miss_] := g217
        obtain ⟨c226, c227, rfl, g228, g229⟩ := rdo_Timpl_Stats g218
        obtain ⟨a230, c231, rfl⟩ := rd_sl1 g228
        obtain ⟨a232, c233, rfl⟩ := rd_sl1 g229
        obtain rfl : c209 = [.int .i64 e198.Since_] := g219
        obtain ⟨a234, c235, rfl⟩ := rd_sl1 g220
        obtain rfl : c211 = [.int .i64 e198.Depth_] := g221
        obtain rfl : c212 = [.int .i64 e198.Up_] := g222
        obtain rfl : c213 = [.int .i64 e198.Born_] := g223
        refine ow_r rfl (dstOk_lt rfl) (ry_load (cs := [.bool e198.Leaf_, .int .i64 e198.Fork_.Attr_, .int .i64 e198.Fork_.At_, .slice a224 e198.Kids_.length c225, .int .i64 e198.Miss_, .slice a230 e198.Stats_.Totals_.length c231, .slice a232 e198.Stats_.Cells_.length c233, .int .i64 e198.Since_, .slice a234 e198.Attrs_.length c235, .int .i64 e198.Depth_, .int .i64 e198.Up_, .int .i64 e198.Born_]) rfl rfl ty91 (at_bor bor hA201) rfl) ?_
        obtain ⟨y236, h237, H⟩ := of_bind H
        refine ow_q rfl rfl (dstOk_lt rfl) (qy_call rfl fn91 rfl (fun w1 hw1 => laws_eqNode_ok w1 (cs0 := [.bool e160.Leaf_, .int .i64 e160.Fork_.Attr_, .int .i64 e160.Fork_.At_, .slice a186 e160.Kids_.length c187, .int .i64 e160.Miss_, .slice a192 e160.Stats_.Totals_.length c193, .slice a194 e160.Stats_.Cells_.length c195, .int .i64 e160.Since_, .slice a196 e160.Attrs_.length c197, .int .i64 e160.Depth_, .int .i64 e160.Up_, .int .i64 e160.Born_]) (cs1 := [.bool e198.Leaf_, .int .i64 e198.Fork_.Attr_, .int .i64 e198.Fork_.At_, .slice a224 e198.Kids_.length c225, .int .i64 e198.Miss_, .slice a230 e198.Stats_.Totals_.length c231, .slice a232 e198.Stats_.Cells_.length c233, .int .i64 e198.Since_, .slice a234 e198.Attrs_.length c235, .int .i64 e198.Depth_, .int .i64 e198.Up_, .int .i64 e198.Born_]) h237 (rdm_Timpl_Node (x := e160) (c0 := [.bool e160.Leaf_]) (c1 := [.int .i64 e160.Fork_.Attr_, .int .i64 e160.Fork_.At_]) (c2 := [.slice a186 e160.Kids_.length c187]) (c3 := [.int .i64 e160.Miss_]) (c4 := [.slice a192 e160.Stats_.Totals_.length c193, .slice a194 e160.Stats_.Cells_.length c195]) (c5 := [.int .i64 e160.Since_]) (c6 := [.slice a196 e160.Attrs_.length c197]) (c7 := [.int .i64 e160.Depth_]) (c8 := [.int .i64 e160.Up_]) (c9 := [.int .i64 e160.Born_]) rfl rfl (rds_bor g178 w1 hw1) rfl (rdm_Timpl_Stats (x := e160.Stats_) (c0 := [.slice a192 e160.Stats_.Totals_.length c193]) (c1 := [.slice a194 e160.Stats_.Cells_.length c195]) (rds_bor g190 w1 hw1) (rds_bor g191 w1 hw1)) rfl (rds_bor g182 w1 hw1) rfl rfl rfl) (rdm_Timpl_Node (x := e198) (c0 := [.bool e198.Leaf_]) (c1 := [.int .i64 e198.Fork_.Attr_, .int .i64 e198.Fork_.At_]) (c2 := [.slice a224 e198.Kids_.length c225]) (c3 := [.int .i64 e198.Miss_]) (c4 := [.slice a230 e198.Stats_.Totals_.length c231, .slice a232 e198.Stats_.Cells_.length c233]) (c5 := [.int .i64 e198.Since_]) (c6 := [.slice a234 e198.Attrs_.length c235]) (c7 := [.int .i64 e198.Depth_]) (c8 := [.int .i64 e198.Up_]) (c9 := [.int .i64 e198.Born_]) rfl rfl (rds_bor g216 w1 hw1) rfl (rdm_Timpl_Stats (x := e198.Stats_) (c0 := [.slice a230 e198.Stats_.Totals_.length c231]) (c1 := [.slice a232 e198.Stats_.Cells_.length c233]) (rds_bor g228 w1 hw1) (rds_bor g229 w1 hw1)) rfl (rds_bor g220 w1 hw1) rfl rfl rfl))) (fun _ _ => trivial) ?_
        refine ow_batch [.p] rfl ?_
        refine ow_nilQ ?_
        refine x_qs ?_
        refine c_if rfl (fun hb => ?_) (fun hb => ?_)
        · have H := of_if_t hb H
          refine c_seq ?_
          refine c_reg ?_
          refine ow_batch [.p] rfl ?_
          refine ow_nil ?_
          refine x_qs ?_
          refine c_ret ?_
          refine x_qb_ret ?_
          refine x_qs_ret ?_
          refine x_ql_ret ?_
          refine x_qb_ret ?_
          refine x_qs_ret ?_
          exact x_retR (rs := [.tmp 4]) (vs := [.bool false]) rfl ⟨rfl, trivial⟩ (fun w' hw' => by
              obtain rfl := of_some H
              exact ⟨rfl, hw'.ext⟩)
        · have H := of_if_f hb H
          refine c_skip ?_
          refine x_qb ?_
          refine x_qs ?_
          refine c_reg ?_
          refine ow_batch [.p, .p, .p] rfl ?_
          refine ow_nil ?_
          exact x_ql (RW.at (ihk1 (IntKind.i64.wrap (i80 + 1)) (H)) (fun _ h => St.sel [] rfl rfl h) ⟨rfl, rfl, rfl, trivial⟩)
      · have H := of_if_f hb H
        refine c_exit ?_
        refine x_qs_exit ?_
        refine x_ql_exit ?_
        refine x_qb_here ?_
        refine x_qs ?_
        refine c_seq ?_
        refine c_reg ?_
        refine ow_batch [.p] rfl ?_
        refine ow_nil ?_
        refine x_qs ?_
        refine c_ret ?_
        exact x_retR (rs := [.tmp 4]) (vs := [.bool true]) rfl ⟨rfl, trivial⟩ (fun w' hw' => by
            obtain rfl := of_some H
            exact ⟨rfl, hw'.ext⟩)

set_option maxHeartbeats 4000000 in
set_option maxRecDepth 100000 in
theorem laws_eqTree_ok (w : World) {p0 : Timpl_Tree} {p1 : Timpl_Tree} {cs0 : List Value} {cs1 : List Value} {r : Bool} (H : laws_eqTree p0 p1 = some r)  (g0 : (eTimpl_Tree).rd w [] p0 cs0) (g1 : (eTimpl_Tree).rd w [] p1 cs1) :
    Calls Try.prog 35 #[.agg cs0.toArray, .agg cs1.toArray] w (fun en w' => en = .returned (.bool r) ∧ Ext [] w w') := by
  obtain ⟨c1, c2, rfl, g3, g4⟩ := rdo_Timpl_Tree g0
  obtain ⟨a5, c6, rfl⟩ := rd_sl1 g3
  obtain rfl : c2 = [.int .i64 p0.Seen_] := g4
  obtain ⟨c7, c8, rfl, g9, g10⟩ := rdo_Timpl_Tree g1
  obtain ⟨a11, c12, rfl⟩ := rd_sl1 g9
  obtain rfl : c8 = [.int .i64 p1.Seen_] := g10
  unfold laws_eqTree at H
  refine f_enter (vs := [.agg #[.slice a5 p0.Nodes_.length c6, .int .i64 p0.Seen_], .agg #[.slice a11 p1.Nodes_.length c12, .int .i64 p1.Seen_]]) Try.func35 rfl Try.ntmps35 rfl (St.init w []) ?_
  refine c_seq ?_
  refine c_reg ?_
  refine ow_box (cs := [.slice a5 p0.Nodes_.length c6, .int .i64 p0.Seen_]) rfl rfl rfl rfl rfl rfl (fun _ => kp) (fun b13 => ?_)
  refine ow_box (cs := [.slice a11 p1.Nodes_.length c12, .int .i64 p1.Seen_]) rfl rfl rfl rfl rfl rfl (fun _ => kp) (fun b14 => ?_)
  refine ow_batch [.p] rfl ?_
  refine ow_nil ?_
  refine x_qs ?_
  refine c_seq ?_
  refine c_seq ?_
  refine c_reg ?_
  refine ow_batch [.fa 54 0 0 fa54_0] rfl ?_
  refine ow_r rfl (dstOk_lt rfl) (ry_box1 (off := 0) rfl rfl ty52 (boxIn (i := 0) rfl) rfl) ?_
  refine ow_batch [.fa 54 0 0 fa54_0] rfl ?_
  refine ow_r rfl (dstOk_lt rfl) (ry_box1 (off := 0) rfl rfl ty52 (boxIn (i := 1) rfl) rfl) ?_
  obtain ⟨y15, h16, H⟩ := of_bind H
  refine ow_q rfl rfl (dstOk_lt rfl) (qy_call rfl fn66 rfl (fun w1 hw1 => laws_eqNodeS_ok w1  h16 (rds_bor g3 w1 hw1) (rds_bor g9 w1 hw1))) (fun _ _ => trivial) ?_
  refine ow_batch [.p] rfl ?_
  refine ow_nil ?_
  refine x_qs ?_
  refine c_if rfl (fun hb => ?_) (fun hb => ?_)
  · have H := of_if_t hb H
    refine c_seq ?_
    refine c_reg ?_
    refine ow_batch [.p] rfl ?_
    refine ow_nil ?_
    refine x_qs ?_
    refine c_ret ?_
    refine x_qs_ret ?_
    exact x_retR (rs := [.tmp 4]) (vs := [.bool false]) rfl ⟨rfl, trivial⟩ (fun w' hw' => by
        obtain rfl := of_some H
        exact ⟨rfl, hw'.ext⟩)
  · have H := of_if_f hb H
    refine c_skip ?_
    refine x_qs ?_
    refine c_seq ?_
    refine c_seq ?_
    refine c_reg ?_
    refine ow_batch [.fa 54 1 1 fa54_1] rfl ?_
    refine ow_r rfl (dstOk_lt rfl) (ry_box1 (off := 1) rfl rfl ty3 (boxIn (i := 0) rfl) rfl) ?_
    refine ow_batch [.fa 54 1 1 fa54_1] rfl ?_
    refine ow_r rfl (dstOk_lt rfl) (ry_box1 (off := 1) rfl rfl ty3 (boxIn (i := 1) rfl) rfl) ?_
    refine ow_batch [.p] rfl ?_
    refine ow_nil ?_
    refine x_qs ?_
    refine c_if rfl (fun hb => ?_) (fun hb => ?_)
    · have H := of_if_t hb H
      refine c_seq ?_
      refine c_reg ?_
      refine ow_batch [.p] rfl ?_
      refine ow_nil ?_
      refine x_qs ?_
      refine c_ret ?_
      refine x_qs_ret ?_
      exact x_retR (rs := [.tmp 4]) (vs := [.bool false]) rfl ⟨rfl, trivial⟩ (fun w' hw' => by
          obtain rfl := of_some H
          exact ⟨rfl, hw'.ext⟩)
    · have H := of_if_f hb H
      refine c_skip ?_
      refine x_qs ?_
      refine c_seq ?_
      refine c_reg ?_
      refine ow_batch [.p] rfl ?_
      refine ow_nil ?_
      refine x_qs ?_
      refine c_ret ?_
      exact x_retR (rs := [.tmp 4]) (vs := [.bool true]) rfl ⟨rfl, trivial⟩ (fun w' hw' => by
          obtain rfl := of_some H
          exact ⟨rfl, hw'.ext⟩)

set_option maxHeartbeats 4000000 in
set_option maxRecDepth 100000 in
theorem laws_markNodeS_ok (w : World) {M0 : List Nat} {p0 : List Timpl_Node} {p1 : Int} {a_0_0 : Option Addr} {n_0_0 c_0_0 : Nat} {F_0_0 : List Nat} {r : Int × (List Timpl_Node)} (H : laws_markNodeS p0 p1 = some r) (HS : St w M0 [Res.own (eList (eTimpl_Node) 91) F_0_0 p0 [.slice a_0_0 n_0_0 c_0_0]] w)  :
    Calls Try.prog 67 #[.slice a_0_0 n_0_0 c_0_0, .int .i64 p1] w (fun en w' => ∃ v, en = .returned v ∧ ∃ (F0 : List Nat), v = .int .i64 r.1 ∧ St w M0 [Res.own (eList (eTimpl_Node) 91) F0 r.2 [.slice a_0_0 n_0_0 c_0_0]] w') := by
  obtain rfl := own_nS (i := 0) HS rfl
  unfold laws_markNodeS at H
  refine f_enter (vs := [.slice a_0_0 p0.length c_0_0, .int .i64 p1]) Try.func67 rfl Try.ntmps67 rfl (HS) ?_
  refine c_seq ?_
  refine c_reg ?_
  refine ow_batch [.p] rfl ?_
  refine ow_nil ?_
  refine x_qs ?_
  refine c_seq ?_
  refine c_seq ?_
  refine c_reg ?_
  refine ow_batch [.p] rfl ?_
  refine ow_nil ?_
  refine x_qs ?_
  refine c_block ?_
  refine CW.at (loopI4 (fun (l53 : List Timpl_Node) (F54 : List Nat) (i55 : Int) (i56 : Int) => St w M0 [Res.own (eList (eTimpl_Node) 91) F54 l53 [.slice a_0_0 p0.length c_0_0]]) (fun (l53 : List Timpl_Node) (F54 : List Nat) (i55 : Int) (i56 : Int) => [(0, .slice a_0_0 p0.length c_0_0), (1, .int .i64 i55), (5, .int .i64 i56)]) (fun kk => fun (l53 : List Timpl_Node) (F54 : List Nat) (i55 : Int) (i56 : Int) => laws_markNodeS_L1 p0 kk l53 i55 i56 = some r) (fun _ _ _ _ H => ?_) (fun k1 ihk1 l53 F54 i55 i56 H => ?_) Fuel (p0) (F_0_0) (p1) (0) (H)) (fun _ h => St.sel [0] rfl rfl h) ⟨rfl, rfl, rfl,  trivial⟩
  · unfold laws_markNodeS_L1 at H
    exact absurd H (by simp)
  · unfold laws_markNodeS_L1 at H
    refine c_seq ?_
    refine c_seq ?_
    refine c_reg ?_
    refine ow_batch [.p, .p, .lenS 52 91 sl52, .p] rfl ?_
    refine ow_nil ?_
    refine x_qs ?_
    refine c_if rfl (fun hb => ?_) (fun hb => ?_)
    · have H := of_if_t hb H
      refine c_skip ?_
      refine x_qs ?_
      refine c_seq ?_
      refine c_block ?_
      refine c_seq ?_
      refine c_reg ?_
      refine ow_batch [.p, .p, .p, .p, .p] rfl ?_
      obtain ⟨e109, h110, H⟩ := of_bind H
      refine ow_ex4 rfl (fun w1 hw1 => foc (r := 0) hw1 rfl h110) (fun b112 G113 F114 c115 => ?_)
      refine ow_fact rfl (fun w1 hw1 => hw1.1) (fun q111 => ?_)
      obtain ⟨ha116, hn117⟩ := q111
      refine ow_st (C' := St w M0 [_, _, _]) rfl (fun w1 hw1 => hw1.2) ?_
      refine ow_ex3 rfl (fun w1 hw1 => opn_Timpl_Node (i := 2) hw1 rfl) (fun a119 c120 F121 => ?_)
      refine ow_ex3 rfl (fun _ h => h) (fun a122 c123 F124 => ?_)
      refine ow_ex3 rfl (fun _ h => h) (fun a125 c126 F127 => ?_)
      refine ow_ex3 rfl (fun _ h => h) (fun a128 c129 F130 => ?_)
      refine ow_fact rfl (fun w1 hw1 => hw1.1) (fun q118 => ?_)
      subst q118
      refine ow_st (C' := St w M0 [_, _, _, _, _, _, _]) rfl (fun w1 hw1 => hw1.2) ?_
      refine ow_ixH rfl rfl rfl rfl rfl sl52 ty91 rfl (holeIn (p := 1) rfl) hn117 ha116 (idx_some h110).1 ?_
      refine ow_batch [.fa 91 0 0 fa91_0] rfl ?_
      refine ow_storeH (off := 0) [.bool ((Int.tmod i55 3) == 0)] (p := 1) (c' := [_, _, _, _, _, _, _, _, _, _, _, _]) rfl rfl rfl rfl rfl (by first | rfl | simp only [add_lit, add_add, add_zero]) rfl ty4 rfl rfl (by intro u hu; simp only [List.mem_cons, List.not_mem_nil, or_false] at hu; rcases hu with rfl <;> rfl) rfl rfl rfl kp ?_
      refine ow_nil ?_
      refine x_qs ?_
      refine c_seq ?_
      refine CW.weak (C' := St w M0 [_, _, _, _, _]) ?_ (fun _ h => St.sel [1, 3, 4, 5, 6] rfl rfl h)
      refine c_reg ?_
      refine ow_batch [.p, .p, .p] rfl ?_
      refine ow_nil ?_
      refine x_qs ?_
      refine c_seq ?_
      refine c_reg ?_
      refine ow_batch [.p, .p, .p] rfl ?_
      refine ow_ixH rfl rfl rfl rfl rfl sl52 ty91 rfl (holeIn (p := 0) rfl) hn117 ha116 (idx_some h110).1 ?_
      refine ow_batch [.fa 91 1 1 fa91_1, .fa 87 0 0 fa87_0] rfl ?_
      refine ow_storeH (off := 1) [.int .i64 (IntKind.i64.wrap (i55 + 1))] (p := 0) (c' := [_, _, _, _, _, _, _, _, _, _, _, _]) rfl rfl rfl rfl rfl (by first | rfl | simp only [add_lit, add_add, add_zero]) rfl ty3 rfl rfl (by intro u hu; simp only [List.mem_cons, List.not_mem_nil, or_false] at hu; rcases hu with rfl <;> rfl) rfl rfl rfl kp ?_
      refine ow_nil ?_
      refine x_qs ?_
      refine c_seq ?_
      refine c_reg ?_
      refine ow_batch [.p, .p, .p] rfl ?_
      refine ow_nil ?_
      refine x_qs ?_
      refine c_seq ?_
      refine c_reg ?_
      refine ow_batch [.p, .p, .p] rfl ?_
      refine ow_ixH rfl rfl rfl rfl rfl sl52 ty91 rfl (holeIn (p := 0) rfl) hn117 ha116 (idx_some h110).1 ?_
      refine ow_batch [.fa 91 1 1 fa91_1, .fa 87 1 1 fa87_1] rfl ?_
      refine ow_storeH (off := 2) [.int .i64 (IntKind.i64.wrap ((IntKind.i64.wrap (i55 + 1)) + 1))] (p := 0) (c' := [_, _, _, _, _, _, _, _, _, _, _, _]) rfl rfl rfl rfl rfl (by first | rfl | simp only [add_lit, add_add, add_zero]) rfl ty3 rfl rfl (by intro u hu; simp only [List.mem_cons, List.not_mem_nil, or_false] at hu; rcases hu with rfl <;> rfl) rfl rfl rfl kp ?_
      refine ow_nil ?_
      refine x_qs ?_
      refine c_seq ?_
      refine c_reg ?_
      refine ow_batch [.p, .p, .p] rfl ?_
      refine ow_nil ?_
      refine x_qs ?_
      refine c_seq ?_
      refine c_reg ?_
      refine ow_batch [.p, .p] rfl ?_
      refine ow_ixH rfl rfl rfl rfl rfl sl52 ty91 rfl (holeIn (p := 0) rfl) hn117 ha116 (idx_some h110).1 ?_
      refine ow_batch [.fa 91 2 3 fa91_2] rfl ?_
      refine ow_r rfl (dstOk_lt rfl) (ry_hole1 0 3 rfl rfl rfl ty22 (by first | rfl | simp only [add_lit, add_add, add_zero]) rfl) ?_
      refine ow_batch [.p] rfl ?_
      obtain ⟨y131, h132, H⟩ := of_bind H
      refine ow_callS rfl fn15 rfl rfl rfl rfl (fun w1 hw1 => laws_markIntS_ok w1  h132 (hw1.carve [1] rfl rfl)) (fun v133 w1 w2 hw1 hR135 => ?_)
      obtain ⟨F136, rfl, hS134⟩ := hR135
      refine ⟨St w M0 [_, _, _, _, _, _], hw1.comp [1] rfl rfl hS134, fun _ _ => trivial, ?_⟩
      refine ow_batch [.p] rfl ?_
      refine ow_nil ?_
      refine x_qs ?_
      refine c_seq ?_
      refine c_reg ?_
      refine ow_batch [.p, .p, .p] rfl ?_
      refine ow_ixH rfl rfl rfl rfl rfl sl52 ty91 rfl (holeIn (p := 0) rfl) hn117 ha116 (idx_some h110).1 ?_
      refine ow_batch [.fa 91 3 4 fa91_3] rfl ?_
      refine ow_storeH (off := 4) [.int .i64 y131.1] (p := 0) (c' := [_, _, _, _, _, _, _, _, _, _, _, _]) rfl rfl rfl rfl rfl (by first | rfl | simp only [add_lit, add_add, add_zero]) rfl ty3 rfl rfl (by intro u hu; simp only [List.mem_cons, List.not_mem_nil, or_false] at hu; rcases hu with rfl <;> rfl) rfl rfl rfl kp ?_
      refine ow_nil ?_
      refine x_qs ?_
      refine c_seq ?_
      refine c_reg ?_
      refine ow_batch [.p, .p, .p] rfl ?_
      refine ow_nil ?_
      refine x_qs ?_
      refine c_seq ?_
      refine c_reg ?_
      refine ow_batch [.p, .p] rfl ?_
      refine ow_ixH rfl rfl rfl rfl rfl sl52 ty91 rfl (holeIn (p := 0) rfl) hn117 ha116 (idx_some h110).1 ?_
      refine ow_batch [.fa 91 4 5 fa91_4, .fa 89 0 0 fa89_0] rfl ?_
      refine ow_r rfl (dstOk_lt rfl) (ry_hole1 0 5 rfl rfl rfl ty22 (by first | rfl | simp only [add_lit, add_add, add_zero]) rfl) ?_
      refine ow_batch [.p] rfl ?_
      obtain ⟨y137, h138, H⟩ := of_bind H
      refine ow_callS rfl fn15 rfl rfl rfl rfl (fun w1 hw1 => laws_markIntS_ok w1  h138 (hw1.carve [2] rfl rfl)) (fun v139 w1 w2 hw1 hR141 => ?_)
      obtain ⟨F142, rfl, hS140⟩ := hR141
      refine ⟨St w M0 [_, _, _, _, _, _, _], hw1.comp [2] rfl rfl hS140, fun _ _ => trivial, ?_⟩
      refine ow_batch [.p] rfl ?_
      refine ow_nil ?_
      refine x_qs ?_
      refine c_seq ?_
      refine CW.weak (C' := St w M0 [_, _, _, _, _]) ?_ (fun _ h => St.sel [0, 3, 4, 5, 6] rfl rfl h)
      refine c_reg ?_
      refine ow_batch [.p, .p] rfl ?_
      refine ow_ixH rfl rfl rfl rfl rfl sl52 ty91 rfl (holeIn (p := 0) rfl) hn117 ha116 (idx_some h110).1 ?_
      refine ow_batch [.fa 91 4 5 fa91_4, .fa 89 1 1 fa89_1] rfl ?_
      refine ow_r rfl (dstOk_lt rfl) (ry_hole1 0 6 rfl rfl rfl ty35 (by first | rfl | simp only [add_lit, add_add, add_zero]) rfl) ?_
      refine ow_batch [.p] rfl ?_
      obtain ⟨y143, h144, H⟩ := of_bind H
      refine ow_callS rfl fn57 rfl rfl rfl rfl (fun w1 hw1 => laws_markIntSS_ok w1  h144 (hw1.carve [1] rfl rfl)) (fun v145 w1 w2 hw1 hR147 => ?_)
      obtain ⟨F148, rfl, hS146⟩ := hR147
      refine ⟨St w M0 [_, _, _, _, _, _], hw1.comp [1] rfl rfl hS146, fun _ _ => trivial, ?_⟩
      refine ow_batch [.p] rfl ?_
      refine ow_nil ?_
      refine x_qs ?_
      refine c_seq ?_
      refine c_reg ?_
      refine ow_batch [.p, .p, .p] rfl ?_
      refine ow_ixH rfl rfl rfl rfl rfl sl52 ty91 rfl (holeIn (p := 0) rfl) hn117 ha116 (idx_some h110).1 ?_
      refine ow_batch [.fa 91 5 7 fa91_5] rfl ?_
      refine ow_storeH (off := 7) [.int .i64 y143.1] (p := 0) (c' := [_, _, _, _, _, _, _, _, _, _, _, _]) rfl rfl rfl rfl rfl (by first | rfl | simp only [add_lit, add_add, add_zero]) rfl ty3 rfl rfl (by intro u hu; simp only [List.mem_cons, List.not_mem_nil, or_false] at hu; rcases hu with rfl <;> rfl) rfl rfl rfl kp ?_
      refine ow_nil ?_
      refine x_qs ?_
      refine c_seq ?_
      refine c_reg ?_
      refine ow_batch [.p, .p, .p] rfl ?_
      refine ow_nil ?_
      refine x_qs ?_
      refine c_seq ?_
      refine c_reg ?_
      refine ow_batch [.p, .p] rfl ?_
      refine ow_ixH rfl rfl rfl rfl rfl sl52 ty91 rfl (holeIn (p := 0) rfl) hn117 ha116 (idx_some h110).1 ?_
      refine ow_batch [.fa 91 6 8 fa91_6] rfl ?_
      refine ow_r rfl (dstOk_lt rfl) (ry_hole1 0 8 rfl rfl rfl ty22 (by first | rfl | simp only [add_lit, add_add, add_zero]) rfl) ?_
      refine ow_batch [.p] rfl ?_
      obtain ⟨y149, h150, H⟩ := of_bind H
      refine ow_callS rfl fn15 rfl rfl rfl rfl (fun w1 hw1 => laws_markIntS_ok w1  h150 (hw1.carve [2] rfl rfl)) (fun v151 w1 w2 hw1 hR153 => ?_)
      obtain ⟨F154, rfl, hS152⟩ := hR153
      refine ⟨St w M0 [_, _, _, _, _, _, _], hw1.comp [2] rfl rfl hS152, fun _ _ => trivial, ?_⟩
      refine ow_batch [.p] rfl ?_
      refine ow_nil ?_
      refine x_qs ?_
      refine c_seq ?_
      refine CW.weak (C' := St w M0 [_, _, _, _, _]) ?_ (fun _ h => St.sel [0, 3, 4, 5, 6] rfl rfl h)
      refine c_reg ?_
      refine ow_batch [.p, .p, .p] rfl ?_
      refine ow_ixH rfl rfl rfl rfl rfl sl52 ty91 rfl (holeIn (p := 0) rfl) hn117 ha116 (idx_some h110).1 ?_
      refine ow_batch [.fa 91 7 9 fa91_7] rfl ?_
      refine ow_storeH (off := 9) [.int .i64 y149.1] (p := 0) (c' := [_, _, _, _, _, _, _, _, _, _, _, _]) rfl rfl rfl rfl rfl (by first | rfl | simp only [add_lit, add_add, add_zero]) rfl ty3 rfl rfl (by intro u hu; simp only [List.mem_cons, List.not_mem_nil, or_false] at hu; rcases hu with rfl <;> rfl) rfl rfl rfl kp ?_
      refine ow_nil ?_
      refine x_qs ?_
      refine c_seq ?_
      refine c_reg ?_
      refine ow_batch [.p, .p, .p] rfl ?_
      refine ow_nil ?_
      refine x_qs ?_
      refine c_seq ?_
      refine c_reg ?_
      refine ow_batch [.p, .p, .p] rfl ?_
      refine ow_ixH rfl rfl rfl rfl rfl sl52 ty91 rfl (holeIn (p := 0) rfl) hn117 ha116 (idx_some h110).1 ?_
      refine ow_batch [.fa 91 8 10 fa91_8] rfl ?_
      refine ow_storeH (off := 10) [.int .i64 (IntKind.i64.wrap (y149.1 + 1))] (p := 0) (c' := [_, _, _, _, _, _, _, _, _, _, _, _]) rfl rfl rfl rfl rfl (by first | rfl | simp only [add_lit, add_add, add_zero]) rfl ty3 rfl rfl (by intro u hu; simp only [List.mem_cons, List.not_mem_nil, or_false] at hu; rcases hu with rfl <;> rfl) rfl rfl rfl kp ?_
      refine ow_nil ?_
      refine x_qs ?_
      refine c_seq ?_
      refine c_reg ?_
      refine ow_batch [.p, .p, .p] rfl ?_
      refine ow_nil ?_
      refine x_qs ?_
      refine c_seq ?_
      refine c_reg ?_
      refine ow_batch [.p, .p, .p] rfl ?_
      refine ow_ixH rfl rfl rfl rfl rfl sl52 ty91 rfl (holeIn (p := 0) rfl) hn117 ha116 (idx_some h110).1 ?_
      refine ow_batch [.fa 91 9 11 fa91_9] rfl ?_
      refine ow_storeH (off := 11) [.int .i64 (IntKind.i64.wrap ((IntKind.i64.wrap (y149.1 + 1)) + 1))] (p := 0) (c' := [_, _, _, _, _, _, _, _, _, _, _, _]) rfl rfl rfl rfl rfl (by first | rfl | simp only [add_lit, add_add, add_zero]) rfl ty3 rfl rfl (by intro u hu; simp only [List.mem_cons, List.not_mem_nil, or_false] at hu; rcases hu with rfl <;> rfl) rfl rfl rfl kp ?_
      refine ow_nil ?_
      refine x_qs ?_
      refine c_reg ?_
      refine ow_batch [.p, .p, .p] rfl ?_
      refine ow_nil ?_
      refine x_qb ?_
      refine x_qs ?_
      refine c_reg ?_
      refine ow_batch [.p, .p, .p] rfl ?_
      refine ow_nil ?_
      refine xw_ex (fun w1 hw1 => fus_Timpl_Node (x0 := ((Int.tmod i55 3) == 0)) (x1 := IntKind.i64.wrap (i55 + 1)) (x2 := IntKind.i64.wrap ((IntKind.i64.wrap (i55 + 1)) + 1)) (x4 := y131.1) (x7 := y143.1) (x9 := y149.1) (x10 := IntKind.i64.wrap (y149.1 + 1)) (x11 := IntKind.i64.wrap ((IntKind.i64.wrap (y149.1 + 1)) + 1)) [1, 2, 3, 4] hw1 rfl rfl) (fun F155 => ?_)
      refine xw_st (C' := St w M0 [_, _, _, _, _, _]) (fun _ h => h) ?_
      refine xw_ex (fun w1 hw1 => unf (p := 0) (q := 5) hw1 rfl rfl rfl hn117 ha116) (fun F156 => ?_)
      refine xw_st (C' := St w M0 [_, _, _, _, _, _, _]) (fun _ h => h) ?_
      exact x_ql (RW.at (ihk1 ((l53.set i56.toNat (Timpl_Node.mk ((Int.tmod i55 3) == 0) (Timpl_Fork.mk (IntKind.i64.wrap (i55 + 1)) (IntKind.i64.wrap ((IntKind.i64.wrap (i55 + 1)) + 1))) y131.2 y131.1 (Timpl_Stats.mk y137.2 y143.2) y143.1 y149.2 y149.1 (IntKind.i64.wrap (y149.1 + 1)) (IntKind.i64.wrap ((IntKind.i64.wrap (y149.1 + 1)) + 1))))) (F156) (IntKind.i64.wrap ((IntKind.i64.wrap ((IntKind.i64.wrap (y149.1 + 1)) + 1)) + 1)) (IntKind.i64.wrap (i56 + 1)) (H)) (fun _ h => St.sel [6] rfl rfl h) ⟨rfl, rfl, rfl, trivial⟩)
    · have H := of_if_f hb H
      refine c_exit ?_
      refine x_qs_exit ?_
      refine x_ql_exit ?_
      refine x_qb_here ?_
      refine x_qs ?_
      refine c_seq ?_
      refine c_reg ?_
      refine ow_batch [.p, .p] rfl ?_
      refine ow_nil ?_
      refine x_qs ?_
      refine c_ret ?_
      exact x_retR (rs := [.tmp 4]) (vs := [.int .i64 i55]) rfl ⟨rfl, trivial⟩ (fun w' hw' => by
          obtain rfl := of_some H
          exact ⟨_, rfl, F54, rfl, hw'.sel [0] rfl rfl⟩)

set_option maxHeartbeats 4000000 in
set_option maxRecDepth 100000 in
theorem laws_markTree_ok (w : World) {M0 : List Nat} {p0 : Timpl_Tree} {p1 : Int} {a_0_0 : Option Addr} {n_0_0 c_0_0 : Nat} {F_0_0 : List Nat} {r : Int × Timpl_Tree} (H : laws_markTree p0 p1 = some r) (HS : St w M0 [Res.own (eList (eTimpl_Node) 91) F_0_0 p0.Nodes_ [.slice a_0_0 n_0_0 c_0_0]] w)  :
    Calls Try.prog 36 #[.agg #[.slice a_0_0 n_0_0 c_0_0, .int .i64 p0.Seen_], .int .i64 p1] w (fun en w' => ∃ v, en = .returned v ∧ ∃ (F0 : List Nat), v = .int .i64 r.1 ∧ St w M0 [Res.own (eList (eTimpl_Node) 91) F0 r.2.Nodes_ [.slice a_0_0 n_0_0 c_0_0]] w') := by
  obtain rfl := own_nS (i := 0) HS rfl
  unfold laws_markTree at H
  refine f_enter (vs := [.agg #[.slice a_0_0 p0.Nodes_.length c_0_0, .int .i64 p0.Seen_], .int .i64 p1]) Try.func36 rfl Try.ntmps36 rfl (HS) ?_
  refine c_seq ?_
  refine c_reg ?_
  refine ow_box (cs := [.slice a_0_0 p0.Nodes_.length c_0_0, .int .i64 p0.Seen_]) rfl rfl rfl rfl rfl rfl (fun _ => kp) (fun b1 => ?_)
  refine ow_batch [.p] rfl ?_
  refine ow_nil ?_
  refine x_qs ?_
  refine c_seq ?_
  refine c_reg ?_
  refine ow_batch [.fa 54 0 0 fa54_0] rfl ?_
  refine ow_r rfl (dstOk_lt rfl) (ry_box1 (off := 0) rfl rfl ty52 (boxIn (i := 1) rfl) rfl) ?_
  refine ow_batch [.p] rfl ?_
  obtain ⟨y2, h3, H⟩ := of_bind H
  refine ow_callS rfl fn67 rfl rfl rfl rfl (fun w1 hw1 => laws_markNodeS_ok w1  h3 (hw1.carve [0] rfl rfl)) (fun v4 w1 w2 hw1 hR6 => ?_)
  obtain ⟨F7, rfl, hS5⟩ := hR6
  refine ⟨St w M0 [_, _, _], hw1.comp [0] rfl rfl hS5, fun _ _ => trivial, ?_⟩
  refine ow_batch [.p] rfl ?_
  refine ow_nil ?_
  refine x_qs ?_
  refine c_seq ?_
  refine c_reg ?_
  refine ow_batch [.p, .p] rfl ?_
  refine ow_nil ?_
  refine x_qs ?_
  refine c_ret ?_
  exact x_retR (rs := [.tmp 4]) (vs := [.int .i64 y2.1]) rfl ⟨rfl, trivial⟩ (fun w' hw' => by
      obtain rfl := of_some H
      exact ⟨_, rfl, F7, rfl, hw'.sel [2] rfl rfl⟩)

set_option maxHeartbeats 4000000 in
set_option maxRecDepth 100000 in
theorem laws_heldIntS_ok (w : World) {p0 : List Int} {p1 : Int} {a_0 : Option Addr} {n_0 c_0 : Nat} {r : Int} (H : laws_heldIntS p0 p1 = some r)  (g0 : (eList (eVal (Value.int .i64) (fun _ => rfl)) 3).rd w [] p0 [.slice a_0 n_0 c_0]) :
    Calls Try.prog 21 #[.slice a_0 n_0 c_0, .int .i64 p1] w (fun en w' => en = .returned (.int .i64 r) ∧ Ext [] w w') := by
  obtain rfl := rd_n g0
  unfold laws_heldIntS at H
  refine f_enter (vs := [.slice a_0 p0.length c_0, .int .i64 p1]) Try.func21 rfl Try.ntmps21 rfl (St.init w []) ?_
  refine c_seq ?_
  refine c_reg ?_
  refine ow_batch [.p] rfl ?_
  refine ow_nil ?_
  refine x_qs ?_
  refine c_seq ?_
  refine c_seq ?_
  refine c_reg ?_
  refine ow_batch [.p] rfl ?_
  refine ow_nil ?_
  refine x_qs ?_
  refine c_block ?_
  refine CW.at (loopI2 (fun (i5 : Int) (i6 : Int) => St w [] []) (fun (i5 : Int) (i6 : Int) => [(0, .slice a_0 p0.length c_0), (1, .int .i64 i5), (5, .int .i64 i6)]) (fun kk => fun (i5 : Int) (i6 : Int) => laws_heldIntS_L1 p0 kk i5 i6 = some r) (fun _ _ H => ?_) (fun k1 ihk1 i5 i6 H => ?_) Fuel (p1) (0) (H)) (fun _ h => St.sel [] rfl rfl h) ⟨rfl, rfl, rfl,  trivial⟩
  · unfold laws_heldIntS_L1 at H
    exact absurd H (by simp)
  · unfold laws_heldIntS_L1 at H
    refine c_seq ?_
    refine c_seq ?_
    refine c_reg ?_
    refine ow_batch [.p, .p, .lenS 22 3 sl22, .p] rfl ?_
    refine ow_nil ?_
    refine x_qs ?_
    refine c_if rfl (fun hb => ?_) (fun hb => ?_)
    · have H := of_if_t hb H
      refine c_skip ?_
      refine x_qs ?_
      refine c_seq ?_
      refine c_block ?_
      refine c_seq ?_
      refine c_seq ?_
      refine c_reg ?_
      refine ow_batch [.p, .p] rfl ?_
      obtain ⟨e11, h12, H⟩ := of_bind H
      refine ow_ixE (e := eVal (Value.int .i64) (fun _ => rfl)) (xs := p0) (j := i6) rfl rfl rfl rfl rfl sl22 ty3 rfl (fun w1 hw1 => rds_bor g0 w1 hw1) h12 (by rw [Nat.mul_one]) ?_
      refine ow_r rfl (dstOk_lt rfl) (ry_load1 rfl rfl ty3 (at_elV (fun w1 hw1 => rds_bor g0 w1 hw1) h12)) ?_
      refine ow_batch [.p, .p] rfl ?_
      refine ow_nil ?_
      refine x_qs ?_
      refine c_if rfl (fun hb => ?_) (fun hb => ?_)
      · have H := of_if_t hb H
        refine c_seq ?_
        refine c_reg ?_
        refine ow_batch [.p] rfl ?_
        refine ow_nil ?_
        refine x_qs ?_
        refine c_ret ?_
        refine x_qs_ret ?_
        refine x_qb_ret ?_
        refine x_qs_ret ?_
        refine x_ql_ret ?_
        refine x_qb_ret ?_
        refine x_qs_ret ?_
        exact x_retR (rs := [.tmp 4]) (vs := [.int .i64 (-1)]) rfl ⟨rfl, trivial⟩ (fun w' hw' => by
            obtain rfl := of_some H
            exact ⟨rfl, hw'.ext⟩)
      · have H := of_if_f hb H
        refine c_skip ?_
        refine x_qs ?_
        refine c_reg ?_
        refine ow_batch [.p, .p, .p] rfl ?_
        refine ow_nil ?_
        refine x_qb ?_
        refine x_qs ?_
        refine c_reg ?_
        refine ow_batch [.p, .p, .p] rfl ?_
        refine ow_nil ?_
        exact x_ql (RW.at (ihk1 (IntKind.i64.wrap (i5 + 1)) (IntKind.i64.wrap (i6 + 1)) (H)) (fun _ h => St.sel [] rfl rfl h) ⟨rfl, rfl, rfl, trivial⟩)
    · have H := of_if_f hb H
      refine c_exit ?_
      refine x_qs_exit ?_
      refine x_ql_exit ?_
      refine x_qb_here ?_
      refine x_qs ?_
      refine c_seq ?_
      refine c_reg ?_
      refine ow_batch [.p, .p] rfl ?_
      refine ow_nil ?_
      refine x_qs ?_
      refine c_ret ?_
      exact x_retR (rs := [.tmp 4]) (vs := [.int .i64 i5]) rfl ⟨rfl, trivial⟩ (fun w' hw' => by
          obtain rfl := of_some H
          exact ⟨rfl, hw'.ext⟩)

set_option maxHeartbeats 4000000 in
set_option maxRecDepth 100000 in
theorem laws_heldIntSS_ok (w : World) {p0 : List (List Int)} {p1 : Int} {a_0 : Option Addr} {n_0 c_0 : Nat} {r : Int} (H : laws_heldIntSS p0 p1 = some r)  (g0 : (eList (eList (eVal (Value.int .i64) (fun _ => rfl)) 3) 22).rd w [] p0 [.slice a_0 n_0 c_0]) :
    Calls Try.prog 60 #[.slice a_0 n_0 c_0, .int .i64 p1] w (fun en w' => en = .returned (.int .i64 r) ∧ Ext [] w w') := by
  obtain rfl := rd_n g0
  unfold laws_heldIntSS at H
  refine f_enter (vs := [.slice a_0 p0.length c_0, .int .i64 p1]) Try.func60 rfl Try.ntmps60 rfl (St.init w []) ?_
  refine c_seq ?_
  refine c_reg ?_
  refine ow_batch [.p] rfl ?_
  refine ow_nil ?_
  refine x_qs ?_
  refine c_seq ?_
  refine c_seq ?_
  refine c_reg ?_
  refine ow_batch [.p] rfl ?_
  refine ow_nil ?_
  refine x_qs ?_
  refine c_block ?_
  refine CW.at (loopI2 (fun (i13 : Int) (i14 : Int) => St w [] []) (fun (i13 : Int) (i14 : Int) => [(0, .slice a_0 p0.length c_0), (1, .int .i64 i13), (5, .int .i64 i14)]) (fun kk => fun (i13 : Int) (i14 : Int) => laws_heldIntSS_L1 p0 kk i13 i14 = some r) (fun _ _ H => ?_) (fun k1 ihk1 i13 i14 H => ?_) Fuel (p1) (0) (H)) (fun _ h => St.sel [] rfl rfl h) ⟨rfl, rfl, rfl,  trivial⟩
  · unfold laws_heldIntSS_L1 at H
    exact absurd H (by simp)
  · unfold laws_heldIntSS_L1 at H
    refine c_seq ?_
    refine c_seq ?_
    refine c_reg ?_
    refine ow_batch [.p, .p, .lenS 35 22 sl35, .p] rfl ?_
    refine ow_nil ?_
    refine x_qs ?_
    refine c_if rfl (fun hb => ?_) (fun hb => ?_)
    · have H := of_if_t hb H
      refine c_skip ?_
      refine x_qs ?_
      refine c_seq ?_
      refine c_block ?_
      refine c_seq ?_
      refine c_reg ?_
      refine ow_batch [.p, .p] rfl ?_
      obtain ⟨e27, h28, H⟩ := of_bind H
      refine ow_ixB rfl rfl rfl rfl rfl sl35 ty22 rfl g0 h28 (fun q31 c32 hd29 hA30 => ?_)
      obtain ⟨a33, c34, rfl⟩ := rd_sl1 hd29
      refine ow_r rfl (dstOk_lt rfl) (ry_load1 rfl rfl ty22 (at_bor bor hA30)) ?_
      refine ow_batch [.p] rfl ?_
      obtain ⟨y35, h36, H⟩ := of_bind H
      refine ow_q rfl rfl (dstOk_lt rfl) (qy_call rfl fn21 rfl (fun w1 hw1 => laws_heldIntS_ok w1  h36 (rds_bor hd29 w1 hw1))) (fun _ _ => trivial) ?_
      refine ow_batch [.p] rfl ?_
      refine ow_nil ?_
      refine x_qs ?_
      refine c_seq ?_
      refine c_reg ?_
      refine ow_batch [.p, .p] rfl ?_
      refine ow_nil ?_
      refine x_qs ?_
      refine c_if rfl (fun hb => ?_) (fun hb => ?_)
      · have H := of_if_t hb H
        refine c_seq ?_
        refine c_reg ?_
        refine ow_batch [.p] rfl ?_
        refine ow_nil ?_
        refine x_qs ?_
        refine c_ret ?_
        refine x_qb_ret ?_
        refine x_qs_ret ?_
        refine x_ql_ret ?_
        refine x_qb_ret ?_
        refine x_qs_ret ?_
        exact x_retR (rs := [.tmp 4]) (vs := [.int .i64 (-1)]) rfl ⟨rfl, trivial⟩ (fun w' hw' => by
            obtain rfl := of_some H
            exact ⟨rfl, hw'.ext⟩)
      · have H := of_if_f hb H
        refine c_skip ?_
        refine x_qb ?_
        refine x_qs ?_
        refine c_reg ?_
        refine ow_batch [.p, .p, .p] rfl ?_
        refine ow_nil ?_
        exact x_ql (RW.at (ihk1 (y35) (IntKind.i64.wrap (i14 + 1)) (H)) (fun _ h => St.sel [] rfl rfl h) ⟨rfl, rfl, rfl, trivial⟩)
    · have H := of_if_f hb H
      refine c_exit ?_
      refine x_qs_exit ?_
      refine x_ql_exit ?_
      refine x_qb_here ?_
      refine x_qs ?_
      refine c_seq ?_
      refine c_reg ?_
      refine ow_batch [.p, .p] rfl ?_
      refine ow_nil ?_
      refine x_qs ?_
      refine c_ret ?_
      exact x_retR (rs := [.tmp 4]) (vs := [.int .i64 i13]) rfl ⟨rfl, trivial⟩ (fun w' hw' => by
          obtain rfl := of_some H
          exact ⟨rfl, hw'.ext⟩)

end Go.Vk
