/- The code does what the functions of data say. Printed by program. -/

import Derived.Test.YtjflgcighcjfkaaDoorWNodeTextA

namespace Go.Vk

open Go.Proofs Go.RowKit



set_option maxHeartbeats 4000000 in
set_option maxRecDepth 100000 in
theorem impl_WordOk_ok (w : World) {p0 : List UInt8}  {r : Bool} (H : impl_WordOk p0 = some r)   :
    Calls Tryd.prog 129 #[vS p0] w (fun en w' => en = .returned (.bool r) ∧ Ext [] w w') := by
  unfold impl_WordOk at H
  refine f_enter (vs := [vS p0]) Tryd.func129 rfl Tryd.ntmps129 rfl (St.init w []) ?_
  refine c_seq ?_
  refine c_reg ?_
  refine ow_batch [.p] rfl ?_
  refine ow_nil ?_
  refine x_qs ?_
  refine c_seq ?_
  refine c_seq ?_
  refine c_reg ?_
  refine ow_batch [.p, .lenT 9 st9] rfl ?_
  obtain ⟨y10, h11, H⟩ := of_bind H
  refine ow_q rfl rfl (dstOk_lt rfl) (qy_call rfl fn95 rfl (fun w1 hw1 => impl_within_ok w1  h11)) (fun _ _ => trivial) ?_
  refine ow_batch [.p] rfl ?_
  refine ow_nil ?_
  refine x_qs ?_
  refine c_if rfl (fun hb => ?_) (fun hb => ?_)
  · have H := of_if_t hb H
    refine c_seq ?_
    refine c_reg ?_
    refine ow_batch [.p] rfl ?_
    refine ow_nil ?_
    refine x_qs ?_
    refine c_ret ?_
    refine x_qs_ret ?_
    exact x_retR (rs := [.tmp 2]) (vs := [.bool false]) rfl ⟨rfl, trivial⟩ (fun w' hw' => by
        obtain rfl := of_some H
        exact ⟨rfl, hw'.ext⟩)
  · have H := of_if_f hb H
    refine c_skip ?_
    refine x_qs ?_
    refine c_seq ?_
    refine c_seq ?_
    refine c_reg ?_
    refine ow_batch [.p, .lenT 9 st9, .p] rfl ?_
    refine ow_nil ?_
    refine x_qs ?_
    refine c_block ?_
    refine CW.at (loopI1 (fun (i20 : Int) => St w [] []) (fun (i20 : Int) => [(0, vS p0), (9, .int .i64 (p0.length : Int)), (10, .int .i64 i20)]) (fun kk => fun (i20 : Int) => impl_WordOk_L1 p0 kk i20 = some r) (fun _ H => ?_) (fun k1 ihk1 i20 H => ?_) Fuel (0) (H)) (fun _ h => St.sel [] rfl rfl h) ⟨rfl, rfl, rfl,  trivial⟩
    · unfold impl_WordOk_L1 at H
      exact absurd H (by simp)
    · unfold impl_WordOk_L1 at H
      refine c_seq ?_
      refine c_reg ?_
      refine ow_batch [.p] rfl ?_
      refine ow_nil ?_
      refine x_qs ?_
      refine c_seq ?_
      refine c_if rfl (fun hb => ?_) (fun hb => ?_)
      · have H := of_if_t hb H
        refine c_skip ?_
        refine x_qs ?_
        refine c_seq ?_
        refine c_block ?_
        refine c_seq ?_
        refine c_reg ?_
        refine ow_batch [.p, .p] rfl ?_
        refine ow_nil ?_
        refine x_qs ?_
        refine c_seq ?_
        refine c_reg ?_
        refine ow_batch [.p, .p] rfl ?_
        obtain ⟨b29, h30, H⟩ := of_bind H
        refine ow_r rfl (dstOk_lt rfl) (ry_sidx (s := p0) rfl rfl rfl st9 h30) ?_
        refine ow_batch [.p, .p] rfl ?_
        obtain ⟨u31, hu35, H⟩ := of_bind H
        refine ow_cut [(22, .bool u31), (0, vS p0), (9, .int .i64 (p0.length : Int)), (10, .int .i64 i20)] 5 ?_ (fun key => OW.sub (R := [(0, vS p0), (3, .int .i64 i20), (9, .int .i64 (p0.length : Int)), (10, .int .i64 i20), (17, .bool (decide ((b29.toNat : Int) < 97)))]) ?_ ⟨rfl, rfl, rfl, rfl, rfl, trivial⟩)
        · refine ow_nil ?_
          refine x_qs ?_
          refine c_if rfl (fun hb => ?_) (fun hb => ?_)
          · have H := of_if_t hb H
            refine c_seq ?_
            refine c_reg ?_
            refine ow_batch [.p] rfl ?_
            refine ow_nil ?_
            refine x_qs ?_
            refine c_ret ?_
            refine x_qb_ret ?_
            refine x_qs_ret ?_
            refine x_ql_ret ?_
            refine x_qb_ret ?_
            refine x_qs_ret ?_
            exact x_retR (rs := [.tmp 2]) (vs := [.bool false]) rfl ⟨rfl, trivial⟩ (fun w' hw' => by
                obtain rfl := of_some H
                exact ⟨rfl, hw'.ext⟩)
          · have H := of_if_f hb H
            refine c_skip ?_
            refine x_qb ?_
            refine x_qs ?_
            refine c_reg ?_
            refine ow_batch [.p, .p] rfl ?_
            refine ow_nil ?_
            exact x_ql (RW.at (ihk1 (IntKind.i64.wrap (i20 + 1)) (H)) (fun _ h => St.sel [] rfl rfl h) ⟨rfl, rfl, rfl, trivial⟩)
        · clear H
          have H := hu35
          clear hu35
          generalize (decide ((b29.toNat : Int) < 97)) = t34 at H key ⊢
          cases t34
          · have H := of_if_f rfl H
            refine ow_batch [.p, .p] rfl ?_
            obtain ⟨b32, h33, H⟩ := of_bind H
            refine ow_r rfl (dstOk_lt rfl) (ry_sidx (s := p0) rfl rfl rfl st9 h33) ?_
            refine ow_batch [.p] rfl ?_
            refine ow_batch [.p] rfl ?_
            obtain rfl := of_some H
            exact OW.sub key ⟨rfl, rfl, rfl, rfl, trivial⟩
          · have H := of_if_t rfl H
            refine ow_batch [.p, .p, .p, .p, .p] rfl ?_
            obtain rfl := of_some H
            exact OW.sub key ⟨rfl, rfl, rfl, rfl, trivial⟩
      · have H := of_if_f hb H
        refine c_exit ?_
        refine x_qs_exit ?_
        refine x_ql_exit ?_
        refine x_qb_here ?_
        refine x_qs ?_
        refine c_seq ?_
        refine c_reg ?_
        refine ow_batch [.p] rfl ?_
        refine ow_nil ?_
        refine x_qs ?_
        refine c_ret ?_
        exact x_retR (rs := [.tmp 2]) (vs := [.bool true]) rfl ⟨rfl, trivial⟩ (fun w' hw' => by
            obtain rfl := of_some H
            exact ⟨rfl, hw'.ext⟩)

set_option maxHeartbeats 4000000 in
set_option maxRecDepth 100000 in
theorem lib_slices_Index___string_string__ok (w : World) {p0 : List (List UInt8)} {p1 : List UInt8} {a_0 : Option Addr} {n_0 c_0 : Nat} {r : Int} (H : lib_slices_Index___string_string_ p0 p1 = some r)  (g0 : (eList (eStr) 9).rd w [] p0 [.slice a_0 n_0 c_0]) :
    Calls Tryd.prog 143 #[.slice a_0 n_0 c_0, vS p1] w (fun en w' => en = .returned (.int .i64 r) ∧ Ext [] w w') := by
  obtain rfl := rd_n g0
  unfold lib_slices_Index___string_string_ at H
  refine f_enter (vs := [.slice a_0 p0.length c_0, vS p1]) Tryd.func143 rfl Tryd.ntmps143 rfl (St.init w []) ?_
  refine c_seq ?_
  refine c_reg ?_
  refine ow_batch [.p] rfl ?_
  refine ow_nil ?_
  refine x_qs ?_
  refine c_seq ?_
  refine c_seq ?_
  refine c_reg ?_
  refine ow_batch [.p, .lenS 48 9 sl48, .p] rfl ?_
  refine ow_nil ?_
  refine x_qs ?_
  refine c_block ?_
  refine CW.at (loopI1 (fun (i13 : Int) => St w [] []) (fun (i13 : Int) => [(0, .slice a_0 p0.length c_0), (1, vS p1), (7, .int .i64 (p0.length : Int)), (8, .int .i64 i13)]) (fun kk => fun (i13 : Int) => lib_slices_Index___string_string__L1 p0 p1 kk i13 = some r) (fun _ H => ?_) (fun k1 ihk1 i13 H => ?_) Fuel (0) (H)) (fun _ h => St.sel [] rfl rfl h) ⟨rfl, rfl, rfl, rfl,  trivial⟩
  · unfold lib_slices_Index___string_string__L1 at H
    exact absurd H (by simp)
  · unfold lib_slices_Index___string_string__L1 at H
    refine c_seq ?_
    refine c_reg ?_
    refine ow_batch [.p] rfl ?_
    refine ow_nil ?_
    refine x_qs ?_
    refine c_seq ?_
    refine c_if rfl (fun hb => ?_) (fun hb => ?_)
    · have H := of_if_t hb H
      refine c_skip ?_
      refine x_qs ?_
      refine c_seq ?_
      refine c_block ?_
      refine c_seq ?_
      refine c_reg ?_
      refine ow_batch [.p, .p] rfl ?_
      refine ow_nil ?_
      refine x_qs ?_
      refine c_seq ?_
      refine c_reg ?_
      refine ow_batch [.p, .p, .p] rfl ?_
      obtain ⟨e18, h19, H⟩ := of_bind H
      refine ow_ixE (e := eStr) (xs := p0) (j := i13) rfl rfl rfl rfl rfl sl48 ty9 rfl (fun w1 hw1 => rds_bor g0 w1 hw1) h19 (by rw [Nat.mul_one]) ?_
      refine ow_r rfl (dstOk_lt rfl) (ry_load1 rfl rfl ty9 (at_elV (fun w1 hw1 => rds_bor g0 w1 hw1) h19)) ?_
      refine ow_batch [.p] rfl ?_
      refine ow_nil ?_
      refine x_qs ?_
      refine c_if rfl (fun hb => ?_) (fun hb => ?_)
      · have H := of_if_t hb H
        refine c_seq ?_
        refine c_reg ?_
        refine ow_batch [.p, .p] rfl ?_
        refine ow_nil ?_
        refine x_qs ?_
        refine c_ret ?_
        refine x_qb_ret ?_
        refine x_qs_ret ?_
        refine x_ql_ret ?_
        refine x_qb_ret ?_
        refine x_qs_ret ?_
        exact x_retR (rs := [.tmp 4]) (vs := [.int .i64 i13]) rfl ⟨rfl, trivial⟩ (fun w' hw' => by
            obtain rfl := of_some H
            exact ⟨rfl, hw'.ext⟩)
      · have H := of_if_f hb H
        refine c_skip ?_
        refine x_qb ?_
        refine x_qs ?_
        refine c_reg ?_
        refine ow_batch [.p, .p] rfl ?_
        refine ow_nil ?_
        exact x_ql (RW.at (ihk1 (IntKind.i64.wrap (i13 + 1)) (H)) (fun _ h => St.sel [] rfl rfl h) ⟨rfl, rfl, rfl, rfl, trivial⟩)
    · have H := of_if_f hb H
      refine c_exit ?_
      refine x_qs_exit ?_
      refine x_ql_exit ?_
      refine x_qb_here ?_
      refine x_qs ?_
      refine c_seq ?_
      refine c_reg ?_
      refine ow_batch [.p] rfl ?_
      refine ow_nil ?_
      refine x_qs ?_
      refine c_ret ?_
      exact x_retR (rs := [.tmp 4]) (vs := [.int .i64 (-1)]) rfl ⟨rfl, trivial⟩ (fun w' hw' => by
          obtain rfl := of_some H
          exact ⟨rfl, hw'.ext⟩)

set_option maxHeartbeats 4000000 in
set_option maxRecDepth 100000 in
theorem lib_slices_Contains___string_string__ok (w : World) {p0 : List (List UInt8)} {p1 : List UInt8} {a_0 : Option Addr} {n_0 c_0 : Nat} {r : Bool} (H : lib_slices_Contains___string_string_ p0 p1 = some r)  (g0 : (eList (eStr) 9).rd w [] p0 [.slice a_0 n_0 c_0]) :
    Calls Tryd.prog 135 #[.slice a_0 n_0 c_0, vS p1] w (fun en w' => en = .returned (.bool r) ∧ Ext [] w w') := by
  obtain rfl := rd_n g0
  unfold lib_slices_Contains___string_string_ at H
  refine f_enter (vs := [.slice a_0 p0.length c_0, vS p1]) Tryd.func135 rfl Tryd.ntmps135 rfl (St.init w []) ?_
  refine c_seq ?_
  refine c_reg ?_
  refine ow_batch [.p] rfl ?_
  refine ow_nil ?_
  refine x_qs ?_
  refine c_seq ?_
  refine c_reg ?_
  refine ow_batch [.p, .p] rfl ?_
  obtain ⟨y10, h11, H⟩ := of_bind H
  refine ow_q rfl rfl (dstOk_lt rfl) (qy_call rfl fn143 rfl (fun w1 hw1 => lib_slices_Index___string_string__ok w1  h11 (rds_bor g0 w1 hw1))) (fun _ _ => trivial) ?_
  refine ow_batch [.p, .p] rfl ?_
  refine ow_nil ?_
  refine x_qs ?_
  refine c_ret ?_
  exact x_retR (rs := [.tmp 4]) (vs := [.bool (decide (y10 ≥ 0))]) rfl ⟨rfl, trivial⟩ (fun w' hw' => by
      obtain rfl := of_some H
      exact ⟨rfl, hw'.ext⟩)

set_option maxHeartbeats 4000000 in
set_option maxRecDepth 100000 in
theorem impl_distinctWords_ok (w : World) {p0 : List (List UInt8)} {a_0 : Option Addr} {n_0 c_0 : Nat} {r : Bool} (H : impl_distinctWords p0 = some r)  (g0 : (eList (eStr) 9).rd w [] p0 [.slice a_0 n_0 c_0]) :
    Calls Tryd.prog 128 #[.slice a_0 n_0 c_0] w (fun en w' => en = .returned (.bool r) ∧ Ext [] w w') := by
  obtain rfl := rd_n g0
  unfold impl_distinctWords at H
  refine f_enter (vs := [.slice a_0 p0.length c_0]) Tryd.func128 rfl Tryd.ntmps128 rfl (St.init w []) ?_
  refine c_seq ?_
  refine c_reg ?_
  refine ow_batch [.p] rfl ?_
  refine ow_nil ?_
  refine x_qs ?_
  refine c_seq ?_
  refine c_seq ?_
  refine c_reg ?_
  refine ow_batch [.p, .lenS 48 9 sl48, .p] rfl ?_
  refine ow_nil ?_
  refine x_qs ?_
  refine c_block ?_
  refine CW.at (loopI1 (fun (i26 : Int) => St w [] []) (fun (i26 : Int) => [(0, .slice a_0 p0.length c_0), (5, .slice a_0 p0.length c_0), (6, .int .i64 (p0.length : Int)), (7, .int .i64 i26)]) (fun kk => fun (i26 : Int) => impl_distinctWords_L1 p0 kk i26 = some r) (fun _ H => ?_) (fun k1 ihk1 i26 H => ?_) Fuel (0) (H)) (fun _ h => St.sel [] rfl rfl h) ⟨rfl, rfl, rfl, rfl,  trivial⟩
  · unfold impl_distinctWords_L1 at H
    exact absurd H (by simp)
  · unfold impl_distinctWords_L1 at H
    refine c_seq ?_
    refine c_reg ?_
    refine ow_batch [.p] rfl ?_
    refine ow_nil ?_
    refine x_qs ?_
    refine c_seq ?_
    refine c_if rfl (fun hb => ?_) (fun hb => ?_)
    · have H := of_if_t hb H
      refine c_skip ?_
      refine x_qs ?_
      refine c_seq ?_
      refine c_block ?_
      refine c_seq ?_
      refine c_reg ?_
      refine ow_batch [.p] rfl ?_
      obtain ⟨e43, h44, H⟩ := of_bind H
      refine ow_ixE (e := eStr) (xs := p0) (j := i26) rfl rfl rfl rfl rfl sl48 ty9 rfl (fun w1 hw1 => rds_bor g0 w1 hw1) h44 (by rw [Nat.mul_one]) ?_
      refine ow_r rfl (dstOk_lt rfl) (ry_load1 rfl rfl ty9 (at_elV (fun w1 hw1 => rds_bor g0 w1 hw1) h44)) ?_
      refine ow_batch [.p, .p] rfl ?_
      refine ow_nil ?_
      refine x_qs ?_
      refine c_seq ?_
      refine c_reg ?_
      refine ow_batch [.p] rfl ?_
      obtain ⟨y45, h46, H⟩ := of_bind H
      refine ow_q rfl rfl (dstOk_lt rfl) (qy_call rfl fn129 rfl (fun w1 hw1 => impl_WordOk_ok w1  h46)) (fun _ _ => trivial) ?_
      refine ow_batch [.p, .p] rfl ?_
      obtain ⟨u47, hu57, H⟩ := of_bind H
      refine ow_cut [(21, .bool u47), (0, .slice a_0 p0.length c_0), (5, .slice a_0 p0.length c_0), (6, .int .i64 (p0.length : Int)), (7, .int .i64 i26)] 6 ?_ (fun key => OW.sub (R := [(0, .slice a_0 p0.length c_0), (3, .int .i64 i26), (4, vS e43), (5, .slice a_0 p0.length c_0), (6, .int .i64 (p0.length : Int)), (7, .int .i64 i26), (15, .bool (!y45))]) ?_ ⟨rfl, rfl, rfl, rfl, rfl, rfl, rfl, trivial⟩)
      · refine ow_nil ?_
        refine x_qs ?_
        refine c_if rfl (fun hb => ?_) (fun hb => ?_)
        · have H := of_if_t hb H
          refine c_seq ?_
          refine c_reg ?_
          refine ow_batch [.p] rfl ?_
          refine ow_nil ?_
          refine x_qs ?_
          refine c_ret ?_
          refine x_qb_ret ?_
          refine x_qs_ret ?_
          refine x_ql_ret ?_
          refine x_qb_ret ?_
          refine x_qs_ret ?_
          exact x_retR (rs := [.tmp 2]) (vs := [.bool false]) rfl ⟨rfl, trivial⟩ (fun w' hw' => by
              obtain rfl := of_some H
              exact ⟨rfl, hw'.ext⟩)
        · have H := of_if_f hb H
          refine c_skip ?_
          refine x_qb ?_
          refine x_qs ?_
          refine c_reg ?_
          refine ow_batch [.p, .p] rfl ?_
          refine ow_nil ?_
          exact x_ql (RW.at (ihk1 (IntKind.i64.wrap (i26 + 1)) (H)) (fun _ h => St.sel [] rfl rfl h) ⟨rfl, rfl, rfl, rfl, trivial⟩)
      · clear H
        have H := hu57
        clear hu57
        generalize (!y45) = t56 at H key ⊢
        cases t56
        · have H := of_if_f rfl H
          refine ow_batch [.p, .p] rfl ?_
          obtain ⟨l48, h49, H⟩ := of_bind H
          refine ow_lsub rfl rfl rfl rfl sl48 ty9 rfl rfl rfl h49 g0 (fun v51 h50 => ?_)
          obtain ⟨a52, c53, rfl⟩ := rd_sl h50
          refine ow_batch [.p] rfl ?_
          obtain ⟨y54, h55, H⟩ := of_bind H
          refine ow_q rfl rfl (dstOk_lt rfl) (qy_call rfl fn135 rfl (fun w1 hw1 => lib_slices_Contains___string_string__ok w1  h55 (rds_bor h50 w1 hw1))) (fun _ _ => trivial) ?_
          refine ow_batch [.p] rfl ?_
          obtain rfl := of_some H
          exact OW.sub key ⟨rfl, rfl, rfl, rfl, rfl, trivial⟩
        · have H := of_if_t rfl H
          refine ow_batch [.p, .p, .p, .p, .p, .p] rfl ?_
          obtain rfl := of_some H
          exact OW.sub key ⟨rfl, rfl, rfl, rfl, rfl, trivial⟩
    · have H := of_if_f hb H
      refine c_exit ?_
      refine x_qs_exit ?_
      refine x_ql_exit ?_
      refine x_qb_here ?_
      refine x_qs ?_
      refine c_seq ?_
      refine c_reg ?_
      refine ow_batch [.p] rfl ?_
      refine ow_nil ?_
      refine x_qs ?_
      refine c_ret ?_
      exact x_retR (rs := [.tmp 2]) (vs := [.bool true]) rfl ⟨rfl, trivial⟩ (fun w' hw' => by
          obtain rfl := of_some H
          exact ⟨rfl, hw'.ext⟩)

set_option maxHeartbeats 4000000 in
set_option maxRecDepth 100000 in
theorem impl_ascending_ok (w : World) {p0 : List Int} {a_0 : Option Addr} {n_0 c_0 : Nat} {r : Bool} (H : impl_ascending p0 = some r)  (g0 : (eList (eVal (Value.int .i64) (fun _ => rfl)) 3).rd w [] p0 [.slice a_0 n_0 c_0]) :
    Calls Tryd.prog 136 #[.slice a_0 n_0 c_0] w (fun en w' => en = .returned (.bool r) ∧ Ext [] w w') := by
  obtain rfl := rd_n g0
  unfold impl_ascending at H
  refine f_enter (vs := [.slice a_0 p0.length c_0]) Tryd.func136 rfl Tryd.ntmps136 rfl (St.init w []) ?_
  refine c_seq ?_
  refine c_reg ?_
  refine ow_batch [.p] rfl ?_
  refine ow_nil ?_
  refine x_qs ?_
  refine c_seq ?_
  refine c_seq ?_
  refine c_reg ?_
  refine ow_batch [.p] rfl ?_
  refine ow_nil ?_
  refine x_qs ?_
  refine c_block ?_
  refine CW.at (loopI1 (fun (i15 : Int) => St w [] []) (fun (i15 : Int) => [(0, .slice a_0 p0.length c_0), (3, .int .i64 i15)]) (fun kk => fun (i15 : Int) => impl_ascending_L1 p0 kk i15 = some r) (fun _ H => ?_) (fun k1 ihk1 i15 H => ?_) Fuel (1) (H)) (fun _ h => St.sel [] rfl rfl h) ⟨rfl, rfl,  trivial⟩
  · unfold impl_ascending_L1 at H
    exact absurd H (by simp)
  · unfold impl_ascending_L1 at H
    refine c_seq ?_
    refine c_seq ?_
    refine c_reg ?_
    refine ow_batch [.p, .p, .lenS 22 3 sl22, .p] rfl ?_
    refine ow_nil ?_
    refine x_qs ?_
    refine c_if rfl (fun hb => ?_) (fun hb => ?_)
    · have H := of_if_t hb H
      refine c_skip ?_
      refine x_qs ?_
      refine c_seq ?_
      refine c_block ?_
      refine c_seq ?_
      refine c_regQ mixed (by kernel_rfl) ?_
      refine ow_batch [.p, .p] rfl ?_
      obtain ⟨e21, h22, H⟩ := of_bind H
      refine ow_ixE (e := eVal (Value.int .i64) (fun _ => rfl)) (xs := p0) (j := i15) rfl rfl rfl rfl rfl sl22 ty3 rfl (fun w1 hw1 => rds_bor g0 w1 hw1) h22 (by rw [Nat.mul_one]) ?_
      refine ow_r rfl (dstOk_lt rfl) (ry_load1 rfl rfl ty3 (at_elV (fun w1 hw1 => rds_bor g0 w1 hw1) h22)) ?_
      refine ow_batch [.p, .p, .p] rfl ?_
      obtain ⟨e23, h24, H⟩ := of_bind H
      refine ow_ixE (e := eVal (Value.int .i64) (fun _ => rfl)) (xs := p0) (j := IntKind.i64.wrap (i15 - 1)) rfl rfl rfl rfl rfl sl22 ty3 rfl (fun w1 hw1 => rds_bor g0 w1 hw1) h24 (by rw [Nat.mul_one]) ?_
      refine ow_r rfl (dstOk_lt rfl) (ry_load1 rfl rfl ty3 (at_elV (fun w1 hw1 => rds_bor g0 w1 hw1) h24)) ?_
      refine ow_batch [.p] rfl ?_
      refine ow_nilQ ?_
      refine x_qs ?_
      refine c_if rfl (fun hb => ?_) (fun hb => ?_)
      · have H := of_if_t hb H
        refine c_seq ?_
        refine c_reg ?_
        refine ow_batch [.p] rfl ?_
        refine ow_nil ?_
        refine x_qs ?_
        refine c_ret ?_
        refine x_qb_ret ?_
        refine x_qs_ret ?_
        refine x_ql_ret ?_
        refine x_qb_ret ?_
        refine x_qs_ret ?_
        exact x_retR (rs := [.tmp 2]) (vs := [.bool false]) rfl ⟨rfl, trivial⟩ (fun w' hw' => by
            obtain rfl := of_some H
            exact ⟨rfl, hw'.ext⟩)
      · have H := of_if_f hb H
        refine c_skip ?_
        refine x_qb ?_
        refine x_qs ?_
        refine c_reg ?_
        refine ow_batch [.p, .p, .p] rfl ?_
        refine ow_nil ?_
        exact x_ql (RW.at (ihk1 (IntKind.i64.wrap (i15 + 1)) (H)) (fun _ h => St.sel [] rfl rfl h) ⟨rfl, rfl, trivial⟩)
    · have H := of_if_f hb H
      refine c_exit ?_
      refine x_qs_exit ?_
      refine x_ql_exit ?_
      refine x_qb_here ?_
      refine x_qs ?_
      refine c_seq ?_
      refine c_reg ?_
      refine ow_batch [.p] rfl ?_
      refine ow_nil ?_
      refine x_qs ?_
      refine c_ret ?_
      exact x_retR (rs := [.tmp 2]) (vs := [.bool true]) rfl ⟨rfl, trivial⟩ (fun w' hw' => by
          obtain rfl := of_some H
          exact ⟨rfl, hw'.ext⟩)

set_option maxHeartbeats 4000000 in
set_option maxRecDepth 100000 in
theorem impl_isCut_ok (w : World) {p0 : Int}  {r : Bool} (H : impl_isCut p0 = some r)   :
    Calls Tryd.prog 138 #[.int .i64 p0] w (fun en w' => en = .returned (.bool r) ∧ Ext [] w w') := by
  unfold impl_isCut at H
  refine f_enter (vs := [.int .i64 p0]) Tryd.func138 rfl Tryd.ntmps138 rfl (St.init w []) ?_
  refine c_seq ?_
  refine c_reg ?_
  refine ow_batch [.p] rfl ?_
  refine ow_nil ?_
  refine x_qs ?_
  refine c_seq ?_
  refine c_reg ?_
  refine ow_batch [.p] rfl ?_
  obtain ⟨y10, h11, H⟩ := of_bind H
  refine ow_q rfl rfl (dstOk_lt rfl) (qy_call rfl fn95 rfl (fun w1 hw1 => impl_within_ok w1  h11)) (fun _ _ => trivial) ?_
  refine ow_batch [.p] rfl ?_
  refine ow_nil ?_
  refine x_qs ?_
  refine c_ret ?_
  exact x_retR (rs := [.tmp 2]) (vs := [.bool y10]) rfl ⟨rfl, trivial⟩ (fun w' hw' => by
      obtain rfl := of_some H
      exact ⟨rfl, hw'.ext⟩)

set_option maxHeartbeats 4000000 in
set_option maxRecDepth 100000 in
theorem impl_CutsOk_1_ok (w : World) {p0 : Int}  {r : Bool} (H : impl_CutsOk_1 p0 = some r)   :
    Calls Tryd.prog 137 #[.int .i64 p0] w (fun en w' => en = .returned (.bool r) ∧ Ext [] w w') := by
  unfold impl_CutsOk_1 at H
  refine f_enter (vs := [.int .i64 p0]) Tryd.func137 rfl Tryd.ntmps137 rfl (St.init w []) ?_
  refine c_seq ?_
  refine c_reg ?_
  refine ow_batch [.p] rfl ?_
  refine ow_nil ?_
  refine x_qs ?_
  refine c_seq ?_
  refine c_reg ?_
  refine ow_batch [.p] rfl ?_
  obtain ⟨y10, h11, H⟩ := of_bind H
  refine ow_q rfl rfl (dstOk_lt rfl) (qy_call rfl fn138 rfl (fun w1 hw1 => impl_isCut_ok w1  h11)) (fun _ _ => trivial) ?_
  refine ow_batch [.p, .p] rfl ?_
  refine ow_nil ?_
  refine x_qs ?_
  refine c_ret ?_
  exact x_retR (rs := [.tmp 2]) (vs := [.bool (!y10)]) rfl ⟨rfl, trivial⟩ (fun w' hw' => by
      obtain rfl := of_some H
      exact ⟨rfl, hw'.ext⟩)

set_option maxHeartbeats 4000000 in
set_option maxRecDepth 100000 in
theorem lib_slices_IndexFunc___int_int___impl_CutsOk_1_ok (w : World) {p0 : List Int} {a_0 : Option Addr} {n_0 c_0 : Nat} {r : Int} (H : lib_slices_IndexFunc___int_int___impl_CutsOk_1 p0 = some r)  (g0 : (eList (eVal (Value.int .i64) (fun _ => rfl)) 3).rd w [] p0 [.slice a_0 n_0 c_0]) :
    Calls Tryd.prog 122 #[.slice a_0 n_0 c_0, .func (.func 137) #[] #[]] w (fun en w' => en = .returned (.int .i64 r) ∧ Ext [] w w') := by
  obtain rfl := rd_n g0
  unfold lib_slices_IndexFunc___int_int___impl_CutsOk_1 at H
  refine f_enter (vs := [.slice a_0 p0.length c_0, .func (.func 137) #[] #[]]) Tryd.func122 rfl Tryd.ntmps122 rfl (St.init w []) ?_
  refine c_seq ?_
  refine c_reg ?_
  refine ow_batch [.p] rfl ?_
  refine ow_nil ?_
  refine x_qs ?_
  refine c_seq ?_
  refine c_seq ?_
  refine c_reg ?_
  refine ow_batch [.p, .lenS 22 3 sl22, .p] rfl ?_
  refine ow_nil ?_
  refine x_qs ?_
  refine c_block ?_
  refine CW.at (loopI1 (fun (i15 : Int) => St w [] []) (fun (i15 : Int) => [(0, .slice a_0 p0.length c_0), (1, .func (.func 137) #[] #[]), (7, .int .i64 (p0.length : Int)), (8, .int .i64 i15)]) (fun kk => fun (i15 : Int) => lib_slices_IndexFunc___int_int___impl_CutsOk_1_L1 p0 kk i15 = some r) (fun _ H => ?_) (fun k1 ihk1 i15 H => ?_) Fuel (0) (H)) (fun _ h => St.sel [] rfl rfl h) ⟨rfl, rfl, rfl, rfl,  trivial⟩
  · unfold lib_slices_IndexFunc___int_int___impl_CutsOk_1_L1 at H
    exact absurd H (by simp)
  · unfold lib_slices_IndexFunc___int_int___impl_CutsOk_1_L1 at H
    refine c_seq ?_
    refine c_reg ?_
    refine ow_batch [.p] rfl ?_
    refine ow_nil ?_
    refine x_qs ?_
    refine c_seq ?_
    refine c_if rfl (fun hb => ?_) (fun hb => ?_)
    · have H := of_if_t hb H
      refine c_skip ?_
      refine x_qs ?_
      refine c_seq ?_
      refine c_block ?_
      refine c_seq ?_
      refine c_reg ?_
      refine ow_batch [.p, .p] rfl ?_
      refine ow_nil ?_
      refine x_qs ?_
      refine c_seq ?_
      refine c_reg ?_
      refine ow_batch [.p, .p, .p] rfl ?_
      obtain ⟨e21, h22, H⟩ := of_bind H
      refine ow_ixE (e := eVal (Value.int .i64) (fun _ => rfl)) (xs := p0) (j := i15) rfl rfl rfl rfl rfl sl22 ty3 rfl (fun w1 hw1 => rds_bor g0 w1 hw1) h22 (by rw [Nat.mul_one]) ?_
      refine ow_r rfl (dstOk_lt rfl) (ry_load1 rfl rfl ty3 (at_elV (fun w1 hw1 => rds_bor g0 w1 hw1) h22)) ?_
      obtain ⟨y23, h24, H⟩ := of_bind H
      refine ow_q rfl rfl (dstOk_lt rfl) (qy_callV (cap := []) rfl fn137 rfl rfl (fun w1 hw1 => impl_CutsOk_1_ok w1  h24)) (fun _ _ => trivial) ?_
      refine ow_nil ?_
      refine x_qs ?_
      refine c_if rfl (fun hb => ?_) (fun hb => ?_)
      · have H := of_if_t hb H
        refine c_seq ?_
        refine c_reg ?_
        refine ow_batch [.p, .p] rfl ?_
        refine ow_nil ?_
        refine x_qs ?_
        refine c_ret ?_
        refine x_qb_ret ?_
        refine x_qs_ret ?_
        refine x_ql_ret ?_
        refine x_qb_ret ?_
        refine x_qs_ret ?_
        exact x_retR (rs := [.tmp 4]) (vs := [.int .i64 i15]) rfl ⟨rfl, trivial⟩ (fun w' hw' => by
            obtain rfl := of_some H
            exact ⟨rfl, hw'.ext⟩)
      · have H := of_if_f hb H
        refine c_skip ?_
        refine x_qb ?_
        refine x_qs ?_
        refine c_reg ?_
        refine ow_batch [.p, .p] rfl ?_
        refine ow_nil ?_
        exact x_ql (RW.at (ihk1 (IntKind.i64.wrap (i15 + 1)) (H)) (fun _ h => St.sel [] rfl rfl h) ⟨rfl, rfl, rfl, rfl, trivial⟩)
    · have H := of_if_f hb H
      refine c_exit ?_
      refine x_qs_exit ?_
      refine x_ql_exit ?_
      refine x_qb_here ?_
      refine x_qs ?_
      refine c_seq ?_
      refine c_reg ?_
      refine ow_batch [.p] rfl ?_
      refine ow_nil ?_
      refine x_qs ?_
      refine c_ret ?_
      exact x_retR (rs := [.tmp 4]) (vs := [.int .i64 (-1)]) rfl ⟨rfl, trivial⟩ (fun w' hw' => by
          obtain rfl := of_some H
          exact ⟨rfl, hw'.ext⟩)

set_option maxHeartbeats 4000000 in
set_option maxRecDepth 100000 in
theorem lib_slices_ContainsFunc___int_int___impl_CutsOk_1_ok (w : World) {p0 : List Int} {a_0 : Option Addr} {n_0 c_0 : Nat} {r : Bool} (H : lib_slices_ContainsFunc___int_int___impl_CutsOk_1 p0 = some r)  (g0 : (eList (eVal (Value.int .i64) (fun _ => rfl)) 3).rd w [] p0 [.slice a_0 n_0 c_0]) :
    Calls Tryd.prog 96 #[.slice a_0 n_0 c_0, .func (.func 137) #[] #[]] w (fun en w' => en = .returned (.bool r) ∧ Ext [] w w') := by
  obtain rfl := rd_n g0
  unfold lib_slices_ContainsFunc___int_int___impl_CutsOk_1 at H
  refine f_enter (vs := [.slice a_0 p0.length c_0, .func (.func 137) #[] #[]]) Tryd.func96 rfl Tryd.ntmps96 rfl (St.init w []) ?_
  refine c_seq ?_
  refine c_reg ?_
  refine ow_batch [.p] rfl ?_
  refine ow_nil ?_
  refine x_qs ?_
  refine c_seq ?_
  refine c_reg ?_
  refine ow_batch [.p, .p] rfl ?_
  obtain ⟨y10, h11, H⟩ := of_bind H
  refine ow_q rfl rfl (dstOk_lt rfl) (qy_call rfl fn122 rfl (fun w1 hw1 => lib_slices_IndexFunc___int_int___impl_CutsOk_1_ok w1  h11 (rds_bor g0 w1 hw1))) (fun _ _ => trivial) ?_
  refine ow_batch [.p, .p] rfl ?_
  refine ow_nil ?_
  refine x_qs ?_
  refine c_ret ?_
  exact x_retR (rs := [.tmp 4]) (vs := [.bool (decide (y10 ≥ 0))]) rfl ⟨rfl, trivial⟩ (fun w' hw' => by
      obtain rfl := of_some H
      exact ⟨rfl, hw'.ext⟩)

set_option maxHeartbeats 4000000 in
set_option maxRecDepth 100000 in
theorem impl_CutsOk_ok (w : World) {p0 : List Int} {a_0 : Option Addr} {n_0 c_0 : Nat} {r : Bool} (H : impl_CutsOk p0 = some r)  (g0 : (eList (eVal (Value.int .i64) (fun _ => rfl)) 3).rd w [] p0 [.slice a_0 n_0 c_0]) :
    Calls Tryd.prog 130 #[.slice a_0 n_0 c_0] w (fun en w' => en = .returned (.bool r) ∧ Ext [] w w') := by
  obtain rfl := rd_n g0
  unfold impl_CutsOk at H
  refine f_enter (vs := [.slice a_0 p0.length c_0]) Tryd.func130 rfl Tryd.ntmps130 rfl (St.init w []) ?_
  refine c_seq ?_
  refine c_reg ?_
  refine ow_batch [.p] rfl ?_
  refine ow_nil ?_
  refine x_qs ?_
  refine c_seq ?_
  refine c_reg ?_
  refine ow_batch [.p, .lenS 22 3 sl22] rfl ?_
  obtain ⟨y10, h11, H⟩ := of_bind H
  refine ow_q rfl rfl (dstOk_lt rfl) (qy_call rfl fn95 rfl (fun w1 hw1 => impl_within_ok w1  h11)) (fun _ _ => trivial) ?_
  refine ow_batch [.p] rfl ?_
  obtain ⟨u12, hu16, H⟩ := of_bind H
  refine ow_cut [(9, .bool u12), (0, .slice a_0 p0.length c_0), (2, .bool false)] 3 ?_ (fun key => OW.sub (R := [(0, .slice a_0 p0.length c_0), (2, .bool false), (6, .bool y10)]) ?_ ⟨rfl, rfl, rfl, trivial⟩)
  · refine ow_batch [.p] rfl ?_
    obtain ⟨u17, hu21, H⟩ := of_bind H
    refine ow_cut [(14, .bool u17), (2, .bool false)] 4 ?_ (fun key => OW.sub (R := [(0, .slice a_0 p0.length c_0), (2, .bool false), (10, .bool u12)]) ?_ ⟨rfl, rfl, rfl, trivial⟩)
    · refine ow_batch [.p] rfl ?_
      refine ow_nil ?_
      refine x_qs ?_
      refine c_ret ?_
      exact x_retR (rs := [.tmp 2]) (vs := [.bool u17]) rfl ⟨rfl, trivial⟩ (fun w' hw' => by
          obtain rfl := of_some H
          exact ⟨rfl, hw'.ext⟩)
    · clear H
      have H := hu21
      clear hu21
      generalize u12 = t20 at H key ⊢
      cases t20
      · have H := of_if_f rfl H
        refine ow_batch [.p, .p, .p, .p] rfl ?_
        obtain rfl := of_some H
        exact OW.sub key ⟨rfl, rfl, trivial⟩
      · have H := of_if_t rfl H
        refine ow_batch [.p] rfl ?_
        obtain ⟨y18, h19, H⟩ := of_bind H
        refine ow_q rfl rfl (dstOk_lt rfl) (qy_call rfl fn96 rfl (fun w1 hw1 => lib_slices_ContainsFunc___int_int___impl_CutsOk_1_ok w1  h19 (rds_bor g0 w1 hw1))) (fun _ _ => trivial) ?_
        refine ow_batch [.p] rfl ?_
        refine ow_batch [.p] rfl ?_
        obtain rfl := of_some H
        exact OW.sub key ⟨rfl, rfl, trivial⟩
  · clear H
    have H := hu16
    clear hu16
    generalize y10 = t15 at H key ⊢
    cases t15
    · have H := of_if_f rfl H
      refine ow_batch [.p, .p, .p] rfl ?_
      obtain rfl := of_some H
      exact OW.sub key ⟨rfl, rfl, rfl, trivial⟩
    · have H := of_if_t rfl H
      refine ow_batch [.p] rfl ?_
      obtain ⟨y13, h14, H⟩ := of_bind H
      refine ow_q rfl rfl (dstOk_lt rfl) (qy_call rfl fn136 rfl (fun w1 hw1 => impl_ascending_ok w1  h14 (rds_bor g0 w1 hw1))) (fun _ _ => trivial) ?_
      refine ow_batch [.p] rfl ?_
      obtain rfl := of_some H
      exact OW.sub key ⟨rfl, rfl, rfl, trivial⟩

set_option maxHeartbeats 4000000 in
set_option maxRecDepth 100000 in
theorem impl_AttrOk_ok (w : World) {p0 : Timpl_Attr} {cs0 : List Value} {r : Bool} (H : impl_AttrOk p0 = some r)  (g0 : (eTimpl_Attr).rd w [] p0 cs0) :
    Calls Tryd.prog 115 #[.agg cs0.toArray] w (fun en w' => en = .returned (.bool r) ∧ Ext [] w w') := by
  obtain ⟨c10, c11, c12, rfl, g13, g14, g15⟩ := rdo_Timpl_Attr g0
  obtain rfl : c10 = [vS p0.Name_] := g13
  obtain ⟨a16, c17, rfl⟩ := rd_sl1 g14
  obtain ⟨a18, c19, rfl⟩ := rd_sl1 g15
  unfold impl_AttrOk at H
  refine f_enter (vs := [.agg #[vS p0.Name_, .slice a16 p0.Cuts_.length c17, .slice a18 p0.Values_.length c19]]) Tryd.func115 rfl Tryd.ntmps115 rfl (St.init w []) ?_
  refine c_seq ?_
  refine c_reg ?_
  refine ow_box (cs := [vS p0.Name_, .slice a16 p0.Cuts_.length c17, .slice a18 p0.Values_.length c19]) rfl rfl rfl rfl rfl rfl (fun _ => kp) (fun b20 => ?_)
  refine ow_batch [.p] rfl ?_
  refine ow_nil ?_
  refine x_qs ?_
  refine c_seq ?_
  refine c_seq ?_
  refine c_reg ?_
  refine ow_batch [.fa 105 0 0 fa105_0] rfl ?_
  refine ow_r rfl (dstOk_lt rfl) (ry_box1 (off := 0) rfl rfl ty9 (boxIn (i := 0) rfl) rfl) ?_
  obtain ⟨y21, h22, H⟩ := of_bind H
  refine ow_q rfl rfl (dstOk_lt rfl) (qy_call rfl fn129 rfl (fun w1 hw1 => impl_WordOk_ok w1  h22)) (fun _ _ => trivial) ?_
  refine ow_batch [.p] rfl ?_
  refine ow_nil ?_
  refine x_qs ?_
  refine c_if rfl (fun hb => ?_) (fun hb => ?_)
  · have H := of_if_t hb H
    refine c_seq ?_
    refine c_reg ?_
    refine ow_batch [.p] rfl ?_
    refine ow_nil ?_
    refine x_qs ?_
    refine c_ret ?_
    refine x_qs_ret ?_
    exact x_retR (rs := [.tmp 2]) (vs := [.bool false]) rfl ⟨rfl, trivial⟩ (fun w' hw' => by
        obtain rfl := of_some H
        exact ⟨rfl, hw'.ext⟩)
  · have H := of_if_f hb H
    refine c_skip ?_
    refine x_qs ?_
    refine c_seq ?_
    refine c_seq ?_
    refine c_reg ?_
    refine ow_batch [.fa 105 1 1 fa105_1] rfl ?_
    refine ow_r rfl (dstOk_lt rfl) (ry_box1 (off := 1) rfl rfl ty22 (boxIn (i := 0) rfl) rfl) ?_
    refine ow_batch [.lenS 22 3 sl22, .p] rfl ?_
    refine ow_nil ?_
    refine x_qs ?_
    refine c_if rfl (fun hb => ?_) (fun hb => ?_)
    · have H := of_if_t hb H
      refine c_seq ?_
      refine c_reg ?_
      refine ow_batch [.fa 105 2 2 fa105_2] rfl ?_
      refine ow_r rfl (dstOk_lt rfl) (ry_box1 (off := 2) rfl rfl ty48 (boxIn (i := 0) rfl) rfl) ?_
      refine ow_batch [.lenS 48 9 sl48] rfl ?_
      obtain ⟨y23, h24, H⟩ := of_bind H
      refine ow_q rfl rfl (dstOk_lt rfl) (qy_call rfl fn95 rfl (fun w1 hw1 => impl_within_ok w1  h24)) (fun _ _ => trivial) ?_
      refine ow_batch [.p] rfl ?_
      obtain ⟨u25, hu29, H⟩ := of_bind H
      refine ow_cut [(19, .bool u25), (2, .bool false)] 4 ?_ (fun key => OW.sub (R := [(1, .pointer (some ⟨b20, 0, none⟩)), (2, .bool false), (15, .bool y23)]) ?_ ⟨rfl, rfl, rfl, trivial⟩)
      · refine ow_batch [.p] rfl ?_
        refine ow_nil ?_
        refine x_qs ?_
        refine c_ret ?_
        refine x_qs_ret ?_
        exact x_retR (rs := [.tmp 2]) (vs := [.bool u25]) rfl ⟨rfl, trivial⟩ (fun w' hw' => by
            obtain rfl := of_some H
            exact ⟨rfl, hw'.ext⟩)
      · clear H
        have H := hu29
        clear hu29
        generalize y23 = t28 at H key ⊢
        cases t28
        · have H := of_if_f rfl H
          refine ow_batch [.p, .p, .p, .p] rfl ?_
          obtain rfl := of_some H
          exact OW.sub key ⟨rfl, rfl, trivial⟩
        · have H := of_if_t rfl H
          refine ow_batch [.fa 105 2 2 fa105_2] rfl ?_
          refine ow_r rfl (dstOk_lt rfl) (ry_box1 (off := 2) rfl rfl ty48 (boxIn (i := 0) rfl) rfl) ?_
          obtain ⟨y26, h27, H⟩ := of_bind H
          refine ow_q rfl rfl (dstOk_lt rfl) (qy_call rfl fn128 rfl (fun w1 hw1 => impl_distinctWords_ok w1  h27 (rds_bor g15 w1 hw1))) (fun _ _ => trivial) ?_
          refine ow_batch [.p] rfl ?_
          obtain rfl := of_some H
          exact OW.sub key ⟨rfl, rfl, trivial⟩
    · have H := of_if_f hb H
      refine c_skip ?_
      refine x_qs ?_
      refine c_seq ?_
      refine c_reg ?_
      refine ow_batch [.fa 105 2 2 fa105_2] rfl ?_
      refine ow_r rfl (dstOk_lt rfl) (ry_box1 (off := 2) rfl rfl ty48 (boxIn (i := 0) rfl) rfl) ?_
      refine ow_batch [.lenS 48 9 sl48, .p, .p] rfl ?_
      obtain ⟨u30, hu34, H⟩ := of_bind H
      refine ow_cut [(28, .bool u30), (2, .bool false)] 4 ?_ (fun key => OW.sub (R := [(1, .pointer (some ⟨b20, 0, none⟩)), (2, .bool false), (24, .bool ((p0.Values_.length : Int) == 0))]) ?_ ⟨rfl, rfl, rfl, trivial⟩)
      · refine ow_batch [.p] rfl ?_
        refine ow_nil ?_
        refine x_qs ?_
        refine c_ret ?_
        exact x_retR (rs := [.tmp 2]) (vs := [.bool u30]) rfl ⟨rfl, trivial⟩ (fun w' hw' => by
            obtain rfl := of_some H
            exact ⟨rfl, hw'.ext⟩)
      · clear H
        have H := hu34
        clear hu34
        generalize ((p0.Values_.length : Int) == 0) = t33 at H key ⊢
        cases t33
        · have H := of_if_f rfl H
          refine ow_batch [.p, .p, .p, .p] rfl ?_
          obtain rfl := of_some H
          exact OW.sub key ⟨rfl, rfl, trivial⟩
        · have H := of_if_t rfl H
          refine ow_batch [.fa 105 1 1 fa105_1] rfl ?_
          refine ow_r rfl (dstOk_lt rfl) (ry_box1 (off := 1) rfl rfl ty22 (boxIn (i := 0) rfl) rfl) ?_
          obtain ⟨y31, h32, H⟩ := of_bind H
          refine ow_q rfl rfl (dstOk_lt rfl) (qy_call rfl fn130 rfl (fun w1 hw1 => impl_CutsOk_ok w1  h32 (rds_bor g14 w1 hw1))) (fun _ _ => trivial) ?_
          refine ow_batch [.p] rfl ?_
          obtain rfl := of_some H
          exact OW.sub key ⟨rfl, rfl, trivial⟩

set_option maxHeartbeats 4000000 in
set_option maxRecDepth 100000 in
theorem impl_SchemaOk_ok (w : World) {p0 : Timpl_Schema} {cs0 : List Value} {r : Bool} (H : impl_SchemaOk p0 = some r)  (g0 : (eTimpl_Schema).rd w [] p0 cs0) :
    Calls Tryd.prog 114 #[.agg cs0.toArray] w (fun en w' => en = .returned (.bool r) ∧ Ext [] w w') := by
  obtain ⟨c10, c11, rfl, g12, g13⟩ := rdo_Timpl_Schema g0
  obtain ⟨a14, c15, rfl⟩ := rd_sl1 g12
  obtain ⟨a16, c17, rfl⟩ := rd_sl1 g13
  unfold impl_SchemaOk at H
  refine f_enter (vs := [.agg #[.slice a14 p0.Attrs_.length c15, .slice a16 p0.Classes_.length c17]]) Tryd.func114 rfl Tryd.ntmps114 rfl (St.init w []) ?_
  refine c_seq ?_
  refine c_reg ?_
  refine ow_box (cs := [.slice a14 p0.Attrs_.length c15, .slice a16 p0.Classes_.length c17]) rfl rfl rfl rfl rfl rfl (fun _ => kp) (fun b18 => ?_)
  refine ow_batch [.p] rfl ?_
  refine ow_nil ?_
  refine x_qs ?_
  refine c_seq ?_
  refine c_seq ?_
  refine c_reg ?_
  refine ow_batch [.fa 58 0 0 fa58_0] rfl ?_
  refine ow_r rfl (dstOk_lt rfl) (ry_box1 (off := 0) rfl rfl ty56 (boxIn (i := 0) rfl) rfl) ?_
  refine ow_batch [.lenS 56 105 sl56] rfl ?_
  obtain ⟨y19, h20, H⟩ := of_bind H
  refine ow_q rfl rfl (dstOk_lt rfl) (qy_call rfl fn95 rfl (fun w1 hw1 => impl_within_ok w1  h20)) (fun _ _ => trivial) ?_
  refine ow_batch [.p, .p] rfl ?_
  obtain ⟨u21, hu25, H⟩ := of_bind H
  refine ow_cut [(17, .bool u21), (1, .pointer (some ⟨b18, 0, none⟩))] 6 ?_ (fun key => OW.sub (R := [(1, .pointer (some ⟨b18, 0, none⟩)), (11, .bool (!y19))]) ?_ ⟨rfl, rfl, trivial⟩)
  · refine ow_batch [.p] rfl ?_
    obtain ⟨u26, hu30, H⟩ := of_bind H
    refine ow_cut [(23, .bool u26), (1, .pointer (some ⟨b18, 0, none⟩))] 5 ?_ (fun key => OW.sub (R := [(1, .pointer (some ⟨b18, 0, none⟩)), (18, .bool u21)]) ?_ ⟨rfl, rfl, trivial⟩)
    · refine ow_nil ?_
      refine x_qs ?_
      refine c_if rfl (fun hb => ?_) (fun hb => ?_)
      · have H := of_if_t hb H
        refine c_seq ?_
        refine c_reg ?_
        refine ow_batch [.p] rfl ?_
        refine ow_nil ?_
        refine x_qs ?_
        refine c_ret ?_
        refine x_qs_ret ?_
        exact x_retR (rs := [.tmp 2]) (vs := [.bool false]) rfl ⟨rfl, trivial⟩ (fun w' hw' => by
            obtain rfl := of_some H
            exact ⟨rfl, hw'.ext⟩)
      · have H := of_if_f hb H
        refine c_skip ?_
        refine x_qs ?_
        refine c_seq ?_
        refine c_reg ?_
        refine ow_blit0 (e := eStr) rfl rfl rfl rfl sl48 ty9 (fun _ => kp) (fun b31 => ?_)
        refine ow_batch [.p] rfl ?_
        refine ow_nil ?_
        refine x_qs ?_
        refine c_seq ?_
        refine c_seq ?_
        refine c_reg ?_
        refine ow_batch [.fa 58 0 0 fa58_0] rfl ?_
        refine ow_r rfl (dstOk_lt rfl) (ry_box1 (off := 0) rfl rfl ty56 (boxIn (i := 0) rfl) rfl) ?_
        refine ow_batch [.lenS 56 105 sl56, .p] rfl ?_
        refine ow_nil ?_
        refine x_qs ?_
        refine c_block ?_
        refine CW.at (loopI5 (fun (i65 : Int) (l66 : List (List UInt8)) (a67 : Option Addr) (c68 : Nat) (F69 : List Nat) => St w [] [Res.own (eList (eStr) 9) F69 l66 [.slice a67 l66.length c68]]) (fun (i65 : Int) (l66 : List (List UInt8)) (a67 : Option Addr) (c68 : Nat) (F69 : List Nat) => [(3, .slice a67 l66.length c68), (26, .slice a14 p0.Attrs_.length c15), (27, .int .i64 (p0.Attrs_.length : Int)), (28, .int .i64 i65)]) (fun kk => fun (i65 : Int) (l66 : List (List UInt8)) (a67 : Option Addr) (c68 : Nat) (F69 : List Nat) => a67.isNone = false ∧ impl_SchemaOk_L1 p0 kk i65 l66 = some r) (fun _ _ _ _ _ H => ?_) (fun k1 ihk1 i65 l66 a67 c68 F69 ⟨hz70, H⟩ => ?_) Fuel (0) (([] : List (List UInt8))) ((some ⟨b31, 0, none⟩)) (0) ([b31]) (⟨rfl, H⟩)) (fun _ h => St.sel [1] rfl rfl h) ⟨rfl, rfl, rfl, rfl,  trivial⟩
        · unfold impl_SchemaOk_L1 at H
          exact absurd H (by simp)
        · unfold impl_SchemaOk_L1 at H
          refine c_seq ?_
          refine c_reg ?_
          refine ow_batch [.p] rfl ?_
          refine ow_nil ?_
          refine x_qs ?_
          refine c_seq ?_
          refine c_if rfl (fun hb => ?_) (fun hb => ?_)
          · have H := of_if_t hb H
            refine c_skip ?_
            refine x_qs ?_
            refine c_seq ?_
            refine c_block ?_
            refine c_seq ?_
            refine c_reg ?_
            obtain ⟨e103, h104, H⟩ := of_bind H
            refine ow_ixB rfl rfl rfl rfl rfl sl56 ty105 rfl g12 h104 (fun q107 c108 hd105 hA106 => ?_)
            obtain ⟨c109, c110, c111, rfl, g112, g113, g114⟩ := rdo_Timpl_Attr hd105
            obtain rfl : c109 = [vS e103.Name_] := g112
            obtain ⟨a115, c116, rfl⟩ := rd_sl1 g113
            obtain ⟨a117, c118, rfl⟩ := rd_sl1 g114
            refine ow_r rfl (dstOk_lt rfl) (ry_load (cs := [vS e103.Name_, .slice a115 e103.Cuts_.length c116, .slice a117 e103.Values_.length c118]) rfl rfl ty105 (at_bor bor hA106) rfl) ?_
            refine ow_alloc rfl rfl rfl rfl ty105 (fun _ => kp) (fun b119 => ?_)
            refine ow_storeC (off := 0) [vS e103.Name_, .slice a115 e103.Cuts_.length c116, .slice a117 e103.Values_.length c118] [_, _, _] (i := 1) rfl rfl rfl rfl rfl rfl ty105 rfl rfl (by intro u hu; simp only [List.mem_cons, List.not_mem_nil, or_false] at hu; rcases hu with rfl | rfl | rfl <;> rfl) rfl rfl rfl kp ?_
            refine ow_nil ?_
            refine x_qs ?_
            refine c_seq ?_
            refine c_seq ?_
            refine c_reg ?_
            refine ow_r rfl (dstOk_lt rfl) (ry_box (off := 0) (ds := [vS e103.Name_, .slice a115 e103.Cuts_.length c116, .slice a117 e103.Values_.length c118]) rfl rfl ty105 (boxIn (i := 1) rfl) rfl rfl) ?_
            obtain ⟨y120, h121, H⟩ := of_bind H
            refine ow_q rfl rfl (dstOk_lt rfl) (qy_call rfl fn115 rfl (fun w1 hw1 => impl_AttrOk_ok w1 (cs0 := [vS e103.Name_, .slice a115 e103.Cuts_.length c116, .slice a117 e103.Values_.length c118]) h121 (rdm_Timpl_Attr (x := e103) (c0 := [vS e103.Name_]) (c1 := [.slice a115 e103.Cuts_.length c116]) (c2 := [.slice a117 e103.Values_.length c118]) rfl (rds_bor g113 w1 hw1) (rds_bor g114 w1 hw1)))) (fun _ _ => trivial) ?_
            refine ow_batch [.p] rfl ?_
            refine ow_nil ?_
            refine x_qs ?_
            refine c_if rfl (fun hb => ?_) (fun hb => ?_)
            · have H := of_if_t hb H
              refine c_seq ?_
              refine c_reg ?_
              refine ow_batch [.p] rfl ?_
              refine ow_nil ?_
              refine x_qs ?_
              refine c_ret ?_
              refine x_qs_ret ?_
              refine x_qb_ret ?_
              refine x_qs_ret ?_
              refine x_ql_ret ?_
              refine x_qb_ret ?_
              refine x_qs_ret ?_
              exact x_retR (rs := [.tmp 2]) (vs := [.bool false]) rfl ⟨rfl, trivial⟩ (fun w' hw' => by
                  obtain rfl := of_some H
                  exact ⟨rfl, hw'.ext⟩)
            · have H := of_if_f hb H
              refine c_skip ?_
              refine x_qs ?_
              refine c_reg ?_
              refine ow_batch [.p, .fa 105 0 0 fa105_0] rfl ?_
              refine ow_r rfl (dstOk_lt rfl) (ry_box1 (off := 0) rfl rfl ty9 (boxIn (i := 1) rfl) rfl) ?_
              refine ow_blit (val := vS) (h1 := fun _ => rfl) [e103.Name_] [(0, [vS e103.Name_])] rfl rfl rfl rfl rfl sl48 ty9 rfl rfl rfl ⟨rfl, rfl, Nat.le_of_ble_eq_true rfl,  trivial⟩ rfl rfl (fun _ => kp) (fun b122 => ?_)
              obtain ⟨l123, h124, H⟩ := of_bind H
              refine ow_appR (r := 0) (ys := ([e103.Name_] : List (List UInt8))) rfl rfl rfl rfl rfl rfl sl48 ty9 rfl rfl rfl (fun w1 hw1 => rds_own (e := eList (eStr) 9) (r := 2) rfl w1 hw1) h124 (fun _ _ _ => kp) (fun a125 c126 F127 => ?_)
              refine ow_fact rfl (fun w1 hw1 => own_nn (i := 0) hw1 rfl (app_ne h124)) (fun hz128 => ?_)
              refine ow_batch [.p] rfl ?_
              refine ow_nil ?_
              refine x_qb ?_
              refine x_qs ?_
              refine c_reg ?_
              refine ow_batch [.p, .p] rfl ?_
              refine ow_nil ?_
              exact x_ql (RW.at (ihk1 (IntKind.i64.wrap (i65 + 1)) (l123) (a125) (c126) (F127) (⟨hz128, H⟩)) (fun _ h => St.sel [0] rfl rfl h) ⟨rfl, rfl, rfl, rfl, trivial⟩)
          · have H := of_if_f hb H
            refine c_exit ?_
            refine x_qs_exit ?_
            refine x_ql_exit ?_
            refine x_qb_here ?_
            refine x_qs ?_
            refine c_seq ?_
            refine c_reg ?_
            refine ow_batch [.p] rfl ?_
            obtain ⟨y129, h130, H⟩ := of_bind H
            refine ow_q rfl rfl (dstOk_lt rfl) (qy_call rfl fn128 rfl (fun w1 hw1 => impl_distinctWords_ok w1  h130 (rds_own (e := eList (eStr) 9) (r := 0) rfl w1 hw1))) (fun _ _ => trivial) ?_
            refine ow_batch [.p] rfl ?_
            refine ow_nil ?_
            refine x_qs ?_
            refine c_ret ?_
            exact x_retR (rs := [.tmp 2]) (vs := [.bool y129]) rfl ⟨rfl, trivial⟩ (fun w' hw' => by
                obtain rfl := of_some H
                exact ⟨rfl, hw'.ext⟩)
    · clear H
      have H := hu30
      clear hu30
      generalize u21 = t29 at H key ⊢
      cases t29
      · have H := of_if_f rfl H
        refine ow_batch [.fa 58 1 1 fa58_1] rfl ?_
        refine ow_r rfl (dstOk_lt rfl) (ry_box1 (off := 1) rfl rfl ty48 (boxIn (i := 0) rfl) rfl) ?_
        obtain ⟨y27, h28, H⟩ := of_bind H
        refine ow_q rfl rfl (dstOk_lt rfl) (qy_call rfl fn128 rfl (fun w1 hw1 => impl_distinctWords_ok w1  h28 (rds_bor g13 w1 hw1))) (fun _ _ => trivial) ?_
        refine ow_batch [.p] rfl ?_
        refine ow_batch [.p] rfl ?_
        obtain rfl := of_some H
        exact OW.sub key ⟨rfl, rfl, trivial⟩
      · have H := of_if_t rfl H
        refine ow_batch [.p, .p, .p, .p, .p] rfl ?_
        obtain rfl := of_some H
        exact OW.sub key ⟨rfl, rfl, trivial⟩
  · clear H
    have H := hu25
    clear hu25
    generalize (!y19) = t24 at H key ⊢
    cases t24
    · have H := of_if_f rfl H
      refine ow_batch [.fa 58 1 1 fa58_1] rfl ?_
      refine ow_r rfl (dstOk_lt rfl) (ry_box1 (off := 1) rfl rfl ty48 (boxIn (i := 0) rfl) rfl) ?_
      refine ow_batch [.lenS 48 9 sl48] rfl ?_
      obtain ⟨y22, h23, H⟩ := of_bind H
      refine ow_q rfl rfl (dstOk_lt rfl) (qy_call rfl fn95 rfl (fun w1 hw1 => impl_within_ok w1  h23)) (fun _ _ => trivial) ?_
      refine ow_batch [.p] rfl ?_
      refine ow_batch [.p] rfl ?_
      obtain rfl := of_some H
      exact OW.sub key ⟨rfl, rfl, trivial⟩
    · have H := of_if_t rfl H
      refine ow_batch [.p, .p, .p, .p, .p, .p] rfl ?_
      obtain rfl := of_some H
      exact OW.sub key ⟨rfl, rfl, trivial⟩

set_option maxHeartbeats 4000000 in
set_option maxRecDepth 100000 in
theorem impl_weights_1_ok (w : World) {p0 : Int}  {r : Bool} (H : impl_weights_1 p0 = some r)   :
    Calls Tryd.prog 131 #[.int .i64 p0] w (fun en w' => en = .returned (.bool r) ∧ Ext [] w w') := by
  unfold impl_weights_1 at H
  refine f_enter (vs := [.int .i64 p0]) Tryd.func131 rfl Tryd.ntmps131 rfl (St.init w []) ?_
  refine c_seq ?_
  refine c_reg ?_
  refine ow_batch [.p] rfl ?_
  refine ow_nil ?_
  refine x_qs ?_
  refine c_seq ?_
  refine c_reg ?_
  refine ow_batch [.p] rfl ?_
  obtain ⟨y10, h11, H⟩ := of_bind H
  refine ow_q rfl rfl (dstOk_lt rfl) (qy_call rfl fn95 rfl (fun w1 hw1 => impl_within_ok w1  h11)) (fun _ _ => trivial) ?_
  refine ow_batch [.p, .p] rfl ?_
  refine ow_nil ?_
  refine x_qs ?_
  refine c_ret ?_
  exact x_retR (rs := [.tmp 2]) (vs := [.bool (!y10)]) rfl ⟨rfl, trivial⟩ (fun w' hw' => by
      obtain rfl := of_some H
      exact ⟨rfl, hw'.ext⟩)

set_option maxHeartbeats 4000000 in
set_option maxRecDepth 100000 in
theorem lib_slices_IndexFunc___int_int___impl_weights_1_ok (w : World) {p0 : List Int} {a_0 : Option Addr} {n_0 c_0 : Nat} {r : Int} (H : lib_slices_IndexFunc___int_int___impl_weights_1 p0 = some r)  (g0 : (eList (eVal (Value.int .i64) (fun _ => rfl)) 3).rd w [] p0 [.slice a_0 n_0 c_0]) :
    Calls Tryd.prog 122 #[.slice a_0 n_0 c_0, .func (.func 131) #[] #[]] w (fun en w' => en = .returned (.int .i64 r) ∧ Ext [] w w') := by
  obtain rfl := rd_n g0
  unfold lib_slices_IndexFunc___int_int___impl_weights_1 at H
  refine f_enter (vs := [.slice a_0 p0.length c_0, .func (.func 131) #[] #[]]) Tryd.func122 rfl Tryd.ntmps122 rfl (St.init w []) ?_
  refine c_seq ?_
  refine c_reg ?_
  refine ow_batch [.p] rfl ?_
  refine ow_nil ?_
  refine x_qs ?_
  refine c_seq ?_
  refine c_seq ?_
  refine c_reg ?_
  refine ow_batch [.p, .lenS 22 3 sl22, .p] rfl ?_
  refine ow_nil ?_
  refine x_qs ?_
  refine c_block ?_
  refine CW.at (loopI1 (fun (i15 : Int) => St w [] []) (fun (i15 : Int) => [(0, .slice a_0 p0.length c_0), (1, .func (.func 131) #[] #[]), (7, .int .i64 (p0.length : Int)), (8, .int .i64 i15)]) (fun kk => fun (i15 : Int) => lib_slices_IndexFunc___int_int___impl_weights_1_L1 p0 kk i15 = some r) (fun _ H => ?_) (fun k1 ihk1 i15 H => ?_) Fuel (0) (H)) (fun _ h => St.sel [] rfl rfl h) ⟨rfl, rfl, rfl, rfl,  trivial⟩
  · unfold lib_slices_IndexFunc___int_int___impl_weights_1_L1 at H
    exact absurd H (by simp)
  · unfold lib_slices_IndexFunc___int_int___impl_weights_1_L1 at H
    refine c_seq ?_
    refine c_reg ?_
    refine ow_batch [.p] rfl ?_
    refine ow_nil ?_
    refine x_qs ?_
    refine c_seq ?_
    refine c_if rfl (fun hb => ?_) (fun hb => ?_)
    · have H := of_if_t hb H
      refine c_skip ?_
      refine x_qs ?_
      refine c_seq ?_
      refine c_block ?_
      refine c_seq ?_
      refine c_reg ?_
      refine ow_batch [.p, .p] rfl ?_
      refine ow_nil ?_
      refine x_qs ?_
      refine c_seq ?_
      refine c_reg ?_
      refine ow_batch [.p, .p, .p] rfl ?_
      obtain ⟨e21, h22, H⟩ := of_bind H
      refine ow_ixE (e := eVal (Value.int .i64) (fun _ => rfl)) (xs := p0) (j := i15) rfl rfl rfl rfl rfl sl22 ty3 rfl (fun w1 hw1 => rds_bor g0 w1 hw1) h22 (by rw [Nat.mul_one]) ?_
      refine ow_r rfl (dstOk_lt rfl) (ry_load1 rfl rfl ty3 (at_elV (fun w1 hw1 => rds_bor g0 w1 hw1) h22)) ?_
      obtain ⟨y23, h24, H⟩ := of_bind H
      refine ow_q rfl rfl (dstOk_lt rfl) (qy_callV (cap := []) rfl fn131 rfl rfl (fun w1 hw1 => impl_weights_1_ok w1  h24)) (fun _ _ => trivial) ?_
      refine ow_nil ?_
      refine x_qs ?_
      refine c_if rfl (fun hb => ?_) (fun hb => ?_)
      · have H := of_if_t hb H
        refine c_seq ?_
        refine c_reg ?_
        refine ow_batch [.p, .p] rfl ?_
        refine ow_nil ?_
        refine x_qs ?_
        refine c_ret ?_
        refine x_qb_ret ?_
        refine x_qs_ret ?_
        refine x_ql_ret ?_
        refine x_qb_ret ?_
        refine x_qs_ret ?_
        exact x_retR (rs := [.tmp 4]) (vs := [.int .i64 i15]) rfl ⟨rfl, trivial⟩ (fun w' hw' => by
            obtain rfl := of_some H
            exact ⟨rfl, hw'.ext⟩)
      · have H := of_if_f hb H
        refine c_skip ?_
        refine x_qb ?_
        refine x_qs ?_
        refine c_reg ?_
        refine ow_batch [.p, .p] rfl ?_
        refine ow_nil ?_
        exact x_ql (RW.at (ihk1 (IntKind.i64.wrap (i15 + 1)) (H)) (fun _ h => St.sel [] rfl rfl h) ⟨rfl, rfl, rfl, rfl, trivial⟩)
    · have H := of_if_f hb H
      refine c_exit ?_
      refine x_qs_exit ?_
      refine x_ql_exit ?_
      refine x_qb_here ?_
      refine x_qs ?_
      refine c_seq ?_
      refine c_reg ?_
      refine ow_batch [.p] rfl ?_
      refine ow_nil ?_
      refine x_qs ?_
      refine c_ret ?_
      exact x_retR (rs := [.tmp 4]) (vs := [.int .i64 (-1)]) rfl ⟨rfl, trivial⟩ (fun w' hw' => by
          obtain rfl := of_some H
          exact ⟨rfl, hw'.ext⟩)

set_option maxHeartbeats 4000000 in
set_option maxRecDepth 100000 in
theorem lib_slices_ContainsFunc___int_int___impl_weights_1_ok (w : World) {p0 : List Int} {a_0 : Option Addr} {n_0 c_0 : Nat} {r : Bool} (H : lib_slices_ContainsFunc___int_int___impl_weights_1 p0 = some r)  (g0 : (eList (eVal (Value.int .i64) (fun _ => rfl)) 3).rd w [] p0 [.slice a_0 n_0 c_0]) :
    Calls Tryd.prog 96 #[.slice a_0 n_0 c_0, .func (.func 131) #[] #[]] w (fun en w' => en = .returned (.bool r) ∧ Ext [] w w') := by
  obtain rfl := rd_n g0
  unfold lib_slices_ContainsFunc___int_int___impl_weights_1 at H
  refine f_enter (vs := [.slice a_0 p0.length c_0, .func (.func 131) #[] #[]]) Tryd.func96 rfl Tryd.ntmps96 rfl (St.init w []) ?_
  refine c_seq ?_
  refine c_reg ?_
  refine ow_batch [.p] rfl ?_
  refine ow_nil ?_
  refine x_qs ?_
  refine c_seq ?_
  refine c_reg ?_
  refine ow_batch [.p, .p] rfl ?_
  obtain ⟨y10, h11, H⟩ := of_bind H
  refine ow_q rfl rfl (dstOk_lt rfl) (qy_call rfl fn122 rfl (fun w1 hw1 => lib_slices_IndexFunc___int_int___impl_weights_1_ok w1  h11 (rds_bor g0 w1 hw1))) (fun _ _ => trivial) ?_
  refine ow_batch [.p, .p] rfl ?_
  refine ow_nil ?_
  refine x_qs ?_
  refine c_ret ?_
  exact x_retR (rs := [.tmp 4]) (vs := [.bool (decide (y10 ≥ 0))]) rfl ⟨rfl, trivial⟩ (fun w' hw' => by
      obtain rfl := of_some H
      exact ⟨rfl, hw'.ext⟩)

set_option maxHeartbeats 4000000 in
set_option maxRecDepth 100000 in
theorem impl_weights_ok (w : World) {p0 : List Int} {p1 : Int} {a_0 : Option Addr} {n_0 c_0 : Nat} {r : Bool} (H : impl_weights p0 p1 = some r)  (g0 : (eList (eVal (Value.int .i64) (fun _ => rfl)) 3).rd w [] p0 [.slice a_0 n_0 c_0]) :
    Calls Tryd.prog 117 #[.slice a_0 n_0 c_0, .int .i64 p1] w (fun en w' => en = .returned (.bool r) ∧ Ext [] w w') := by
  obtain rfl := rd_n g0
  unfold impl_weights at H
  refine f_enter (vs := [.slice a_0 p0.length c_0, .int .i64 p1]) Tryd.func117 rfl Tryd.ntmps117 rfl (St.init w []) ?_
  refine c_seq ?_
  refine c_reg ?_
  refine ow_batch [.p] rfl ?_
  refine ow_nil ?_
  refine x_qs ?_
  refine c_seq ?_
  refine c_reg ?_
  refine ow_batch [.p, .lenS 22 3 sl22, .p, .p, .p] rfl ?_
  obtain ⟨u10, hu14, H⟩ := of_bind H
  refine ow_cut [(13, .bool u10), (4, .bool false)] 4 ?_ (fun key => OW.sub (R := [(0, .slice a_0 p0.length c_0), (4, .bool false), (9, .bool ((p0.length : Int) == p1))]) ?_ ⟨rfl, rfl, rfl, trivial⟩)
  · refine ow_batch [.p] rfl ?_
    refine ow_nil ?_
    refine x_qs ?_
    refine c_ret ?_
    exact x_retR (rs := [.tmp 4]) (vs := [.bool u10]) rfl ⟨rfl, trivial⟩ (fun w' hw' => by
        obtain rfl := of_some H
        exact ⟨rfl, hw'.ext⟩)
  · clear H
    have H := hu14
    clear hu14
    generalize ((p0.length : Int) == p1) = t13 at H key ⊢
    cases t13
    · have H := of_if_f rfl H
      refine ow_batch [.p, .p, .p, .p] rfl ?_
      obtain rfl := of_some H
      exact OW.sub key ⟨rfl, rfl, trivial⟩
    · have H := of_if_t rfl H
      refine ow_batch [.p] rfl ?_
      obtain ⟨y11, h12, H⟩ := of_bind H
      refine ow_q rfl rfl (dstOk_lt rfl) (qy_call rfl fn96 rfl (fun w1 hw1 => lib_slices_ContainsFunc___int_int___impl_weights_1_ok w1  h12 (rds_bor g0 w1 hw1))) (fun _ _ => trivial) ?_
      refine ow_batch [.p] rfl ?_
      refine ow_batch [.p] rfl ?_
      obtain rfl := of_some H
      exact OW.sub key ⟨rfl, rfl, trivial⟩

set_option maxHeartbeats 4000000 in
set_option maxRecDepth 100000 in
theorem impl_total_ok (w : World) {p0 : List Int} {a_0 : Option Addr} {n_0 c_0 : Nat} {r : Int} (H : impl_total p0 = some r)  (g0 : (eList (eVal (Value.int .i64) (fun _ => rfl)) 3).rd w [] p0 [.slice a_0 n_0 c_0]) :
    Calls Tryd.prog 105 #[.slice a_0 n_0 c_0] w (fun en w' => en = .returned (.int .i64 r) ∧ Ext [] w w') := by
  obtain rfl := rd_n g0
  unfold impl_total at H
  refine f_enter (vs := [.slice a_0 p0.length c_0]) Tryd.func105 rfl Tryd.ntmps105 rfl (St.init w []) ?_
  refine c_seq ?_
  refine c_reg ?_
  refine ow_batch [.p] rfl ?_
  refine ow_nil ?_
  refine x_qs ?_
  refine c_seq ?_
  refine c_reg ?_
  refine ow_batch [.p] rfl ?_
  refine ow_nil ?_
  refine x_qs ?_
  refine c_seq ?_
  refine c_seq ?_
  refine c_reg ?_
  refine ow_batch [.p, .lenS 22 3 sl22, .p] rfl ?_
  refine ow_nil ?_
  refine x_qs ?_
  refine c_block ?_
  refine CW.at (loopI2 (fun (i14 : Int) (i15 : Int) => St w [] []) (fun (i14 : Int) (i15 : Int) => [(3, .int .i64 i14), (6, .slice a_0 p0.length c_0), (7, .int .i64 (p0.length : Int)), (8, .int .i64 i15)]) (fun kk => fun (i14 : Int) (i15 : Int) => impl_total_L1 p0 kk i14 i15 = some r) (fun _ _ H => ?_) (fun k1 ihk1 i14 i15 H => ?_) Fuel (0) (0) (H)) (fun _ h => St.sel [] rfl rfl h) ⟨rfl, rfl, rfl, rfl,  trivial⟩
  · unfold impl_total_L1 at H
    exact absurd H (by simp)
  · unfold impl_total_L1 at H
    refine c_seq ?_
    refine c_reg ?_
    refine ow_batch [.p] rfl ?_
    refine ow_nil ?_
    refine x_qs ?_
    refine c_seq ?_
    refine c_if rfl (fun hb => ?_) (fun hb => ?_)
    · have H := of_if_t hb H
      refine c_skip ?_
      refine x_qs ?_
      refine c_seq ?_
      refine c_block ?_
      refine c_seq ?_
      refine c_reg ?_
      obtain ⟨e20, h21, H⟩ := of_bind H
      refine ow_ixE (e := eVal (Value.int .i64) (fun _ => rfl)) (xs := p0) (j := i15) rfl rfl rfl rfl rfl sl22 ty3 rfl (fun w1 hw1 => rds_bor g0 w1 hw1) h21 (by rw [Nat.mul_one]) ?_
      refine ow_r rfl (dstOk_lt rfl) (ry_load1 rfl rfl ty3 (at_elV (fun w1 hw1 => rds_bor g0 w1 hw1) h21)) ?_
      refine ow_batch [.p] rfl ?_
      refine ow_nil ?_
      refine x_qs ?_
      refine c_reg ?_
      refine ow_batch [.p, .p, .p, .p] rfl ?_
      refine ow_nil ?_
      refine x_qb ?_
      refine x_qs ?_
      refine c_reg ?_
      refine ow_batch [.p, .p] rfl ?_
      refine ow_nil ?_
      exact x_ql (RW.at (ihk1 (IntKind.i64.wrap (i14 + e20)) (IntKind.i64.wrap (i15 + 1)) (H)) (fun _ h => St.sel [] rfl rfl h) ⟨rfl, rfl, rfl, rfl, trivial⟩)
    · have H := of_if_f hb H
      refine c_exit ?_
      refine x_qs_exit ?_
      refine x_ql_exit ?_
      refine x_qb_here ?_
      refine x_qs ?_
      refine c_seq ?_
      refine c_reg ?_
      refine ow_batch [.p, .p] rfl ?_
      refine ow_nil ?_
      refine x_qs ?_
      refine c_ret ?_
      exact x_retR (rs := [.tmp 2]) (vs := [.int .i64 i14]) rfl ⟨rfl, trivial⟩ (fun w' hw' => by
          obtain rfl := of_some H
          exact ⟨rfl, hw'.ext⟩)

set_option maxHeartbeats 4000000 in
set_option maxRecDepth 100000 in
theorem impl_bins_ok (w : World) {p0 : Timpl_Attr} {cs0 : List Value} {r : Int} (H : impl_bins p0 = some r)  (g0 : (eTimpl_Attr).rd w [] p0 cs0) :
    Calls Tryd.prog 76 #[.agg cs0.toArray] w (fun en w' => en = .returned (.int .i64 r) ∧ Ext [] w w') := by
  obtain ⟨c10, c11, c12, rfl, g13, g14, g15⟩ := rdo_Timpl_Attr g0
  obtain rfl : c10 = [vS p0.Name_] := g13
  obtain ⟨a16, c17, rfl⟩ := rd_sl1 g14
  obtain ⟨a18, c19, rfl⟩ := rd_sl1 g15
  unfold impl_bins at H
  refine f_enter (vs := [.agg #[vS p0.Name_, .slice a16 p0.Cuts_.length c17, .slice a18 p0.Values_.length c19]]) Tryd.func76 rfl Tryd.ntmps76 rfl (St.init w []) ?_
  refine c_seq ?_
  refine c_reg ?_
  refine ow_box (cs := [vS p0.Name_, .slice a16 p0.Cuts_.length c17, .slice a18 p0.Values_.length c19]) rfl rfl rfl rfl rfl rfl (fun _ => kp) (fun b20 => ?_)
  refine ow_batch [.p] rfl ?_
  refine ow_nil ?_
  refine x_qs ?_
  refine c_seq ?_
  refine c_seq ?_
  refine c_reg ?_
  refine ow_batch [.fa 105 1 1 fa105_1] rfl ?_
  refine ow_r rfl (dstOk_lt rfl) (ry_box1 (off := 1) rfl rfl ty22 (boxIn (i := 0) rfl) rfl) ?_
  refine ow_batch [.lenS 22 3 sl22, .p] rfl ?_
  refine ow_nil ?_
  refine x_qs ?_
  refine c_if rfl (fun hb => ?_) (fun hb => ?_)
  · have H := of_if_t hb H
    refine c_seq ?_
    refine c_reg ?_
    refine ow_batch [.fa 105 1 1 fa105_1] rfl ?_
    refine ow_r rfl (dstOk_lt rfl) (ry_box1 (off := 1) rfl rfl ty22 (boxIn (i := 0) rfl) rfl) ?_
    refine ow_batch [.lenS 22 3 sl22, .p, .p] rfl ?_
    refine ow_nil ?_
    refine x_qs ?_
    refine c_ret ?_
    refine x_qs_ret ?_
    exact x_retR (rs := [.tmp 2]) (vs := [.int .i64 (IntKind.i64.wrap ((p0.Cuts_.length : Int) + 1))]) rfl ⟨rfl, trivial⟩ (fun w' hw' => by
        obtain rfl := of_some H
        exact ⟨rfl, hw'.ext⟩)
  · have H := of_if_f hb H
    refine c_skip ?_
    refine x_qs ?_
    refine c_seq ?_
    refine c_reg ?_
    refine ow_batch [.fa 105 2 2 fa105_2] rfl ?_
    refine ow_r rfl (dstOk_lt rfl) (ry_box1 (off := 2) rfl rfl ty48 (boxIn (i := 0) rfl) rfl) ?_
    refine ow_batch [.lenS 48 9 sl48, .p] rfl ?_
    refine ow_nil ?_
    refine x_qs ?_
    refine c_ret ?_
    exact x_retR (rs := [.tmp 2]) (vs := [.int .i64 (p0.Values_.length : Int)]) rfl ⟨rfl, trivial⟩ (fun w' hw' => by
        obtain rfl := of_some H
        exact ⟨rfl, hw'.ext⟩)

set_option maxHeartbeats 4000000 in
set_option maxRecDepth 100000 in
theorem impl_zeros_ok (w : World) {M0 : List Nat} {p0 : Int}  {r : List Int} (H : impl_zeros p0 = some r) (HS : St w M0 [] w)  :
    Calls Tryd.prog 118 #[.int .i64 p0] w (fun en w' => ∃ v, en = .returned v ∧ ∃ (a0 : Option Addr), ∃ (n0 : Nat), ∃ (c0 : Nat), ∃ (F0 : List Nat), v = .slice a0 n0 c0 ∧ St w M0 [Res.own (eList (eVal (Value.int .i64) (fun _ => rfl)) 3) F0 r [.slice a0 n0 c0]] w') := by
  unfold impl_zeros at H
  refine f_enter (vs := [.int .i64 p0]) Tryd.func118 rfl Tryd.ntmps118 rfl (HS) ?_
  refine c_seq ?_
  refine c_reg ?_
  refine ow_batch [.p] rfl ?_
  refine ow_nil ?_
  refine x_qs ?_
  refine c_seq ?_
  refine c_reg ?_
  refine ow_batch [.p] rfl ?_
  obtain ⟨l10, h11, H⟩ := of_bind H
  refine ow_make (e := eVal (Value.int .i64) (fun _ => rfl)) (zero := (0 : Int)) rfl rfl rfl rfl rfl rfl sl22 ty3 rfl rfl rfl rfl (fun _ => ⟨rfl, rfl⟩) h11 (fun _ => kp) (fun b12 => ?_)
  refine ow_batch [.p] rfl ?_
  refine ow_nil ?_
  refine x_qs ?_
  refine c_ret ?_
  exact x_retR (rs := [.tmp 2]) (vs := [.slice (some ⟨b12, 0, none⟩) l10.length l10.length]) rfl ⟨rfl, trivial⟩ (fun w' hw' => by
      obtain rfl := of_some H
      exact ⟨_, rfl, (some ⟨b12, 0, none⟩), l10.length, l10.length, [b12], rfl, hw'.sel [0] rfl rfl⟩)

set_option maxHeartbeats 4000000 in
set_option maxRecDepth 100000 in
theorem impl_StatsOk_ok (w : World) {p0 : Timpl_Schema} {p1 : Timpl_Stats} {cs0 : List Value} {cs1 : List Value} {r : Bool} (H : impl_StatsOk p0 p1 = some r)  (g0 : (eTimpl_Schema).rd w [] p0 cs0) (g1 : (eTimpl_Stats).rd w [] p1 cs1) :
    Calls Tryd.prog 87 #[.agg cs0.toArray, .agg cs1.toArray] w (fun en w' => en = .returned (.bool r) ∧ Ext [] w w') := by
  obtain ⟨c10, c11, rfl, g12, g13⟩ := rdo_Timpl_Schema g0
  obtain ⟨a14, c15, rfl⟩ := rd_sl1 g12
  obtain ⟨a16, c17, rfl⟩ := rd_sl1 g13
  obtain ⟨c18, c19, rfl, g20, g21⟩ := rdo_Timpl_Stats g1
  obtain ⟨a22, c23, rfl⟩ := rd_sl1 g20
  obtain ⟨a24, c25, rfl⟩ := rd_sl1 g21
  unfold impl_StatsOk at H
  refine f_enter (vs := [.agg #[.slice a14 p0.Attrs_.length c15, .slice a16 p0.Classes_.length c17], .agg #[.slice a22 p1.Totals_.length c23, .slice a24 p1.Cells_.length c25]]) Tryd.func87 rfl Tryd.ntmps87 rfl (St.init w []) ?_
  refine c_seq ?_
  refine c_reg ?_
  refine ow_box (cs := [.slice a14 p0.Attrs_.length c15, .slice a16 p0.Classes_.length c17]) rfl rfl rfl rfl rfl rfl (fun _ => kp) (fun b26 => ?_)
  refine ow_box (cs := [.slice a22 p1.Totals_.length c23, .slice a24 p1.Cells_.length c25]) rfl rfl rfl rfl rfl rfl (fun _ => kp) (fun b27 => ?_)
  refine ow_batch [.p] rfl ?_
  refine ow_nil ?_
  refine x_qs ?_
  refine c_seq ?_
  refine c_reg ?_
  refine ow_batch [.fa 58 1 1 fa58_1] rfl ?_
  refine ow_r rfl (dstOk_lt rfl) (ry_box1 (off := 1) rfl rfl ty48 (boxIn (i := 0) rfl) rfl) ?_
  refine ow_batch [.lenS 48 9 sl48, .p] rfl ?_
  refine ow_nil ?_
  refine x_qs ?_
  refine c_seq ?_
  refine c_seq ?_
  refine c_reg ?_
  refine ow_r rfl (dstOk_lt rfl) (ry_box (off := 0) (ds := [.slice a14 p0.Attrs_.length c15, .slice a16 p0.Classes_.length c17]) rfl rfl ty58 (boxIn (i := 0) rfl) rfl rfl) ?_
  obtain ⟨y28, h29, H⟩ := of_bind H
  refine ow_q rfl rfl (dstOk_lt rfl) (qy_call rfl fn114 rfl (fun w1 hw1 => impl_SchemaOk_ok w1 (cs0 := [.slice a14 p0.Attrs_.length c15, .slice a16 p0.Classes_.length c17]) h29 (rdm_Timpl_Schema (x := p0) (c0 := [.slice a14 p0.Attrs_.length c15]) (c1 := [.slice a16 p0.Classes_.length c17]) (rds_bor g12 w1 hw1) (rds_bor g13 w1 hw1)))) (fun _ _ => trivial) ?_
  refine ow_batch [.p, .p] rfl ?_
  obtain ⟨u30, hu34, H⟩ := of_bind H
  refine ow_cut [(23, .bool u30), (2, .pointer (some ⟨b26, 0, none⟩)), (3, .pointer (some ⟨b27, 0, none⟩)), (5, .int .i64 (p0.Classes_.length : Int))] 6 ?_ (fun key => OW.sub (R := [(2, .pointer (some ⟨b26, 0, none⟩)), (3, .pointer (some ⟨b27, 0, none⟩)), (5, .int .i64 (p0.Classes_.length : Int)), (17, .bool (!y28))]) ?_ ⟨rfl, rfl, rfl, rfl, trivial⟩)
  · refine ow_batch [.p] rfl ?_
    obtain ⟨u35, hu39, H⟩ := of_bind H
    refine ow_cut [(29, .bool u35), (2, .pointer (some ⟨b26, 0, none⟩)), (3, .pointer (some ⟨b27, 0, none⟩)), (5, .int .i64 (p0.Classes_.length : Int))] 5 ?_ (fun key => OW.sub (R := [(2, .pointer (some ⟨b26, 0, none⟩)), (3, .pointer (some ⟨b27, 0, none⟩)), (5, .int .i64 (p0.Classes_.length : Int)), (24, .bool u30)]) ?_ ⟨rfl, rfl, rfl, rfl, trivial⟩)
    · refine ow_nil ?_
      refine x_qs ?_
      refine c_if rfl (fun hb => ?_) (fun hb => ?_)
      · have H := of_if_t hb H
        refine c_seq ?_
        refine c_reg ?_
        refine ow_batch [.p] rfl ?_
        refine ow_nil ?_
        refine x_qs ?_
        refine c_ret ?_
        refine x_qs_ret ?_
        exact x_retR (rs := [.tmp 4]) (vs := [.bool false]) rfl ⟨rfl, trivial⟩ (fun w' hw' => by
            obtain rfl := of_some H
            exact ⟨rfl, hw'.ext⟩)
      · have H := of_if_f hb H
        refine c_skip ?_
        refine x_qs ?_
        refine c_seq ?_
        refine c_seq ?_
        refine c_reg ?_
        refine ow_batch [.fa 74 1 1 fa74_1] rfl ?_
        refine ow_r rfl (dstOk_lt rfl) (ry_box1 (off := 1) rfl rfl ty27 (boxIn (i := 1) rfl) rfl) ?_
        refine ow_batch [.lenS 27 22 sl27, .p] rfl ?_
        refine ow_nil ?_
        refine x_qs ?_
        refine c_if rfl (fun hb => ?_) (fun hb => ?_)
        · have H := of_if_t hb H
          refine c_seq ?_
          refine c_reg ?_
          refine ow_batch [.p] rfl ?_
          refine ow_nil ?_
          refine x_qs ?_
          refine c_ret ?_
          refine x_qs_ret ?_
          exact x_retR (rs := [.tmp 4]) (vs := [.bool true]) rfl ⟨rfl, trivial⟩ (fun w' hw' => by
              obtain rfl := of_some H
              exact ⟨rfl, hw'.ext⟩)
        · have H := of_if_f hb H
          refine c_skip ?_
          refine x_qs ?_
          refine c_seq ?_
          refine c_seq ?_
          refine c_reg ?_
          refine ow_batch [.fa 74 1 1 fa74_1] rfl ?_
          refine ow_r rfl (dstOk_lt rfl) (ry_box1 (off := 1) rfl rfl ty27 (boxIn (i := 1) rfl) rfl) ?_
          refine ow_batch [.lenS 27 22 sl27, .fa 58 0 0 fa58_0] rfl ?_
          refine ow_r rfl (dstOk_lt rfl) (ry_box1 (off := 0) rfl rfl ty56 (boxIn (i := 0) rfl) rfl) ?_
          refine ow_batch [.lenS 56 105 sl56, .p] rfl ?_
          refine ow_nil ?_
          refine x_qs ?_
          refine c_if rfl (fun hb => ?_) (fun hb => ?_)
          · have H := of_if_t hb H
            refine c_seq ?_
            refine c_reg ?_
            refine ow_batch [.p] rfl ?_
            refine ow_nil ?_
            refine x_qs ?_
            refine c_ret ?_
            refine x_qs_ret ?_
            exact x_retR (rs := [.tmp 4]) (vs := [.bool false]) rfl ⟨rfl, trivial⟩ (fun w' hw' => by
                obtain rfl := of_some H
                exact ⟨rfl, hw'.ext⟩)
          · have H := of_if_f hb H
            refine c_skip ?_
            refine x_qs ?_
            refine c_seq ?_
            refine c_seq ?_
            refine c_reg ?_
            refine ow_batch [.fa 74 1 1 fa74_1] rfl ?_
            refine ow_r rfl (dstOk_lt rfl) (ry_box1 (off := 1) rfl rfl ty27 (boxIn (i := 1) rfl) rfl) ?_
            refine ow_batch [.lenS 27 22 sl27, .p] rfl ?_
            refine ow_nil ?_
            refine x_qs ?_
            refine c_block ?_
            refine CW.at (loopI1 (fun (i132 : Int) => St w [] [Res.box b26 58 [.slice a14 p0.Attrs_.length c15, .slice a16 p0.Classes_.length c17], Res.box b27 74 [.slice a22 p1.Totals_.length c23, .slice a24 p1.Cells_.length c25]]) (fun (i132 : Int) => [(2, .pointer (some ⟨b26, 0, none⟩)), (3, .pointer (some ⟨b27, 0, none⟩)), (5, .int .i64 (p0.Classes_.length : Int)), (42, .slice a24 p1.Cells_.length c25), (43, .int .i64 (p1.Cells_.length : Int)), (44, .int .i64 i132)]) (fun kk => fun (i132 : Int) => impl_StatsOk_L1 p1 p0 kk i132 = some r) (fun _ H => ?_) (fun k1 ihk1 i132 H => ?_) Fuel (0) (H)) (fun _ h => St.sel [0, 1] rfl rfl h) ⟨rfl, rfl, rfl, rfl, rfl, rfl,  trivial⟩
            · unfold impl_StatsOk_L1 at H
              exact absurd H (by simp)
            · unfold impl_StatsOk_L1 at H
              refine c_seq ?_
              refine c_reg ?_
              refine ow_batch [.p] rfl ?_
              refine ow_nil ?_
              refine x_qs ?_
              refine c_seq ?_
              refine c_if rfl (fun hb => ?_) (fun hb => ?_)
              · have H := of_if_t hb H
                refine c_skip ?_
                refine x_qs ?_
                refine c_seq ?_
                refine c_block ?_
                refine c_seq ?_
                refine c_reg ?_
                refine ow_batch [.p] rfl ?_
                obtain ⟨e225, h226, H⟩ := of_bind H
                refine ow_ixB rfl rfl rfl rfl rfl sl27 ty22 rfl g21 h226 (fun q229 c230 hd227 hA228 => ?_)
                obtain ⟨a231, c232, rfl⟩ := rd_sl1 hd227
                refine ow_r rfl (dstOk_lt rfl) (ry_load1 rfl rfl ty22 (at_bor bor hA228)) ?_
                refine ow_batch [.p, .p] rfl ?_
                refine ow_nil ?_
                refine x_qs ?_
                refine c_seq ?_
                refine c_seq ?_
                refine c_reg ?_
                refine ow_batch [.p, .fa 58 0 0 fa58_0] rfl ?_
                refine ow_r rfl (dstOk_lt rfl) (ry_box1 (off := 0) rfl rfl ty56 (boxIn (i := 0) rfl) rfl) ?_
                refine ow_batch [.p] rfl ?_
                obtain ⟨e233, h234, H⟩ := of_bind H
                refine ow_ixB rfl rfl rfl rfl rfl sl56 ty105 rfl g12 h234 (fun q237 c238 hd235 hA236 => ?_)
                obtain ⟨c239, c240, c241, rfl, g242, g243, g244⟩ := rdo_Timpl_Attr hd235
                obtain rfl : c239 = [vS e233.Name_] := g242
                obtain ⟨a245, c246, rfl⟩ := rd_sl1 g243
                obtain ⟨a247, c248, rfl⟩ := rd_sl1 g244
                refine ow_r rfl (dstOk_lt rfl) (ry_load (cs := [vS e233.Name_, .slice a245 e233.Cuts_.length c246, .slice a247 e233.Values_.length c248]) rfl rfl ty105 (at_bor bor hA236) rfl) ?_
                obtain ⟨y249, h250, H⟩ := of_bind H
                refine ow_q rfl rfl (dstOk_lt rfl) (qy_call rfl fn76 rfl (fun w1 hw1 => impl_bins_ok w1 (cs0 := [vS e233.Name_, .slice a245 e233.Cuts_.length c246, .slice a247 e233.Values_.length c248]) h250 (rdm_Timpl_Attr (x := e233) (c0 := [vS e233.Name_]) (c1 := [.slice a245 e233.Cuts_.length c246]) (c2 := [.slice a247 e233.Values_.length c248]) rfl (rds_bor g243 w1 hw1) (rds_bor g244 w1 hw1)))) (fun _ _ => trivial) ?_
                refine ow_batch [.p, .p] rfl ?_
                obtain ⟨y251, h252, H⟩ := of_bind H
                refine ow_q rfl rfl (dstOk_lt rfl) (qy_call rfl fn117 rfl (fun w1 hw1 => impl_weights_ok w1  h252 (rds_bor hd227 w1 hw1))) (fun _ _ => trivial) ?_
                refine ow_batch [.p] rfl ?_
                refine ow_nil ?_
                refine x_qs ?_
                refine c_if rfl (fun hb => ?_) (fun hb => ?_)
                · have H := of_if_t hb H
                  refine c_seq ?_
                  refine c_reg ?_
                  refine ow_batch [.p] rfl ?_
                  refine ow_nil ?_
                  refine x_qs ?_
                  refine c_ret ?_
                  refine x_qs_ret ?_
                  refine x_qb_ret ?_
                  refine x_qs_ret ?_
                  refine x_ql_ret ?_
                  refine x_qb_ret ?_
                  refine x_qs_ret ?_
                  exact x_retR (rs := [.tmp 4]) (vs := [.bool false]) rfl ⟨rfl, trivial⟩ (fun w' hw' => by
                      obtain rfl := of_some H
                      exact ⟨rfl, hw'.ext⟩)
                · have H := of_if_f hb H
                  refine c_skip ?_
                  refine x_qs ?_
                  refine c_seq ?_
                  refine c_reg ?_
                  refine ow_batch [.p] rfl ?_
                  obtain ⟨y253, h254, H⟩ := of_bind H
                  refine ow_callS rfl fn118 rfl rfl rfl rfl (fun w1 hw1 => impl_zeros_ok w1  h254 (hw1.carve [] rfl rfl)) (fun v255 w1 w2 hw1 hR257 => ?_)
                  obtain ⟨a258, n259, c260, F261, rfl, hS256⟩ := hR257
                  obtain rfl := own_nS (i := 0) hS256 rfl
                  refine ⟨St w [] [_, _, _], hw1.comp [] rfl rfl hS256, fun _ _ => trivial, ?_⟩
                  refine ow_batch [.p] rfl ?_
                  refine ow_nil ?_
                  refine x_qs ?_
                  refine c_seq ?_
                  refine c_reg ?_
                  refine ow_batch [.p, .lenS 22 3 sl22, .p] rfl ?_
                  refine ow_nil ?_
                  refine x_qs ?_
                  refine c_block ?_
                  refine CW.at (loopI2 (fun (i280 : Int) (l281 : List Int) => St w [] [Res.box b26 58 [.slice a14 p0.Attrs_.length c15, .slice a16 p0.Classes_.length c17], Res.box b27 74 [.slice a22 p1.Totals_.length c23, .slice a24 p1.Cells_.length c25], Res.own (eList (eVal (Value.int .i64) (fun _ => rfl)) 3) F261 l281 [.slice a258 y253.length c260]]) (fun (i280 : Int) (l281 : List Int) => [(2, .pointer (some ⟨b26, 0, none⟩)), (3, .pointer (some ⟨b27, 0, none⟩)), (5, .int .i64 (p0.Classes_.length : Int)), (8, .slice a258 y253.length c260), (42, .slice a24 p1.Cells_.length c25), (43, .int .i64 (p1.Cells_.length : Int)), (44, .int .i64 i132), (62, .slice a231 e225.length c232), (63, .int .i64 (e225.length : Int)), (64, .int .i64 i280)]) (fun kk => fun (i280 : Int) (l281 : List Int) => impl_StatsOk_L2 e225 p0 p1 (impl_StatsOk_L1 p1 p0 k1) i132 kk i280 l281 = some r) (fun _ _ H => ?_) (fun k2 ihk2 i280 l281 H => ?_) Fuel (0) (y253) (H)) (fun _ h => St.sel [0, 1, 2] rfl rfl h) ⟨rfl, rfl, rfl, rfl, rfl, rfl, rfl, rfl, rfl, rfl,  trivial⟩
                  · unfold impl_StatsOk_L2 at H
                    exact absurd H (by simp)
                  · unfold impl_StatsOk_L2 at H
                    refine c_seq ?_
                    refine c_reg ?_
                    refine ow_batch [.p] rfl ?_
                    refine ow_nil ?_
                    refine x_qs ?_
                    refine c_seq ?_
                    refine c_if rfl (fun hb => ?_) (fun hb => ?_)
                    · have H := of_if_t hb H
                      refine c_skip ?_
                      refine x_qs ?_
                      refine c_seq ?_
                      refine c_block ?_
                      refine c_seq ?_
                      refine c_reg ?_
                      refine ow_batch [.p] rfl ?_
                      obtain ⟨e300, h301, H⟩ := of_bind H
                      refine ow_ixE (e := eVal (Value.int .i64) (fun _ => rfl)) (xs := e225) (j := i280) rfl rfl rfl rfl rfl sl22 ty3 rfl (fun w1 hw1 => rds_bor hd227 w1 hw1) h301 (by rw [Nat.mul_one]) ?_
                      refine ow_r rfl (dstOk_lt rfl) (ry_load1 rfl rfl ty3 (at_elV (fun w1 hw1 => rds_bor hd227 w1 hw1) h301)) ?_
                      refine ow_batch [.p, .p] rfl ?_
                      refine ow_nil ?_
                      refine x_qs ?_
                      refine c_seq ?_
                      refine c_reg ?_
                      refine ow_batch [.p, .p, .p] rfl ?_
                      obtain ⟨x302, h303, H⟩ := of_bind H
                      refine ow_r rfl (dstOk_lt rfl) (ry_rem rfl rfl rfl h303) ?_
                      obtain ⟨e304, h305, H⟩ := of_bind H
                      refine ow_ixE (e := eVal (Value.int .i64) (fun _ => rfl)) (xs := l281) (j := x302) rfl rfl rfl rfl rfl sl22 ty3 rfl (fun w1 hw1 => rds_own (e := eList (eVal (Value.int .i64) (fun _ => rfl)) 3) (r := 2) rfl w1 hw1) h305 (by rw [Nat.mul_one]) ?_
                      refine ow_r rfl (dstOk_lt rfl) (ry_load1 rfl rfl ty3 (at_elV (fun w1 hw1 => rds_own (e := eList (eVal (Value.int .i64) (fun _ => rfl)) 3) (r := 2) rfl w1 hw1) h305)) ?_
                      refine ow_batch [.p, .p] rfl ?_
                      obtain ⟨e306, h307, H⟩ := of_bind H
                      refine ow_ixE (e := eVal (Value.int .i64) (fun _ => rfl)) (xs := l281) (j := x302) rfl rfl rfl rfl rfl sl22 ty3 rfl (fun w1 hw1 => rds_own (e := eList (eVal (Value.int .i64) (fun _ => rfl)) 3) (r := 2) rfl w1 hw1) h307 (by rw [Nat.mul_one]) ?_
                      refine ow_storeV (i := 2) (j := x302) rfl rfl rfl rfl rfl rfl ty3 rfl h307 (fun _ => rfl) kp ?_
                      refine ow_nil ?_
                      refine x_qs ?_
                      refine c_seq ?_
                      refine c_regQ mixed (by kernel_rfl) ?_
                      refine ow_batch [.p, .p, .p] rfl ?_
                      obtain ⟨x308, h309, H⟩ := of_bind H
                      refine ow_r rfl (dstOk_lt rfl) (ry_rem rfl rfl rfl h309) ?_
                      obtain ⟨e310, h311, H⟩ := of_bind H
                      refine ow_ixE (e := eVal (Value.int .i64) (fun _ => rfl)) (xs := (l281.set x302.toNat (IntKind.i64.wrap (e304 + e300)))) (j := x308) rfl rfl rfl rfl rfl sl22 ty3 rfl (fun w1 hw1 => rds_own (e := eList (eVal (Value.int .i64) (fun _ => rfl)) 3) (r := 2) rfl w1 hw1) h311 (by rw [Nat.mul_one]) ?_
                      refine ow_r rfl (dstOk_lt rfl) (ry_load1 rfl rfl ty3 (at_elV (fun w1 hw1 => rds_own (e := eList (eVal (Value.int .i64) (fun _ => rfl)) 3) (r := 2) rfl w1 hw1) h311)) ?_
                      refine ow_batch [.fa 74 0 0 fa74_0] rfl ?_
                      refine ow_r rfl (dstOk_lt rfl) (ry_box1 (off := 0) rfl rfl ty22 (boxIn (i := 1) rfl) rfl) ?_
                      refine ow_batch [.p, .p] rfl ?_
                      obtain ⟨x312, h313, H⟩ := of_bind H
                      refine ow_r rfl (dstOk_lt rfl) (ry_rem rfl rfl rfl h313) ?_
                      obtain ⟨e314, h315, H⟩ := of_bind H
                      refine ow_ixE (e := eVal (Value.int .i64) (fun _ => rfl)) (xs := p1.Totals_) (j := x312) rfl rfl rfl rfl rfl sl22 ty3 rfl (fun w1 hw1 => rds_bor g20 w1 hw1) h315 (by rw [Nat.mul_one]) ?_
                      refine ow_r rfl (dstOk_lt rfl) (ry_load1 rfl rfl ty3 (at_elV (fun w1 hw1 => rds_bor g20 w1 hw1) h315)) ?_
                      refine ow_batch [.p] rfl ?_
                      refine ow_nilQ ?_
                      refine x_qs ?_
                      refine c_if rfl (fun hb => ?_) (fun hb => ?_)
                      · have H := of_if_t hb H
                        refine c_seq ?_
                        refine c_reg ?_
                        refine ow_batch [.p] rfl ?_
                        refine ow_nil ?_
                        refine x_qs ?_
                        refine c_ret ?_
                        refine x_qb_ret ?_
                        refine x_qs_ret ?_
                        refine x_ql_ret ?_
                        refine x_qb_ret ?_
                        refine x_qb_ret ?_
                        refine x_qs_ret ?_
                        refine x_ql_ret ?_
                        refine x_qb_ret ?_
                        refine x_qs_ret ?_
                        exact x_retR (rs := [.tmp 4]) (vs := [.bool false]) rfl ⟨rfl, trivial⟩ (fun w' hw' => by
                            obtain rfl := of_some H
                            exact ⟨rfl, hw'.ext⟩)
                      · have H := of_if_f hb H
                        refine c_skip ?_
                        refine x_qb ?_
                        refine x_qs ?_
                        refine c_reg ?_
                        refine ow_batch [.p, .p] rfl ?_
                        refine ow_nil ?_
                        exact x_ql (RW.at (ihk2 (IntKind.i64.wrap (i280 + 1)) ((l281.set x302.toNat (IntKind.i64.wrap (e304 + e300)))) (H)) (fun _ h => St.sel [0, 1, 2] rfl rfl h) ⟨rfl, rfl, rfl, rfl, rfl, rfl, rfl, rfl, rfl, rfl, trivial⟩)
                    · have H := of_if_f hb H
                      refine c_exit ?_
                      refine x_qs_exit ?_
                      refine x_ql_exit ?_
                      refine x_qb_here ?_
                      refine x_qb ?_
                      refine x_qs ?_
                      refine c_reg ?_
                      refine ow_batch [.p, .p] rfl ?_
                      refine ow_nil ?_
                      exact x_ql (RW.at (ihk1 (IntKind.i64.wrap (i132 + 1)) (H)) (fun _ h => St.sel [0, 1] rfl rfl h) ⟨rfl, rfl, rfl, rfl, rfl, rfl, trivial⟩)
              · have H := of_if_f hb H
                refine c_exit ?_
                refine x_qs_exit ?_
                refine x_ql_exit ?_
                refine x_qb_here ?_
                refine x_qs ?_
                refine c_seq ?_
                refine c_reg ?_
                refine ow_batch [.p] rfl ?_
                refine ow_nil ?_
                refine x_qs ?_
                refine c_ret ?_
                exact x_retR (rs := [.tmp 4]) (vs := [.bool true]) rfl ⟨rfl, trivial⟩ (fun w' hw' => by
                    obtain rfl := of_some H
                    exact ⟨rfl, hw'.ext⟩)
    · clear H
      have H := hu39
      clear hu39
      generalize u30 = t38 at H key ⊢
      cases t38
      · have H := of_if_f rfl H
        refine ow_batch [.fa 74 0 0 fa74_0] rfl ?_
        refine ow_r rfl (dstOk_lt rfl) (ry_box1 (off := 0) rfl rfl ty22 (boxIn (i := 1) rfl) rfl) ?_
        obtain ⟨y36, h37, H⟩ := of_bind H
        refine ow_q rfl rfl (dstOk_lt rfl) (qy_call rfl fn105 rfl (fun w1 hw1 => impl_total_ok w1  h37 (rds_bor g20 w1 hw1))) (fun _ _ => trivial) ?_
        refine ow_batch [.p] rfl ?_
        refine ow_batch [.p] rfl ?_
        obtain rfl := of_some H
        exact OW.sub key ⟨rfl, rfl, rfl, rfl, trivial⟩
      · have H := of_if_t rfl H
        refine ow_batch [.p, .p, .p, .p, .p] rfl ?_
        obtain rfl := of_some H
        exact OW.sub key ⟨rfl, rfl, rfl, rfl, trivial⟩
  · clear H
    have H := hu34
    clear hu34
    generalize (!y28) = t33 at H key ⊢
    cases t33
    · have H := of_if_f rfl H
      refine ow_batch [.fa 74 0 0 fa74_0] rfl ?_
      refine ow_r rfl (dstOk_lt rfl) (ry_box1 (off := 0) rfl rfl ty22 (boxIn (i := 1) rfl) rfl) ?_
      refine ow_batch [.p] rfl ?_
      obtain ⟨y31, h32, H⟩ := of_bind H
      refine ow_q rfl rfl (dstOk_lt rfl) (qy_call rfl fn117 rfl (fun w1 hw1 => impl_weights_ok w1  h32 (rds_bor g20 w1 hw1))) (fun _ _ => trivial) ?_
      refine ow_batch [.p] rfl ?_
      refine ow_batch [.p] rfl ?_
      obtain rfl := of_some H
      exact OW.sub key ⟨rfl, rfl, rfl, rfl, trivial⟩
    · have H := of_if_t rfl H
      refine ow_batch [.p, .p, .p, .p, .p, .p] rfl ?_
      obtain rfl := of_some H
      exact OW.sub key ⟨rfl, rfl, rfl, rfl, trivial⟩

set_option maxHeartbeats 4000000 in
set_option maxRecDepth 100000 in
theorem impl_active_ok (w : World) {p0 : Timpl_Node} {cs0 : List Value} {r : Bool} (H : impl_active p0 = some r)  (g0 : (eTimpl_Node).rd w [] p0 cs0) :
    Calls Tryd.prog 88 #[.agg cs0.toArray] w (fun en w' => en = .returned (.bool r) ∧ Ext [] w w') := by
  obtain ⟨c10, c11, c12, c13, c14, c15, c16, c17, c18, c19, rfl, g20, g21, g22, g23, g24, g25, g26, g27, g28, g29⟩ := rdo_Timpl_Node g0
  obtain rfl : c10 = [.bool p0.Leaf_] := g20
  obtain rfl : c11 = [.int .i64 p0.Fork_.Attr_, .int .i64 p0.Fork_.At_] := g21
  obtain ⟨a30, c31, rfl⟩ := rd_sl1 g22
  obtain rfl : c13 = [.int .i64 p0.Miss_] := g23
  obtain ⟨c32, c33, rfl, g34, g35⟩ := rdo_Timpl_Stats g24
  obtain ⟨a36, c37, rfl⟩ := rd_sl1 g34
  obtain ⟨a38, c39, rfl⟩ := rd_sl1 g35
  obtain rfl : c15 = [.int .i64 p0.Since_] := g25
  obtain ⟨a40, c41, rfl⟩ := rd_sl1 g26
  obtain rfl : c17 = [.int .i64 p0.Depth_] := g27
  obtain rfl : c18 = [.int .i64 p0.Up_] := g28
  obtain rfl : c19 = [.int .i64 p0.Born_] := g29
  unfold impl_active at H
  refine f_enter (vs := [.agg #[.bool p0.Leaf_, .int .i64 p0.Fork_.Attr_, .int .i64 p0.Fork_.At_, .slice a30 p0.Kids_.length c31, .int .i64 p0.Miss_, .slice a36 p0.Stats_.Totals_.length c37, .slice a38 p0.Stats_.Cells_.length c39, .int .i64 p0.Since_, .slice a40 p0.Attrs_.length c41, .int .i64 p0.Depth_, .int .i64 p0.Up_, .int .i64 p0.Born_]]) Tryd.func88 rfl Tryd.ntmps88 rfl (St.init w []) ?_
  refine c_seq ?_
  refine c_reg ?_
  refine ow_box (cs := [.bool p0.Leaf_, .int .i64 p0.Fork_.Attr_, .int .i64 p0.Fork_.At_, .slice a30 p0.Kids_.length c31, .int .i64 p0.Miss_, .slice a36 p0.Stats_.Totals_.length c37, .slice a38 p0.Stats_.Cells_.length c39, .int .i64 p0.Since_, .slice a40 p0.Attrs_.length c41, .int .i64 p0.Depth_, .int .i64 p0.Up_, .int .i64 p0.Born_]) rfl rfl rfl rfl rfl rfl (fun _ => kp) (fun b42 => ?_)
  refine ow_batch [.p] rfl ?_
  refine ow_nil ?_
  refine x_qs ?_
  refine c_seq ?_
  refine c_reg ?_
  refine ow_batch [.fa 76 0 0 fa76_0] rfl ?_
  refine ow_r rfl (dstOk_lt rfl) (ry_box1 (off := 0) rfl rfl ty4 (boxIn (i := 0) rfl) rfl) ?_
  refine ow_batch [.p] rfl ?_
  refine ow_cut [(11, .bool (p0.Leaf_ && (decide ((p0.Stats_.Cells_.length : Int) > 0)))), (2, .bool false)] 6 ?_ (fun key => OW.sub (R := [(1, .pointer (some ⟨b42, 0, none⟩)), (2, .bool false), (5, .bool p0.Leaf_)]) ?_ ⟨rfl, rfl, rfl, trivial⟩)
  · refine ow_batch [.p] rfl ?_
    refine ow_nil ?_
    refine x_qs ?_
    refine c_ret ?_
    exact x_retR (rs := [.tmp 2]) (vs := [.bool (p0.Leaf_ && (decide ((p0.Stats_.Cells_.length : Int) > 0)))]) rfl ⟨rfl, trivial⟩ (fun w' hw' => by
        obtain rfl := of_some H
        exact ⟨rfl, hw'.ext⟩)
  · generalize p0.Leaf_ = t44 at key ⊢
    cases t44
    · refine ow_batch [.p, .p, .p, .p, .p, .p] rfl ?_
      exact OW.sub key ⟨rfl, rfl, trivial⟩
    · refine ow_batch [.fa 76 4 5 fa76_4, .fa 74 1 1 fa74_1] rfl ?_
      refine ow_r rfl (dstOk_lt rfl) (ry_box1 (off := 6) rfl rfl ty27 (boxIn (i := 0) rfl) rfl) ?_
      refine ow_batch [.lenS 27 22 sl27, .p] rfl ?_
      refine ow_batch [.p] rfl ?_
      exact OW.sub key ⟨rfl, rfl, trivial⟩

set_option maxHeartbeats 4000000 in
set_option maxRecDepth 100000 in
theorem impl_Digits_ok (w : World) {p0 : Int}  {r : List UInt8} (H : impl_Digits p0 = some r)  (gT : (ePow10 Tryd.prog).rd w [] () []) :
    Calls Tryd.prog 45 #[.int .i64 p0] w (fun en w' => en = .returned (vS r) ∧ Ext [] w w') := by
  unfold impl_Digits at H
  refine f_enter (vs := [.int .i64 p0]) Tryd.func45 rfl Tryd.ntmps45 rfl (St.init w []) ?_
  refine c_seq ?_
  refine c_reg ?_
  refine ow_batch [.p] rfl ?_
  refine ow_nil ?_
  refine x_qs ?_
  refine c_seq ?_
  refine c_reg ?_
  refine ow_batch [.p] rfl ?_
  obtain ⟨s10, h11, H⟩ := of_bind H
  refine ow_q rfl rfl (dstOk_lt rfl) (qy_call rfl fn98 rfl (fun w1 hw1 => itoa_ok Tryd.laysM171 w1 h11 (rds_bor gT w1 hw1))) (fun _ _ => trivial) ?_
  refine ow_batch [.p] rfl ?_
  refine ow_nil ?_
  refine x_qs ?_
  refine c_ret ?_
  exact x_retR (rs := [.tmp 2]) (vs := [vS s10]) rfl ⟨rfl, trivial⟩ (fun w' hw' => by
      obtain rfl := of_some H
      exact ⟨rfl, hw'.ext⟩)

set_option maxHeartbeats 4000000 in
set_option maxRecDepth 100000 in
theorem impl_numbersText_ok (w : World) {p0 : List Int} {p1 : List UInt8} {a_0 : Option Addr} {n_0 c_0 : Nat} {r : List UInt8} (H : impl_numbersText p0 p1 = some r)  (g0 : (eList (eVal (Value.int .i64) (fun _ => rfl)) 3).rd w [] p0 [.slice a_0 n_0 c_0]) (gT : (ePow10 Tryd.prog).rd w [] () []) :
    Calls Tryd.prog 37 #[.slice a_0 n_0 c_0, vS p1] w (fun en w' => en = .returned (vS r) ∧ Ext [] w w') := by
  obtain rfl := rd_n g0
  unfold impl_numbersText at H
  refine f_enter (vs := [.slice a_0 p0.length c_0, vS p1]) Tryd.func37 rfl Tryd.ntmps37 rfl (St.init w []) ?_
  refine c_seq ?_
  refine c_reg ?_
  refine ow_batch [.p] rfl ?_
  refine ow_nil ?_
  refine x_qs ?_
  refine c_seq ?_
  refine c_reg ?_
  refine ow_blit0 (e := eStr) rfl rfl rfl rfl sl48 ty9 (fun _ => kp) (fun b10 => ?_)
  refine ow_batch [.p] rfl ?_
  refine ow_nil ?_
  refine x_qs ?_
  refine c_seq ?_
  refine c_seq ?_
  refine c_reg ?_
  refine ow_batch [.p, .lenS 22 3 sl22, .p] rfl ?_
  refine ow_nil ?_
  refine x_qs ?_
  refine c_block ?_
  refine CW.at (loopI5 (fun (i28 : Int) (l29 : List (List UInt8)) (a30 : Option Addr) (c31 : Nat) (F32 : List Nat) => St w [] [Res.own (eList (eStr) 9) F32 l29 [.slice a30 l29.length c31]]) (fun (i28 : Int) (l29 : List (List UInt8)) (a30 : Option Addr) (c31 : Nat) (F32 : List Nat) => [(1, vS p1), (5, .slice a30 l29.length c31), (9, .slice a_0 p0.length c_0), (10, .int .i64 (p0.length : Int)), (11, .int .i64 i28)]) (fun kk => fun (i28 : Int) (l29 : List (List UInt8)) (a30 : Option Addr) (c31 : Nat) (F32 : List Nat) => a30.isNone = false ∧ impl_numbersText_L1 p0 p1 kk i28 l29 = some r) (fun _ _ _ _ _ H => ?_) (fun k1 ihk1 i28 l29 a30 c31 F32 ⟨hz33, H⟩ => ?_) Fuel (0) (([] : List (List UInt8))) ((some ⟨b10, 0, none⟩)) (0) ([b10]) (⟨rfl, H⟩)) (fun _ h => St.sel [0] rfl rfl h) ⟨rfl, rfl, rfl, rfl, rfl,  trivial⟩
  · unfold impl_numbersText_L1 at H
    exact absurd H (by simp)
  · unfold impl_numbersText_L1 at H
    refine c_seq ?_
    refine c_reg ?_
    refine ow_batch [.p] rfl ?_
    refine ow_nil ?_
    refine x_qs ?_
    refine c_seq ?_
    refine c_if rfl (fun hb => ?_) (fun hb => ?_)
    · have H := of_if_t hb H
      refine c_skip ?_
      refine x_qs ?_
      refine c_seq ?_
      refine c_block ?_
      refine c_seq ?_
      refine c_reg ?_
      obtain ⟨e51, h52, H⟩ := of_bind H
      refine ow_ixE (e := eVal (Value.int .i64) (fun _ => rfl)) (xs := p0) (j := i28) rfl rfl rfl rfl rfl sl22 ty3 rfl (fun w1 hw1 => rds_bor g0 w1 hw1) h52 (by rw [Nat.mul_one]) ?_
      refine ow_r rfl (dstOk_lt rfl) (ry_load1 rfl rfl ty3 (at_elV (fun w1 hw1 => rds_bor g0 w1 hw1) h52)) ?_
      refine ow_batch [.p] rfl ?_
      refine ow_nil ?_
      refine x_qs ?_
      refine c_reg ?_
      refine ow_batch [.p, .p] rfl ?_
      obtain ⟨y53, h54, H⟩ := of_bind H
      refine ow_q rfl rfl (dstOk_lt rfl) (qy_call rfl fn45 rfl (fun w1 hw1 => impl_Digits_ok w1  h54 (rds_bor gT w1 hw1))) (fun _ _ => trivial) ?_
      refine ow_blit (val := vS) (h1 := fun _ => rfl) [y53] [(0, [vS y53])] rfl rfl rfl rfl rfl sl48 ty9 rfl rfl rfl ⟨rfl, rfl, Nat.le_of_ble_eq_true rfl,  trivial⟩ rfl rfl (fun _ => kp) (fun b55 => ?_)
      obtain ⟨l56, h57, H⟩ := of_bind H
      refine ow_appR (r := 0) (ys := ([y53] : List (List UInt8))) rfl rfl rfl rfl rfl rfl sl48 ty9 rfl rfl rfl (fun w1 hw1 => rds_own (e := eList (eStr) 9) (r := 1) rfl w1 hw1) h57 (fun _ _ _ => kp) (fun a58 c59 F60 => ?_)
      refine ow_fact rfl (fun w1 hw1 => own_nn (i := 0) hw1 rfl (app_ne h57)) (fun hz61 => ?_)
      refine ow_batch [.p] rfl ?_
      refine ow_nil ?_
      refine x_qb ?_
      refine x_qs ?_
      refine c_reg ?_
      refine ow_batch [.p, .p] rfl ?_
      refine ow_nil ?_
      exact x_ql (RW.at (ihk1 (IntKind.i64.wrap (i28 + 1)) (l56) (a58) (c59) (F60) (⟨hz61, H⟩)) (fun _ h => St.sel [0] rfl rfl h) ⟨rfl, rfl, rfl, rfl, rfl, trivial⟩)
    · have H := of_if_f hb H
      refine c_exit ?_
      refine x_qs_exit ?_
      refine x_ql_exit ?_
      refine x_qb_here ?_
      refine x_qs ?_
      refine c_seq ?_
      refine c_reg ?_
      refine ow_batch [.p, .p] rfl ?_
      obtain ⟨s62, h63, H⟩ := of_bind H
      refine ow_q rfl rfl (dstOk_lt rfl) (qy_call rfl fn59 rfl (fun w1 hw1 => join_ok (T := 9) Tryd.lays156 Tryd.Builder_Extra_156 w1 h63 (rds_own (e := eList (eStr) 9) (r := 0) rfl w1 hw1))) (fun _ _ => trivial) ?_
      refine ow_batch [.p] rfl ?_
      refine ow_nil ?_
      refine x_qs ?_
      refine c_ret ?_
      exact x_retR (rs := [.tmp 4]) (vs := [vS s62]) rfl ⟨rfl, trivial⟩ (fun w' hw' => by
          obtain rfl := of_some H
          exact ⟨rfl, hw'.ext⟩)

set_option maxHeartbeats 4000000 in
set_option maxRecDepth 100000 in
theorem impl_TotalsText_ok (w : World) {p0 : List Int} {a_0 : Option Addr} {n_0 c_0 : Nat} {r : List UInt8} (H : impl_TotalsText p0 = some r)  (g0 : (eList (eVal (Value.int .i64) (fun _ => rfl)) 3).rd w [] p0 [.slice a_0 n_0 c_0]) (gT : (ePow10 Tryd.prog).rd w [] () []) :
    Calls Tryd.prog 10 #[.slice a_0 n_0 c_0] w (fun en w' => en = .returned (vS r) ∧ Ext [] w w') := by
  obtain rfl := rd_n g0
  unfold impl_TotalsText at H
  refine f_enter (vs := [.slice a_0 p0.length c_0]) Tryd.func10 rfl Tryd.ntmps10 rfl (St.init w []) ?_
  refine c_seq ?_
  refine c_reg ?_
  refine ow_batch [.p] rfl ?_
  refine ow_nil ?_
  refine x_qs ?_
  refine c_seq ?_
  refine c_reg ?_
  refine ow_batch [.p] rfl ?_
  obtain ⟨y10, h11, H⟩ := of_bind H
  refine ow_q rfl rfl (dstOk_lt rfl) (qy_call rfl fn37 rfl (fun w1 hw1 => impl_numbersText_ok w1  h11 (rds_bor g0 w1 hw1) (rds_bor gT w1 hw1))) (fun _ _ => trivial) ?_
  refine ow_batch [.p] rfl ?_
  refine ow_nil ?_
  refine x_qs ?_
  refine c_ret ?_
  exact x_retR (rs := [.tmp 2]) (vs := [vS y10]) rfl ⟨rfl, trivial⟩ (fun w' hw' => by
      obtain rfl := of_some H
      exact ⟨rfl, hw'.ext⟩)

set_option maxHeartbeats 4000000 in
set_option maxRecDepth 100000 in
theorem lib_slices_Max___int_int__ok (w : World) {p0 : List Int} {a_0 : Option Addr} {n_0 c_0 : Nat} {r : Int} (H : lib_slices_Max___int_int_ p0 = some r)  (g0 : (eList (eVal (Value.int .i64) (fun _ => rfl)) 3).rd w [] p0 [.slice a_0 n_0 c_0]) :
    Calls Tryd.prog 120 #[.slice a_0 n_0 c_0] w (fun en w' => en = .returned (.int .i64 r) ∧ Ext [] w w') := by
  obtain rfl := rd_n g0
  unfold lib_slices_Max___int_int_ at H
  refine f_enter (vs := [.slice a_0 p0.length c_0]) Tryd.func120 rfl Tryd.ntmps120 rfl (St.init w []) ?_
  refine c_seq ?_
  refine c_reg ?_
  refine ow_batch [.p] rfl ?_
  refine ow_nil ?_
  refine x_qs ?_
  refine c_seq ?_
  refine c_seq ?_
  refine c_reg ?_
  refine ow_batch [.p, .lenS 22 3 sl22, .p] rfl ?_
  refine ow_nil ?_
  refine x_qs ?_
  refine c_if rfl (fun hb => ?_) (fun hb => ?_)
  · have H := of_if_t hb H
    exact nomatch H
  · have H := of_if_f hb H
    refine c_skip ?_
    refine x_qs ?_
    refine c_seq ?_
    refine c_reg ?_
    refine ow_batch [.p] rfl ?_
    obtain ⟨e10, h11, H⟩ := of_bind H
    refine ow_ixE (e := eVal (Value.int .i64) (fun _ => rfl)) (xs := p0) (j := 0) rfl rfl rfl rfl rfl sl22 ty3 rfl (fun w1 hw1 => rds_bor g0 w1 hw1) h11 (by rw [Nat.mul_one]) ?_
    refine ow_r rfl (dstOk_lt rfl) (ry_load1 rfl rfl ty3 (at_elV (fun w1 hw1 => rds_bor g0 w1 hw1) h11)) ?_
    refine ow_batch [.p] rfl ?_
    refine ow_nil ?_
    refine x_qs ?_
    refine c_seq ?_
    refine c_seq ?_
    refine c_reg ?_
    refine ow_batch [.p] rfl ?_
    refine ow_nil ?_
    refine x_qs ?_
    refine c_block ?_
    refine CW.at (loopI2 (fun (i17 : Int) (i18 : Int) => St w [] []) (fun (i17 : Int) (i18 : Int) => [(0, .slice a_0 p0.length c_0), (3, .int .i64 i17), (4, .int .i64 i18)]) (fun kk => fun (i17 : Int) (i18 : Int) => lib_slices_Max___int_int__L1 p0 kk i17 i18 = some r) (fun _ _ H => ?_) (fun k1 ihk1 i17 i18 H => ?_) Fuel (e10) (1) (H)) (fun _ h => St.sel [] rfl rfl h) ⟨rfl, rfl, rfl,  trivial⟩
    · unfold lib_slices_Max___int_int__L1 at H
      exact absurd H (by simp)
    · unfold lib_slices_Max___int_int__L1 at H
      refine c_seq ?_
      refine c_seq ?_
      refine c_reg ?_
      refine ow_batch [.p, .p, .lenS 22 3 sl22, .p] rfl ?_
      refine ow_nil ?_
      refine x_qs ?_
      refine c_if rfl (fun hb => ?_) (fun hb => ?_)
      · have H := of_if_t hb H
        refine c_skip ?_
        refine x_qs ?_
        refine c_seq ?_
        refine c_block ?_
        refine c_reg ?_
        refine ow_batch [.p, .p, .p] rfl ?_
        obtain ⟨e23, h24, H⟩ := of_bind H
        refine ow_ixE (e := eVal (Value.int .i64) (fun _ => rfl)) (xs := p0) (j := i18) rfl rfl rfl rfl rfl sl22 ty3 rfl (fun w1 hw1 => rds_bor g0 w1 hw1) h24 (by rw [Nat.mul_one]) ?_
        refine ow_r rfl (dstOk_lt rfl) (ry_load1 rfl rfl ty3 (at_elV (fun w1 hw1 => rds_bor g0 w1 hw1) h24)) ?_
        refine ow_r rfl (dstOk_lt rfl) (ry_max rfl rfl rfl) ?_
        refine ow_batch [.p] rfl ?_
        refine ow_nil ?_
        refine x_qb ?_
        refine x_qs ?_
        refine c_reg ?_
        refine ow_batch [.p, .p, .p] rfl ?_
        refine ow_nil ?_
        exact x_ql (RW.at (ihk1 ((if i17 < e23 then e23 else i17)) (IntKind.i64.wrap (i18 + 1)) (H)) (fun _ h => St.sel [] rfl rfl h) ⟨rfl, rfl, rfl, trivial⟩)
      · have H := of_if_f hb H
        refine c_exit ?_
        refine x_qs_exit ?_
        refine x_ql_exit ?_
        refine x_qb_here ?_
        refine x_qs ?_
        refine c_seq ?_
        refine c_reg ?_
        refine ow_batch [.p, .p] rfl ?_
        refine ow_nil ?_
        refine x_qs ?_
        refine c_ret ?_
        exact x_retR (rs := [.tmp 2]) (vs := [.int .i64 i17]) rfl ⟨rfl, trivial⟩ (fun w' hw' => by
            obtain rfl := of_some H
            exact ⟨rfl, hw'.ext⟩)

set_option maxHeartbeats 4000000 in
set_option maxRecDepth 100000 in
theorem lib_slices_Index___int_int__ok (w : World) {p0 : List Int} {p1 : Int} {a_0 : Option Addr} {n_0 c_0 : Nat} {r : Int} (H : lib_slices_Index___int_int_ p0 p1 = some r)  (g0 : (eList (eVal (Value.int .i64) (fun _ => rfl)) 3).rd w [] p0 [.slice a_0 n_0 c_0]) :
    Calls Tryd.prog 119 #[.slice a_0 n_0 c_0, .int .i64 p1] w (fun en w' => en = .returned (.int .i64 r) ∧ Ext [] w w') := by
  obtain rfl := rd_n g0
  unfold lib_slices_Index___int_int_ at H
  refine f_enter (vs := [.slice a_0 p0.length c_0, .int .i64 p1]) Tryd.func119 rfl Tryd.ntmps119 rfl (St.init w []) ?_
  refine c_seq ?_
  refine c_reg ?_
  refine ow_batch [.p] rfl ?_
  refine ow_nil ?_
  refine x_qs ?_
  refine c_seq ?_
  refine c_seq ?_
  refine c_reg ?_
  refine ow_batch [.p, .lenS 22 3 sl22, .p] rfl ?_
  refine ow_nil ?_
  refine x_qs ?_
  refine c_block ?_
  refine CW.at (loopI1 (fun (i13 : Int) => St w [] []) (fun (i13 : Int) => [(0, .slice a_0 p0.length c_0), (1, .int .i64 p1), (7, .int .i64 (p0.length : Int)), (8, .int .i64 i13)]) (fun kk => fun (i13 : Int) => lib_slices_Index___int_int__L1 p0 p1 kk i13 = some r) (fun _ H => ?_) (fun k1 ihk1 i13 H => ?_) Fuel (0) (H)) (fun _ h => St.sel [] rfl rfl h) ⟨rfl, rfl, rfl, rfl,  trivial⟩
  · unfold lib_slices_Index___int_int__L1 at H
    exact absurd H (by simp)
  · unfold lib_slices_Index___int_int__L1 at H
    refine c_seq ?_
    refine c_reg ?_
    refine ow_batch [.p] rfl ?_
    refine ow_nil ?_
    refine x_qs ?_
    refine c_seq ?_
    refine c_if rfl (fun hb => ?_) (fun hb => ?_)
    · have H := of_if_t hb H
      refine c_skip ?_
      refine x_qs ?_
      refine c_seq ?_
      refine c_block ?_
      refine c_seq ?_
      refine c_reg ?_
      refine ow_batch [.p, .p] rfl ?_
      refine ow_nil ?_
      refine x_qs ?_
      refine c_seq ?_
      refine c_reg ?_
      refine ow_batch [.p, .p, .p] rfl ?_
      obtain ⟨e18, h19, H⟩ := of_bind H
      refine ow_ixE (e := eVal (Value.int .i64) (fun _ => rfl)) (xs := p0) (j := i13) rfl rfl rfl rfl rfl sl22 ty3 rfl (fun w1 hw1 => rds_bor g0 w1 hw1) h19 (by rw [Nat.mul_one]) ?_
      refine ow_r rfl (dstOk_lt rfl) (ry_load1 rfl rfl ty3 (at_elV (fun w1 hw1 => rds_bor g0 w1 hw1) h19)) ?_
      refine ow_batch [.p] rfl ?_
      refine ow_nil ?_
      refine x_qs ?_
      refine c_if rfl (fun hb => ?_) (fun hb => ?_)
      · have H := of_if_t hb H
        refine c_seq ?_
        refine c_reg ?_
        refine ow_batch [.p, .p] rfl ?_
        refine ow_nil ?_
        refine x_qs ?_
        refine c_ret ?_
        refine x_qb_ret ?_
        refine x_qs_ret ?_
        refine x_ql_ret ?_
        refine x_qb_ret ?_
        refine x_qs_ret ?_
        exact x_retR (rs := [.tmp 4]) (vs := [.int .i64 i13]) rfl ⟨rfl, trivial⟩ (fun w' hw' => by
            obtain rfl := of_some H
            exact ⟨rfl, hw'.ext⟩)
      · have H := of_if_f hb H
        refine c_skip ?_
        refine x_qb ?_
        refine x_qs ?_
        refine c_reg ?_
        refine ow_batch [.p, .p] rfl ?_
        refine ow_nil ?_
        exact x_ql (RW.at (ihk1 (IntKind.i64.wrap (i13 + 1)) (H)) (fun _ h => St.sel [] rfl rfl h) ⟨rfl, rfl, rfl, rfl, trivial⟩)
    · have H := of_if_f hb H
      refine c_exit ?_
      refine x_qs_exit ?_
      refine x_ql_exit ?_
      refine x_qb_here ?_
      refine x_qs ?_
      refine c_seq ?_
      refine c_reg ?_
      refine ow_batch [.p] rfl ?_
      refine ow_nil ?_
      refine x_qs ?_
      refine c_ret ?_
      exact x_retR (rs := [.tmp 4]) (vs := [.int .i64 (-1)]) rfl ⟨rfl, trivial⟩ (fun w' hw' => by
          obtain rfl := of_some H
          exact ⟨rfl, hw'.ext⟩)

set_option maxHeartbeats 4000000 in
set_option maxRecDepth 100000 in
theorem impl_TopOf_ok (w : World) {p0 : List Int} {a_0 : Option Addr} {n_0 c_0 : Nat} {r : Int} (H : impl_TopOf p0 = some r)  (g0 : (eList (eVal (Value.int .i64) (fun _ => rfl)) 3).rd w [] p0 [.slice a_0 n_0 c_0]) :
    Calls Tryd.prog 89 #[.slice a_0 n_0 c_0] w (fun en w' => en = .returned (.int .i64 r) ∧ Ext [] w w') := by
  obtain rfl := rd_n g0
  unfold impl_TopOf at H
  refine f_enter (vs := [.slice a_0 p0.length c_0]) Tryd.func89 rfl Tryd.ntmps89 rfl (St.init w []) ?_
  refine c_seq ?_
  refine c_reg ?_
  refine ow_batch [.p] rfl ?_
  refine ow_nil ?_
  refine x_qs ?_
  refine c_seq ?_
  refine c_seq ?_
  refine c_reg ?_
  refine ow_batch [.p, .lenS 22 3 sl22, .p] rfl ?_
  refine ow_nil ?_
  refine x_qs ?_
  refine c_if rfl (fun hb => ?_) (fun hb => ?_)
  · have H := of_if_t hb H
    refine c_seq ?_
    refine c_reg ?_
    refine ow_batch [.p] rfl ?_
    refine ow_nil ?_
    refine x_qs ?_
    refine c_ret ?_
    refine x_qs_ret ?_
    exact x_retR (rs := [.tmp 2]) (vs := [.int .i64 (-1)]) rfl ⟨rfl, trivial⟩ (fun w' hw' => by
        obtain rfl := of_some H
        exact ⟨rfl, hw'.ext⟩)
  · have H := of_if_f hb H
    refine c_skip ?_
    refine x_qs ?_
    refine c_seq ?_
    refine c_reg ?_
    refine ow_batch [.p, .p] rfl ?_
    obtain ⟨y10, h11, H⟩ := of_bind H
    refine ow_q rfl rfl (dstOk_lt rfl) (qy_call rfl fn120 rfl (fun w1 hw1 => lib_slices_Max___int_int__ok w1  h11 (rds_bor g0 w1 hw1))) (fun _ _ => trivial) ?_
    obtain ⟨y12, h13, H⟩ := of_bind H
    refine ow_q rfl rfl (dstOk_lt rfl) (qy_call rfl fn119 rfl (fun w1 hw1 => lib_slices_Index___int_int__ok w1  h13 (rds_bor g0 w1 hw1))) (fun _ _ => trivial) ?_
    refine ow_batch [.p] rfl ?_
    refine ow_nil ?_
    refine x_qs ?_
    refine c_ret ?_
    exact x_retR (rs := [.tmp 2]) (vs := [.int .i64 y12]) rfl ⟨rfl, trivial⟩ (fun w' hw' => by
        obtain rfl := of_some H
        exact ⟨rfl, hw'.ext⟩)

set_option maxHeartbeats 4000000 in
set_option maxRecDepth 100000 in
theorem impl_ForkOk_ok (w : World) {p0 : Timpl_Schema} {p1 : Timpl_Fork} {cs0 : List Value} {r : Bool} (H : impl_ForkOk p0 p1 = some r)  (g0 : (eTimpl_Schema).rd w [] p0 cs0) :
    Calls Tryd.prog 90 #[.agg cs0.toArray, .agg #[.int .i64 p1.Attr_, .int .i64 p1.At_]] w (fun en w' => en = .returned (.bool r) ∧ Ext [] w w') := by
  obtain ⟨c10, c11, rfl, g12, g13⟩ := rdo_Timpl_Schema g0
  obtain ⟨a14, c15, rfl⟩ := rd_sl1 g12
  obtain ⟨a16, c17, rfl⟩ := rd_sl1 g13
  unfold impl_ForkOk at H
  refine f_enter (vs := [.agg #[.slice a14 p0.Attrs_.length c15, .slice a16 p0.Classes_.length c17], .agg #[.int .i64 p1.Attr_, .int .i64 p1.At_]]) Tryd.func90 rfl Tryd.ntmps90 rfl (St.init w []) ?_
  refine c_seq ?_
  refine c_reg ?_
  refine ow_box (cs := [.slice a14 p0.Attrs_.length c15, .slice a16 p0.Classes_.length c17]) rfl rfl rfl rfl rfl rfl (fun _ => kp) (fun b18 => ?_)
  refine ow_box (cs := [.int .i64 p1.Attr_, .int .i64 p1.At_]) rfl rfl rfl rfl rfl rfl (fun _ => kp) (fun b19 => ?_)
  refine ow_batch [.p] rfl ?_
  refine ow_nil ?_
  refine x_qs ?_
  refine c_seq ?_
  refine c_seq ?_
  refine c_reg ?_
  refine ow_r rfl (dstOk_lt rfl) (ry_box (off := 0) (ds := [.slice a14 p0.Attrs_.length c15, .slice a16 p0.Classes_.length c17]) rfl rfl ty58 (boxIn (i := 0) rfl) rfl rfl) ?_
  obtain ⟨y20, h21, H⟩ := of_bind H
  refine ow_q rfl rfl (dstOk_lt rfl) (qy_call rfl fn114 rfl (fun w1 hw1 => impl_SchemaOk_ok w1 (cs0 := [.slice a14 p0.Attrs_.length c15, .slice a16 p0.Classes_.length c17]) h21 (rdm_Timpl_Schema (x := p0) (c0 := [.slice a14 p0.Attrs_.length c15]) (c1 := [.slice a16 p0.Classes_.length c17]) (rds_bor g12 w1 hw1) (rds_bor g13 w1 hw1)))) (fun _ _ => trivial) ?_
  refine ow_batch [.p, .p] rfl ?_
  obtain ⟨u22, hu26, H⟩ := of_bind H
  refine ow_cut [(19, .bool u22), (2, .pointer (some ⟨b18, 0, none⟩)), (3, .pointer (some ⟨b19, 0, none⟩))] 9 ?_ (fun key => OW.sub (R := [(2, .pointer (some ⟨b18, 0, none⟩)), (3, .pointer (some ⟨b19, 0, none⟩)), (10, .bool (!y20))]) ?_ ⟨rfl, rfl, rfl, trivial⟩)
  · refine ow_nil ?_
    refine x_qs ?_
    refine c_if rfl (fun hb => ?_) (fun hb => ?_)
    · have H := of_if_t hb H
      refine c_seq ?_
      refine c_reg ?_
      refine ow_batch [.p] rfl ?_
      refine ow_nil ?_
      refine x_qs ?_
      refine c_ret ?_
      refine x_qs_ret ?_
      exact x_retR (rs := [.tmp 4]) (vs := [.bool false]) rfl ⟨rfl, trivial⟩ (fun w' hw' => by
          obtain rfl := of_some H
          exact ⟨rfl, hw'.ext⟩)
    · have H := of_if_f hb H
      refine c_skip ?_
      refine x_qs ?_
      refine c_seq ?_
      refine c_reg ?_
      refine ow_batch [.fa 58 0 0 fa58_0] rfl ?_
      refine ow_r rfl (dstOk_lt rfl) (ry_box1 (off := 0) rfl rfl ty56 (boxIn (i := 0) rfl) rfl) ?_
      refine ow_batch [.fa 73 0 0 fa73_0] rfl ?_
      refine ow_r rfl (dstOk_lt rfl) (ry_box1 (off := 0) rfl rfl ty3 (boxIn (i := 1) rfl) rfl) ?_
      obtain ⟨e27, h28, H⟩ := of_bind H
      refine ow_ixB rfl rfl rfl rfl rfl sl56 ty105 rfl g12 h28 (fun q31 c32 hd29 hA30 => ?_)
      obtain ⟨c33, c34, c35, rfl, g36, g37, g38⟩ := rdo_Timpl_Attr hd29
      obtain rfl : c33 = [vS e27.Name_] := g36
      obtain ⟨a39, c40, rfl⟩ := rd_sl1 g37
      obtain ⟨a41, c42, rfl⟩ := rd_sl1 g38
      refine ow_r rfl (dstOk_lt rfl) (ry_load (cs := [vS e27.Name_, .slice a39 e27.Cuts_.length c40, .slice a41 e27.Values_.length c42]) rfl rfl ty105 (at_bor bor hA30) rfl) ?_
      refine ow_alloc rfl rfl rfl rfl ty105 (fun _ => kp) (fun b43 => ?_)
      refine ow_storeC (off := 0) [vS e27.Name_, .slice a39 e27.Cuts_.length c40, .slice a41 e27.Values_.length c42] [_, _, _] (i := 2) rfl rfl rfl rfl rfl rfl ty105 rfl rfl (by intro u hu; simp only [List.mem_cons, List.not_mem_nil, or_false] at hu; rcases hu with rfl | rfl | rfl <;> rfl) rfl rfl rfl kp ?_
      refine ow_nil ?_
      refine x_qs ?_
      refine c_seq ?_
      refine c_reg ?_
      refine ow_r rfl (dstOk_lt rfl) (ry_box (off := 0) (ds := [vS e27.Name_, .slice a39 e27.Cuts_.length c40, .slice a41 e27.Values_.length c42]) rfl rfl ty105 (boxIn (i := 2) rfl) rfl rfl) ?_
      obtain ⟨y44, h45, H⟩ := of_bind H
      refine ow_q rfl rfl (dstOk_lt rfl) (qy_call rfl fn76 rfl (fun w1 hw1 => impl_bins_ok w1 (cs0 := [vS e27.Name_, .slice a39 e27.Cuts_.length c40, .slice a41 e27.Values_.length c42]) h45 (rdm_Timpl_Attr (x := e27) (c0 := [vS e27.Name_]) (c1 := [.slice a39 e27.Cuts_.length c40]) (c2 := [.slice a41 e27.Values_.length c42]) rfl (rds_bor g37 w1 hw1) (rds_bor g38 w1 hw1)))) (fun _ _ => trivial) ?_
      refine ow_batch [.p, .p] rfl ?_
      refine ow_nil ?_
      refine x_qs ?_
      refine c_seq ?_
      refine c_seq ?_
      refine c_reg ?_
      refine ow_batch [.fa 105 1 1 fa105_1] rfl ?_
      refine ow_r rfl (dstOk_lt rfl) (ry_box1 (off := 1) rfl rfl ty22 (boxIn (i := 2) rfl) rfl) ?_
      refine ow_batch [.lenS 22 3 sl22, .p] rfl ?_
      refine ow_nil ?_
      refine x_qs ?_
      refine c_if rfl (fun hb => ?_) (fun hb => ?_)
      · have H := of_if_t hb H
        refine c_reg ?_
        refine ow_batch [.p, .p, .p] rfl ?_
        refine ow_nil ?_
        refine x_qs ?_
        refine c_seq ?_
        refine c_reg ?_
        refine ow_batch [.fa 73 1 1 fa73_1] rfl ?_
        refine ow_r rfl (dstOk_lt rfl) (ry_box1 (off := 1) rfl rfl ty3 (boxIn (i := 1) rfl) rfl) ?_
        refine ow_batch [.p] rfl ?_
        obtain ⟨y46, h47, H⟩ := of_bind H
        refine ow_q rfl rfl (dstOk_lt rfl) (qy_call rfl fn95 rfl (fun w1 hw1 => impl_within_ok w1  h47)) (fun _ _ => trivial) ?_
        refine ow_batch [.p] rfl ?_
        refine ow_nil ?_
        refine x_qs ?_
        refine c_ret ?_
        exact x_retR (rs := [.tmp 4]) (vs := [.bool y46]) rfl ⟨rfl, trivial⟩ (fun w' hw' => by
            obtain rfl := of_some H
            exact ⟨rfl, hw'.ext⟩)
      · have H := of_if_f hb H
        refine c_skip ?_
        refine x_qs ?_
        refine c_seq ?_
        refine c_reg ?_
        refine ow_batch [.fa 73 1 1 fa73_1] rfl ?_
        refine ow_r rfl (dstOk_lt rfl) (ry_box1 (off := 1) rfl rfl ty3 (boxIn (i := 1) rfl) rfl) ?_
        refine ow_batch [.p] rfl ?_
        obtain ⟨y48, h49, H⟩ := of_bind H
        refine ow_q rfl rfl (dstOk_lt rfl) (qy_call rfl fn95 rfl (fun w1 hw1 => impl_within_ok w1  h49)) (fun _ _ => trivial) ?_
        refine ow_batch [.p] rfl ?_
        refine ow_nil ?_
        refine x_qs ?_
        refine c_ret ?_
        exact x_retR (rs := [.tmp 4]) (vs := [.bool y48]) rfl ⟨rfl, trivial⟩ (fun w' hw' => by
            obtain rfl := of_some H
            exact ⟨rfl, hw'.ext⟩)
  · clear H
    have H := hu26
    clear hu26
    generalize (!y20) = t25 at H key ⊢
    cases t25
    · have H := of_if_f rfl H
      refine ow_batch [.fa 73 0 0 fa73_0] rfl ?_
      refine ow_r rfl (dstOk_lt rfl) (ry_box1 (off := 0) rfl rfl ty3 (boxIn (i := 1) rfl) rfl) ?_
      refine ow_batch [.fa 58 0 0 fa58_0] rfl ?_
      refine ow_r rfl (dstOk_lt rfl) (ry_box1 (off := 0) rfl rfl ty56 (boxIn (i := 0) rfl) rfl) ?_
      refine ow_batch [.lenS 56 105 sl56, .p] rfl ?_
      obtain ⟨y23, h24, H⟩ := of_bind H
      refine ow_q rfl rfl (dstOk_lt rfl) (qy_call rfl fn95 rfl (fun w1 hw1 => impl_within_ok w1  h24)) (fun _ _ => trivial) ?_
      refine ow_batch [.p] rfl ?_
      refine ow_batch [.p] rfl ?_
      obtain rfl := of_some H
      exact OW.sub key ⟨rfl, rfl, rfl, trivial⟩
    · have H := of_if_t rfl H
      refine ow_batch [.p, .p, .p, .p, .p, .p, .p, .p, .p] rfl ?_
      obtain rfl := of_some H
      exact OW.sub key ⟨rfl, rfl, rfl, trivial⟩

set_option maxHeartbeats 4000000 in
set_option maxRecDepth 100000 in
theorem lib_slices_Clone___string_string__ok (w : World) {M0 : List Nat} {p0 : List (List UInt8)} {a_0 : Option Addr} {n_0 c_0 : Nat} {r : List (List UInt8)} (H : lib_slices_Clone___string_string_ p0 = some r) (HS : St w M0 [] w) (g0 : (eList (eStr) 9).rd w M0 p0 [.slice a_0 n_0 c_0]) :
    Calls Tryd.prog 121 #[.slice a_0 n_0 c_0] w (fun en w' => ∃ v, en = .returned v ∧ ∃ (a0 : Option Addr), ∃ (n0 : Nat), ∃ (c0 : Nat), ∃ (F0 : List Nat), v = .slice a0 n0 c0 ∧ St w M0 [Res.own (eList (eStr) 9) F0 r [.slice a0 n0 c0]] w') := by
  obtain rfl := rd_n g0
  unfold lib_slices_Clone___string_string_ at H
  refine f_enter (vs := [.slice a_0 p0.length c_0]) Tryd.func121 rfl Tryd.ntmps121 rfl (HS) ?_
  refine c_seq ?_
  refine c_reg ?_
  refine ow_batch [.p] rfl ?_
  refine ow_nil ?_
  refine x_qs ?_
  refine c_seq ?_
  refine c_seq ?_
  refine c_reg ?_
  refine ow_batch [.p] rfl ?_
  refine ow_r rfl (dstOk_lt rfl) (ry_nilB rfl rfl sl48 rfl) ?_
  refine ow_nil ?_
  refine x_qs ?_
  refine c_if rfl (fun hb => ?_) (fun _ => ?_)
  · obtain rfl : p0 = [] := rd_isNone g0 hb
    have H : some ([] : List (List UInt8)) = some r := by simpa [app] using H
    refine c_seq ?_
    refine c_reg ?_
    refine ow_batch [.p] rfl ?_
    refine ow_nil ?_
    refine x_qs ?_
    refine c_ret ?_
    refine x_qs_ret ?_
    refine xw_st (fun _ h => St.pushNil (e := eStr) (T := 9) h) ?_
    exact x_retR (rs := [.tmp 2]) (vs := [.slice none 0 0]) rfl ⟨rfl, trivial⟩ (fun w' hw' => by
        obtain rfl := of_some H
        exact ⟨_, rfl, none, 0, 0, [], rfl, hw'.sel [0] rfl rfl⟩)
  · refine c_skip ?_
    refine x_qs ?_
    refine c_seq ?_
    refine c_reg ?_
    refine ow_blit0 (e := eStr) rfl rfl rfl rfl sl48 ty9 (fun _ => kp) (fun b10 => ?_)
    refine ow_batch [.p] rfl ?_
    obtain ⟨l11, h12, H⟩ := of_bind H
    refine ow_appR (r := 0) (ys := p0) rfl rfl rfl rfl rfl rfl sl48 ty9 rfl rfl rfl (fun w1 hw1 => rds_bor g0 w1 hw1) h12 (fun _ _ _ => kp) (fun a13 c14 F15 => ?_)
    refine ow_batch [.p] rfl ?_
    refine ow_nil ?_
    refine x_qs ?_
    refine c_ret ?_
    exact x_retR (rs := [.tmp 2]) (vs := [.slice a13 l11.length c14]) rfl ⟨rfl, trivial⟩ (fun w' hw' => by
        obtain rfl := of_some H
        exact ⟨_, rfl, a13, l11.length, c14, F15, rfl, hw'.sel [0] rfl rfl⟩)

set_option maxHeartbeats 4000000 in
set_option maxRecDepth 100000 in
theorem impl_ForkText_ok (w : World) {p0 : Timpl_Schema} {p1 : Timpl_Fork} {cs0 : List Value} {r : List UInt8} (H : impl_ForkText p0 p1 = some r)  (g0 : (eTimpl_Schema).rd w [] p0 cs0) (gT : (ePow10 Tryd.prog).rd w [] () []) :
    Calls Tryd.prog 91 #[.agg cs0.toArray, .agg #[.int .i64 p1.Attr_, .int .i64 p1.At_]] w (fun en w' => en = .returned (vS r) ∧ Ext [] w w') := by
  obtain ⟨c10, c11, rfl, g12, g13⟩ := rdo_Timpl_Schema g0
  obtain ⟨a14, c15, rfl⟩ := rd_sl1 g12
  obtain ⟨a16, c17, rfl⟩ := rd_sl1 g13
  unfold impl_ForkText at H
  refine f_enter (vs := [.agg #[.slice a14 p0.Attrs_.length c15, .slice a16 p0.Classes_.length c17], .agg #[.int .i64 p1.Attr_, .int .i64 p1.At_]]) Tryd.func91 rfl Tryd.ntmps91 rfl (St.init w []) ?_
  refine c_seq ?_
  refine c_reg ?_
  refine ow_box (cs := [.slice a14 p0.Attrs_.length c15, .slice a16 p0.Classes_.length c17]) rfl rfl rfl rfl rfl rfl (fun _ => kp) (fun b18 => ?_)
  refine ow_box (cs := [.int .i64 p1.Attr_, .int .i64 p1.At_]) rfl rfl rfl rfl rfl rfl (fun _ => kp) (fun b19 => ?_)
  refine ow_batch [.p] rfl ?_
  refine ow_nil ?_
  refine x_qs ?_
  refine c_seq ?_
  refine c_seq ?_
  refine c_reg ?_
  refine ow_r rfl (dstOk_lt rfl) (ry_box (off := 0) (ds := [.slice a14 p0.Attrs_.length c15, .slice a16 p0.Classes_.length c17]) rfl rfl ty58 (boxIn (i := 0) rfl) rfl rfl) ?_
  refine ow_r rfl (dstOk_lt rfl) (ry_box (off := 0) (ds := [.int .i64 p1.Attr_, .int .i64 p1.At_]) rfl rfl ty73 (boxIn (i := 1) rfl) rfl rfl) ?_
  obtain ⟨y20, h21, H⟩ := of_bind H
  refine ow_q rfl rfl (dstOk_lt rfl) (qy_call rfl fn90 rfl (fun w1 hw1 => impl_ForkOk_ok w1 (p1 := p1) (cs0 := [.slice a14 p0.Attrs_.length c15, .slice a16 p0.Classes_.length c17]) h21 (rdm_Timpl_Schema (x := p0) (c0 := [.slice a14 p0.Attrs_.length c15]) (c1 := [.slice a16 p0.Classes_.length c17]) (rds_bor g12 w1 hw1) (rds_bor g13 w1 hw1)))) (fun _ _ => trivial) ?_
  refine ow_batch [.p] rfl ?_
  refine ow_nil ?_
  refine x_qs ?_
  refine c_if rfl (fun hb => ?_) (fun hb => ?_)
  · have H := of_if_t hb H
    refine c_seq ?_
    refine c_reg ?_
    refine ow_batch [.p] rfl ?_
    refine ow_nil ?_
    refine x_qs ?_
    refine c_ret ?_
    refine x_qs_ret ?_
    exact x_retR (rs := [.tmp 4]) (vs := [vS ([] : List UInt8)]) rfl ⟨rfl, trivial⟩ (fun w' hw' => by
        obtain rfl := of_some H
        exact ⟨rfl, hw'.ext⟩)
  · have H := of_if_f hb H
    refine c_skip ?_
    refine x_qs ?_
    refine c_seq ?_
    refine c_reg ?_
    refine ow_batch [.fa 58 0 0 fa58_0] rfl ?_
    refine ow_r rfl (dstOk_lt rfl) (ry_box1 (off := 0) rfl rfl ty56 (boxIn (i := 0) rfl) rfl) ?_
    refine ow_batch [.fa 73 0 0 fa73_0] rfl ?_
    refine ow_r rfl (dstOk_lt rfl) (ry_box1 (off := 0) rfl rfl ty3 (boxIn (i := 1) rfl) rfl) ?_
    obtain ⟨e22, h23, H⟩ := of_bind H
    refine ow_ixB rfl rfl rfl rfl rfl sl56 ty105 rfl g12 h23 (fun q26 c27 hd24 hA25 => ?_)
    obtain ⟨c28, c29, c30, rfl, g31, g32, g33⟩ := rdo_Timpl_Attr hd24
    obtain rfl : c28 = [vS e22.Name_] := g31
    obtain ⟨a34, c35, rfl⟩ := rd_sl1 g32
    obtain ⟨a36, c37, rfl⟩ := rd_sl1 g33
    refine ow_r rfl (dstOk_lt rfl) (ry_load (cs := [vS e22.Name_, .slice a34 e22.Cuts_.length c35, .slice a36 e22.Values_.length c37]) rfl rfl ty105 (at_bor bor hA25) rfl) ?_
    refine ow_alloc rfl rfl rfl rfl ty105 (fun _ => kp) (fun b38 => ?_)
    refine ow_storeC (off := 0) [vS e22.Name_, .slice a34 e22.Cuts_.length c35, .slice a36 e22.Values_.length c37] [_, _, _] (i := 2) rfl rfl rfl rfl rfl rfl ty105 rfl rfl (by intro u hu; simp only [List.mem_cons, List.not_mem_nil, or_false] at hu; rcases hu with rfl | rfl | rfl <;> rfl) rfl rfl rfl kp ?_
    refine ow_nil ?_
    refine x_qs ?_
    refine c_seq ?_
    refine c_block ?_
    refine c_seq ?_
    refine c_reg ?_
    refine ow_batch [.fa 73 1 1 fa73_1] rfl ?_
    refine ow_r rfl (dstOk_lt rfl) (ry_box1 (off := 1) rfl rfl ty3 (boxIn (i := 1) rfl) rfl) ?_
    refine ow_batch [.p, .p] rfl ?_
    refine ow_nil ?_
    refine x_qs ?_
    refine c_if rfl (fun hb => ?_) (fun hb => ?_)
    · have H := of_if_t hb H
      refine c_seq ?_
      refine c_reg ?_
      refine ow_batch [.fa 105 0 0 fa105_0] rfl ?_
      refine ow_r rfl (dstOk_lt rfl) (ry_box1 (off := 0) rfl rfl ty9 (boxIn (i := 2) rfl) rfl) ?_
      obtain ⟨s39, h40, H⟩ := of_bind H
      refine ow_r rfl (dstOk_lt rfl) (ry_sadd rfl rfl rfl h40) ?_
      refine ow_batch [.p] rfl ?_
      refine ow_nil ?_
      refine x_qs ?_
      refine c_ret ?_
      refine x_qb_ret ?_
      refine x_qs_ret ?_
      exact x_retR (rs := [.tmp 4]) (vs := [vS s39]) rfl ⟨rfl, trivial⟩ (fun w' hw' => by
          obtain rfl := of_some H
          exact ⟨rfl, hw'.ext⟩)
    · have H := of_if_f hb H
      refine c_seq ?_
      refine c_reg ?_
      refine ow_batch [.fa 105 1 1 fa105_1] rfl ?_
      refine ow_r rfl (dstOk_lt rfl) (ry_box1 (off := 1) rfl rfl ty22 (boxIn (i := 2) rfl) rfl) ?_
      refine ow_batch [.lenS 22 3 sl22, .p, .p] rfl ?_
      refine ow_nil ?_
      refine x_qs ?_
      refine c_if rfl (fun hb => ?_) (fun hb => ?_)
      · have H := of_if_t hb H
        refine c_seq ?_
        refine c_regQ mixed (by kernel_rfl) ?_
        refine ow_batch [.fa 105 0 0 fa105_0] rfl ?_
        refine ow_r rfl (dstOk_lt rfl) (ry_box1 (off := 0) rfl rfl ty9 (boxIn (i := 2) rfl) rfl) ?_
        obtain ⟨s41, h42, H⟩ := of_bind H
        refine ow_r rfl (dstOk_lt rfl) (ry_sadd rfl rfl rfl h42) ?_
        refine ow_batch [.fa 105 1 1 fa105_1] rfl ?_
        refine ow_r rfl (dstOk_lt rfl) (ry_box1 (off := 1) rfl rfl ty22 (boxIn (i := 2) rfl) rfl) ?_
        refine ow_batch [.fa 73 1 1 fa73_1] rfl ?_
        refine ow_r rfl (dstOk_lt rfl) (ry_box1 (off := 1) rfl rfl ty3 (boxIn (i := 1) rfl) rfl) ?_
        obtain ⟨e43, h44, H⟩ := of_bind H
        refine ow_ixE (e := eVal (Value.int .i64) (fun _ => rfl)) (xs := e22.Cuts_) (j := p1.At_) rfl rfl rfl rfl rfl sl22 ty3 rfl (fun w1 hw1 => rds_bor g32 w1 hw1) h44 (by rw [Nat.mul_one]) ?_
        refine ow_r rfl (dstOk_lt rfl) (ry_load1 rfl rfl ty3 (at_elV (fun w1 hw1 => rds_bor g32 w1 hw1) h44)) ?_
        obtain ⟨y45, h46, H⟩ := of_bind H
        refine ow_q rfl rfl (dstOk_lt rfl) (qy_call rfl fn45 rfl (fun w1 hw1 => impl_Digits_ok w1  h46 (rds_bor gT w1 hw1))) (fun _ _ => trivial) ?_
        obtain ⟨s47, h48, H⟩ := of_bind H
        refine ow_r rfl (dstOk_lt rfl) (ry_sadd rfl rfl rfl h48) ?_
        refine ow_batch [.p] rfl ?_
        refine ow_nilQ ?_
        refine x_qs ?_
        refine c_ret ?_
        refine x_qb_ret ?_
        refine x_qs_ret ?_
        exact x_retR (rs := [.tmp 4]) (vs := [vS s47]) rfl ⟨rfl, trivial⟩ (fun w' hw' => by
            obtain rfl := of_some H
            exact ⟨rfl, hw'.ext⟩)
      · have H := of_if_f hb H
        refine c_skip ?_
        refine x_qb ?_
        refine x_qs ?_
        refine c_seq ?_
        obtain ⟨s62, h63, H⟩ := of_bind H
        obtain ⟨y64, h65, H⟩ := of_bind H
        obtain ⟨e73, h74, H⟩ := of_bind H
        refine c_regB 10 [(0, true), (1, true), (2, true), (3, true), (4, true), (6, true), (7, true), (5, false), (8, false), (9, false)] Br.done (St w [] [Res.box b18 58 [.slice a14 p0.Attrs_.length c15, .slice a16 p0.Classes_.length c17], Res.box b19 73 [.int .i64 p1.Attr_, .int .i64 p1.At_], Res.box b38 105 [vS e22.Name_, .slice a34 e22.Cuts_.length c35, .slice a36 e22.Values_.length c37]]) mixed (by kernel_rfl) (panicOk_qs panicOk_body) (fun _ h => St.mask [true, true, true] rfl h) ?_
        refine ow_batch [.fa 105 0 0 fa105_0] rfl ?_
        refine ow_rH rfl (dstOk_lt rfl) (ry_box1 (off := 0) rfl rfl ty9 (boxIn (i := 2) rfl) rfl) ?_
        refine ow_rH rfl (dstOk_lt rfl) (ry_sadd rfl rfl rfl h63) ?_
        refine ow_batch [.fa 105 2 2 fa105_2] rfl ?_
        refine ow_rH rfl (dstOk_lt rfl) (ry_box1 (off := 2) rfl rfl ty48 (boxIn (i := 2) rfl) rfl) ?_
        refine ow_batch [.fa 73 1 1 fa73_1] rfl ?_
        refine ow_rH rfl (dstOk_lt rfl) (ry_box1 (off := 1) rfl rfl ty3 (boxIn (i := 1) rfl) rfl) ?_
        refine ow_callS rfl fn121 rfl rfl rfl rfl (fun w1 hw1 => lib_slices_Clone___string_string__ok w1  h65 (hw1.carve [] rfl rfl) (rds_bor g33 w1 hw1)) (fun v66 w1 w2 hw1 hR68 => ?_)
        obtain ⟨a69, n70, c71, F72, rfl, hS67⟩ := hR68
        obtain rfl := own_nS (i := 0) hS67 rfl
        refine ⟨St w [] [_, _, _, _], hw1.comp [] rfl rfl hS67, (fun _ h => St.mask [true, true, true] rfl h), ?_⟩
        refine ow_ixEL (e := eStr) (xs := y64) (j := p1.At_) rfl rfl rfl rfl rfl rfl sl48 ty9 rfl (fun w1 hw1 => rds_own (e := eList (eStr) 9) (r := 3) rfl w1 hw1) h74 (by rw [Nat.mul_one]) ?_
        refine ow_rL rfl rfl (dstOk_lt rfl) (ry_load1 rfl rfl ty9 (at_elV (fun w1 hw1 => rds_own (e := eList (eStr) 9) (r := 3) rfl w1 hw1) h74)) ?_
        refine ow_nilH ?_
        refine x_done ?_
        obtain ⟨s75, h76, H⟩ := of_bind H
        refine ow_r rfl (dstOk_lt rfl) (ry_sadd rfl rfl rfl h76) ?_
        refine ow_batch [.p] rfl ?_
        refine ow_nil ?_
        refine x_qs ?_
        refine c_ret ?_
        exact x_retR (rs := [.tmp 4]) (vs := [vS s75]) rfl ⟨rfl, trivial⟩ (fun w' hw' => by
            obtain rfl := of_some H
            exact ⟨rfl, hw'.ext⟩)

set_option maxHeartbeats 4000000 in
set_option maxRecDepth 100000 in
theorem impl_NodeText_ok (w : World) {p0 : Timpl_Schema} {p1 : Timpl_Node} {cs0 : List Value} {cs1 : List Value} {r : List UInt8} (H : impl_NodeText p0 p1 = some r)  (g0 : (eTimpl_Schema).rd w [] p0 cs0) (g1 : (eTimpl_Node).rd w [] p1 cs1) (gT : (ePow10 Tryd.prog).rd w [] () []) :
    Calls Tryd.prog 33 #[.agg cs0.toArray, .agg cs1.toArray] w (fun en w' => en = .returned (vS r) ∧ Ext [] w w') := by
  obtain ⟨c10, c11, rfl, g12, g13⟩ := rdo_Timpl_Schema g0
  obtain ⟨a14, c15, rfl⟩ := rd_sl1 g12
  obtain ⟨a16, c17, rfl⟩ := rd_sl1 g13
  obtain ⟨c18, c19, c20, c21, c22, c23, c24, c25, c26, c27, rfl, g28, g29, g30, g31, g32, g33, g34, g35, g36, g37⟩ := rdo_Timpl_Node g1
  obtain rfl : c18 = [.bool p1.Leaf_] := g28
  obtain rfl : c19 = [.int .i64 p1.Fork_.Attr_, .int .i64 p1.Fork_.At_] := g29
  obtain ⟨a38, c39, rfl⟩ := rd_sl1 g30
  obtain rfl : c21 = [.int .i64 p1.Miss_] := g31
  obtain ⟨c40, c41, rfl, g42, g43⟩ := rdo_Timpl_Stats g32
  obtain ⟨a44, c45, rfl⟩ := rd_sl1 g42
  obtain ⟨a46, c47, rfl⟩ := rd_sl1 g43
  obtain rfl : c23 = [.int .i64 p1.Since_] := g33
  obtain ⟨a48, c49, rfl⟩ := rd_sl1 g34
  obtain rfl : c25 = [.int .i64 p1.Depth_] := g35
  obtain rfl : c26 = [.int .i64 p1.Up_] := g36
  obtain rfl : c27 = [.int .i64 p1.Born_] := g37
  unfold impl_NodeText at H
  refine f_enter (vs := [.agg #[.slice a14 p0.Attrs_.length c15, .slice a16 p0.Classes_.length c17], .agg #[.bool p1.Leaf_, .int .i64 p1.Fork_.Attr_, .int .i64 p1.Fork_.At_, .slice a38 p1.Kids_.length c39, .int .i64 p1.Miss_, .slice a44 p1.Stats_.Totals_.length c45, .slice a46 p1.Stats_.Cells_.length c47, .int .i64 p1.Since_, .slice a48 p1.Attrs_.length c49, .int .i64 p1.Depth_, .int .i64 p1.Up_, .int .i64 p1.Born_]]) Tryd.func33 rfl Tryd.ntmps33 rfl (St.init w []) ?_
  refine c_seq ?_
  refine c_reg ?_
  refine ow_box (cs := [.slice a14 p0.Attrs_.length c15, .slice a16 p0.Classes_.length c17]) rfl rfl rfl rfl rfl rfl (fun _ => kp) (fun b50 => ?_)
  refine ow_box (cs := [.bool p1.Leaf_, .int .i64 p1.Fork_.Attr_, .int .i64 p1.Fork_.At_, .slice a38 p1.Kids_.length c39, .int .i64 p1.Miss_, .slice a44 p1.Stats_.Totals_.length c45, .slice a46 p1.Stats_.Cells_.length c47, .int .i64 p1.Since_, .slice a48 p1.Attrs_.length c49, .int .i64 p1.Depth_, .int .i64 p1.Up_, .int .i64 p1.Born_]) rfl rfl rfl rfl rfl rfl (fun _ => kp) (fun b51 => ?_)
  refine ow_batch [.p] rfl ?_
  refine ow_nil ?_
  refine x_qs ?_
  refine c_seq ?_
  refine c_seq ?_
  refine c_reg ?_
  refine ow_batch [.fa 76 0 0 fa76_0] rfl ?_
  refine ow_r rfl (dstOk_lt rfl) (ry_box1 (off := 0) rfl rfl ty4 (boxIn (i := 1) rfl) rfl) ?_
  refine ow_nil ?_
  refine x_qs ?_
  refine c_if rfl (fun hb => ?_) (fun hb => ?_)
  · have H := of_if_t hb H
    refine c_seq ?_
    refine c_seq ?_
    refine c_reg ?_
    refine ow_r rfl (dstOk_lt rfl) (ry_box (off := 0) (ds := [.slice a14 p0.Attrs_.length c15, .slice a16 p0.Classes_.length c17]) rfl rfl ty58 (boxIn (i := 0) rfl) rfl rfl) ?_
    refine ow_batch [.fa 76 4 5 fa76_4] rfl ?_
    refine ow_r rfl (dstOk_lt rfl) (ry_box (off := 5) (ds := [.slice a44 p1.Stats_.Totals_.length c45, .slice a46 p1.Stats_.Cells_.length c47]) rfl rfl ty74 (boxIn (i := 1) rfl) rfl rfl) ?_
    obtain ⟨y52, h53, H⟩ := of_bind H
    refine ow_q rfl rfl (dstOk_lt rfl) (qy_call rfl fn87 rfl (fun w1 hw1 => impl_StatsOk_ok w1 (cs0 := [.slice a14 p0.Attrs_.length c15, .slice a16 p0.Classes_.length c17]) (cs1 := [.slice a44 p1.Stats_.Totals_.length c45, .slice a46 p1.Stats_.Cells_.length c47]) h53 (rdm_Timpl_Schema (x := p0) (c0 := [.slice a14 p0.Attrs_.length c15]) (c1 := [.slice a16 p0.Classes_.length c17]) (rds_bor g12 w1 hw1) (rds_bor g13 w1 hw1)) (rdm_Timpl_Stats (x := p1.Stats_) (c0 := [.slice a44 p1.Stats_.Totals_.length c45]) (c1 := [.slice a46 p1.Stats_.Cells_.length c47]) (rds_bor g42 w1 hw1) (rds_bor g43 w1 hw1)))) (fun _ _ => trivial) ?_
    refine ow_batch [.p] rfl ?_
    refine ow_nil ?_
    refine x_qs ?_
    refine c_if rfl (fun hb => ?_) (fun hb => ?_)
    · have H := of_if_t hb H
      refine c_seq ?_
      refine c_reg ?_
      refine ow_batch [.p] rfl ?_
      refine ow_nil ?_
      refine x_qs ?_
      refine c_ret ?_
      refine x_qs_ret ?_
      refine x_qs_ret ?_
      exact x_retR (rs := [.tmp 4]) (vs := [vS ([] : List UInt8)]) rfl ⟨rfl, trivial⟩ (fun w' hw' => by
          obtain rfl := of_some H
          exact ⟨rfl, hw'.ext⟩)
    · have H := of_if_f hb H
      refine c_skip ?_
      refine x_qs ?_
      refine c_seq ?_
      refine c_reg ?_
      refine ow_batch [.p] rfl ?_
      refine ow_nil ?_
      refine x_qs ?_
      refine c_join1 (fun (s56 : List UInt8) => St w [] [Res.box b50 58 [.slice a14 p0.Attrs_.length c15, .slice a16 p0.Classes_.length c17], Res.box b51 76 [.bool p1.Leaf_, .int .i64 p1.Fork_.Attr_, .int .i64 p1.Fork_.At_, .slice a38 p1.Kids_.length c39, .int .i64 p1.Miss_, .slice a44 p1.Stats_.Totals_.length c45, .slice a46 p1.Stats_.Cells_.length c47, .int .i64 p1.Since_, .slice a48 p1.Attrs_.length c49, .int .i64 p1.Depth_, .int .i64 p1.Up_, .int .i64 p1.Born_]]) (fun (s56 : List UInt8) => [(2, .pointer (some ⟨b50, 0, none⟩)), (3, .pointer (some ⟨b51, 0, none⟩)), (5, vS s56)]) (fun (s56 : List UInt8) => impl_NodeText_J1 p1 p0 s56 = some r) (fun s56 H => ?_) (fun J1 => ?_)
      · unfold impl_NodeText_J1 at H
        refine c_seq ?_
        refine c_regT 16 mixed (by kernel_rfl) ?_
        refine ow_batch [.p, .fa 76 4 5 fa76_4, .fa 74 0 0 fa74_0] rfl ?_
        refine ow_r rfl (dstOk_lt rfl) (ry_box1 (off := 5) rfl rfl ty22 (boxIn (i := 1) rfl) rfl) ?_
        obtain ⟨y57, h58, H⟩ := of_bind H
        refine ow_q rfl rfl (dstOk_lt rfl) (qy_call rfl fn10 rfl (fun w1 hw1 => impl_TotalsText_ok w1  h58 (rds_bor g42 w1 hw1) (rds_bor gT w1 hw1))) (fun _ _ => trivial) ?_
        refine ow_batch [.fa 58 1 1 fa58_1] rfl ?_
        refine ow_r rfl (dstOk_lt rfl) (ry_box1 (off := 1) rfl rfl ty48 (boxIn (i := 0) rfl) rfl) ?_
        refine ow_batch [.fa 76 4 5 fa76_4, .fa 74 0 0 fa74_0] rfl ?_
        refine ow_r rfl (dstOk_lt rfl) (ry_box1 (off := 5) rfl rfl ty22 (boxIn (i := 1) rfl) rfl) ?_
        obtain ⟨y59, h60, H⟩ := of_bind H
        refine ow_q rfl rfl (dstOk_lt rfl) (qy_call rfl fn89 rfl (fun w1 hw1 => impl_TopOf_ok w1  h60 (rds_bor g42 w1 hw1))) (fun _ _ => trivial) ?_
        obtain ⟨e61, h62, H⟩ := of_bind H
        refine ow_ixE (e := eStr) (xs := p0.Classes_) (j := y59) rfl rfl rfl rfl rfl sl48 ty9 rfl (fun w1 hw1 => rds_bor g13 w1 hw1) h62 (by rw [Nat.mul_one]) ?_
        refine ow_r rfl (dstOk_lt rfl) (ry_load1 rfl rfl ty9 (at_elV (fun w1 hw1 => rds_bor g13 w1 hw1) h62)) ?_
        refine ow_batch [.fa 76 5 7 fa76_5] rfl ?_
        refine ow_r rfl (dstOk_lt rfl) (ry_box1 (off := 7) rfl rfl ty3 (boxIn (i := 1) rfl) rfl) ?_
        obtain ⟨y63, h64, H⟩ := of_bind H
        refine ow_q rfl rfl (dstOk_lt rfl) (qy_call rfl fn45 rfl (fun w1 hw1 => impl_Digits_ok w1  h64 (rds_bor gT w1 hw1))) (fun _ _ => trivial) ?_
        refine ow_nilQ ?_
        refine ow_blit (val := vS) (h1 := fun _ => rfl) [s56, y57, e61, ([115, 105, 110, 99, 101] : List UInt8), y63] [(0, [vS s56]), (1, [vS y57]), (2, [vS e61]), (3, [vS ([115, 105, 110, 99, 101] : List UInt8)]), (4, [vS y63])] rfl rfl rfl rfl rfl sl48 ty9 rfl rfl rfl ⟨rfl, rfl, Nat.le_of_ble_eq_true rfl, rfl, rfl, Nat.le_of_ble_eq_true rfl, rfl, rfl, Nat.le_of_ble_eq_true rfl, rfl, rfl, Nat.le_of_ble_eq_true rfl, rfl, rfl, Nat.le_of_ble_eq_true rfl,  trivial⟩ rfl rfl (fun _ => kp) (fun b65 => ?_)
        obtain ⟨s66, h67, H⟩ := of_bind H
        refine ow_q rfl rfl (dstOk_lt rfl) (qy_call rfl fn59 rfl (fun w1 hw1 => join_ok (T := 9) Tryd.lays156 Tryd.Builder_Extra_156 w1 h67 (rds_own (e := eList (eStr) 9) (r := 2) rfl w1 hw1))) (fun _ _ => trivial) ?_
        refine ow_batch [.p] rfl ?_
        refine ow_nil ?_
        refine x_qs ?_
        refine c_ret ?_
        refine x_qs_ret ?_
        exact x_retR (rs := [.tmp 4]) (vs := [vS s66]) rfl ⟨rfl, trivial⟩ (fun w' hw' => by
            obtain rfl := of_some H
            exact ⟨rfl, hw'.ext⟩)
      · refine c_seq ?_
        refine c_reg ?_
        refine ow_r rfl (dstOk_lt rfl) (ry_box (off := 0) (ds := [.bool p1.Leaf_, .int .i64 p1.Fork_.Attr_, .int .i64 p1.Fork_.At_, .slice a38 p1.Kids_.length c39, .int .i64 p1.Miss_, .slice a44 p1.Stats_.Totals_.length c45, .slice a46 p1.Stats_.Cells_.length c47, .int .i64 p1.Since_, .slice a48 p1.Attrs_.length c49, .int .i64 p1.Depth_, .int .i64 p1.Up_, .int .i64 p1.Born_]) rfl rfl ty76 (boxIn (i := 1) rfl) rfl rfl) ?_
        obtain ⟨y68, h69, H⟩ := of_bind H
        refine ow_q rfl rfl (dstOk_lt rfl) (qy_call rfl fn88 rfl (fun w1 hw1 => impl_active_ok w1 (cs0 := [.bool p1.Leaf_, .int .i64 p1.Fork_.Attr_, .int .i64 p1.Fork_.At_, .slice a38 p1.Kids_.length c39, .int .i64 p1.Miss_, .slice a44 p1.Stats_.Totals_.length c45, .slice a46 p1.Stats_.Cells_.length c47, .int .i64 p1.Since_, .slice a48 p1.Attrs_.length c49, .int .i64 p1.Depth_, .int .i64 p1.Up_, .int .i64 p1.Born_]) h69 (rdm_Timpl_Node (x := p1) (c0 := [.bool p1.Leaf_]) (c1 := [.int .i64 p1.Fork_.Attr_, .int .i64 p1.Fork_.At_]) (c2 := [.slice a38 p1.Kids_.length c39]) (c3 := [.int .i64 p1.Miss_]) (c4 := [.slice a44 p1.Stats_.Totals_.length c45, .slice a46 p1.Stats_.Cells_.length c47]) (c5 := [.int .i64 p1.Since_]) (c6 := [.slice a48 p1.Attrs_.length c49]) (c7 := [.int .i64 p1.Depth_]) (c8 := [.int .i64 p1.Up_]) (c9 := [.int .i64 p1.Born_]) rfl rfl (rds_bor g30 w1 hw1) rfl (rdm_Timpl_Stats (x := p1.Stats_) (c0 := [.slice a44 p1.Stats_.Totals_.length c45]) (c1 := [.slice a46 p1.Stats_.Cells_.length c47]) (rds_bor g42 w1 hw1) (rds_bor g43 w1 hw1)) rfl (rds_bor g34 w1 hw1) rfl rfl rfl))) (fun _ _ => trivial) ?_
        refine ow_nil ?_
        refine x_qs ?_
        refine c_if rfl (fun hb => ?_) (fun hb => ?_)
        · have H := of_if_t hb H
          refine c_reg ?_
          refine ow_batch [.p] rfl ?_
          refine ow_nil ?_
          exact XW.at (J1 (([108, 101, 97, 102] : List UInt8)) (H)) (fun _ h => St.sel [0, 1] rfl rfl h) ⟨rfl, rfl, rfl, trivial⟩
        · have H := of_if_f hb H
          refine c_skip ?_
          exact XW.at (J1 (([116, 104, 105, 110] : List UInt8)) (H)) (fun _ h => St.sel [0, 1] rfl rfl h) ⟨rfl, rfl, rfl, trivial⟩
  · have H := of_if_f hb H
    refine c_skip ?_
    refine x_qs ?_
    refine c_seq ?_
    refine c_seq ?_
    refine c_reg ?_
    refine ow_r rfl (dstOk_lt rfl) (ry_box (off := 0) (ds := [.slice a14 p0.Attrs_.length c15, .slice a16 p0.Classes_.length c17]) rfl rfl ty58 (boxIn (i := 0) rfl) rfl rfl) ?_
    refine ow_batch [.fa 76 1 1 fa76_1] rfl ?_
    refine ow_r rfl (dstOk_lt rfl) (ry_box (off := 1) (ds := [.int .i64 p1.Fork_.Attr_, .int .i64 p1.Fork_.At_]) rfl rfl ty73 (boxIn (i := 1) rfl) rfl rfl) ?_
    obtain ⟨y70, h71, H⟩ := of_bind H
    refine ow_q rfl rfl (dstOk_lt rfl) (qy_call rfl fn90 rfl (fun w1 hw1 => impl_ForkOk_ok w1 (p1 := p1.Fork_) (cs0 := [.slice a14 p0.Attrs_.length c15, .slice a16 p0.Classes_.length c17]) h71 (rdm_Timpl_Schema (x := p0) (c0 := [.slice a14 p0.Attrs_.length c15]) (c1 := [.slice a16 p0.Classes_.length c17]) (rds_bor g12 w1 hw1) (rds_bor g13 w1 hw1)))) (fun _ _ => trivial) ?_
    refine ow_batch [.p] rfl ?_
    refine ow_nil ?_
    refine x_qs ?_
    refine c_if rfl (fun hb => ?_) (fun hb => ?_)
    · have H := of_if_t hb H
      refine c_seq ?_
      refine c_reg ?_
      refine ow_batch [.p] rfl ?_
      refine ow_nil ?_
      refine x_qs ?_
      refine c_ret ?_
      refine x_qs_ret ?_
      exact x_retR (rs := [.tmp 4]) (vs := [vS ([] : List UInt8)]) rfl ⟨rfl, trivial⟩ (fun w' hw' => by
          obtain rfl := of_some H
          exact ⟨rfl, hw'.ext⟩)
    · have H := of_if_f hb H
      refine c_skip ?_
      refine x_qs ?_
      refine c_seq ?_
      refine c_regT 7 mixed (by kernel_rfl) ?_
      refine ow_r rfl (dstOk_lt rfl) (ry_box (off := 0) (ds := [.slice a14 p0.Attrs_.length c15, .slice a16 p0.Classes_.length c17]) rfl rfl ty58 (boxIn (i := 0) rfl) rfl rfl) ?_
      refine ow_batch [.fa 76 1 1 fa76_1] rfl ?_
      refine ow_r rfl (dstOk_lt rfl) (ry_box (off := 1) (ds := [.int .i64 p1.Fork_.Attr_, .int .i64 p1.Fork_.At_]) rfl rfl ty73 (boxIn (i := 1) rfl) rfl rfl) ?_
      obtain ⟨y72, h73, H⟩ := of_bind H
      refine ow_q rfl rfl (dstOk_lt rfl) (qy_call rfl fn91 rfl (fun w1 hw1 => impl_ForkText_ok w1 (p1 := p1.Fork_) (cs0 := [.slice a14 p0.Attrs_.length c15, .slice a16 p0.Classes_.length c17]) h73 (rdm_Timpl_Schema (x := p0) (c0 := [.slice a14 p0.Attrs_.length c15]) (c1 := [.slice a16 p0.Classes_.length c17]) (rds_bor g12 w1 hw1) (rds_bor g13 w1 hw1)) (rds_bor gT w1 hw1))) (fun _ _ => trivial) ?_
      refine ow_batch [.fa 76 3 4 fa76_3] rfl ?_
      refine ow_r rfl (dstOk_lt rfl) (ry_box1 (off := 4) rfl rfl ty3 (boxIn (i := 1) rfl) rfl) ?_
      obtain ⟨y74, h75, H⟩ := of_bind H
      refine ow_q rfl rfl (dstOk_lt rfl) (qy_call rfl fn45 rfl (fun w1 hw1 => impl_Digits_ok w1  h75 (rds_bor gT w1 hw1))) (fun _ _ => trivial) ?_
      refine ow_nilQ ?_
      refine ow_blit (val := vS) (h1 := fun _ => rfl) [y72, ([109, 105, 115, 115] : List UInt8), y74] [(0, [vS y72]), (1, [vS ([109, 105, 115, 115] : List UInt8)]), (2, [vS y74])] rfl rfl rfl rfl rfl sl48 ty9 rfl rfl rfl ⟨rfl, rfl, Nat.le_of_ble_eq_true rfl, rfl, rfl, Nat.le_of_ble_eq_true rfl, rfl, rfl, Nat.le_of_ble_eq_true rfl,  trivial⟩ rfl rfl (fun _ => kp) (fun b76 => ?_)
      refine ow_batch [.p] rfl ?_
      refine ow_nil ?_
      refine x_qs ?_
      refine c_seq ?_
      refine c_seq ?_
      refine c_reg ?_
      refine ow_batch [.fa 76 2 3 fa76_2] rfl ?_
      refine ow_r rfl (dstOk_lt rfl) (ry_box1 (off := 3) rfl rfl ty22 (boxIn (i := 1) rfl) rfl) ?_
      refine ow_batch [.lenS 22 3 sl22, .p] rfl ?_
      refine ow_nil ?_
      refine x_qs ?_
      refine c_block ?_
      refine CW.at (loopI5 (fun (i94 : Int) (l95 : List (List UInt8)) (a96 : Option Addr) (c97 : Nat) (F98 : List Nat) => St w [] [Res.own (eList (eStr) 9) F98 l95 [.slice a96 l95.length c97]]) (fun (i94 : Int) (l95 : List (List UInt8)) (a96 : Option Addr) (c97 : Nat) (F98 : List Nat) => [(6, .slice a96 l95.length c97), (50, .slice a38 p1.Kids_.length c39), (51, .int .i64 (p1.Kids_.length : Int)), (52, .int .i64 i94)]) (fun kk => fun (i94 : Int) (l95 : List (List UInt8)) (a96 : Option Addr) (c97 : Nat) (F98 : List Nat) => a96.isNone = false ∧ impl_NodeText_L1 p1 kk i94 l95 = some r) (fun _ _ _ _ _ H => ?_) (fun k1 ihk1 i94 l95 a96 c97 F98 ⟨hz99, H⟩ => ?_) Fuel (0) (([y72, ([109, 105, 115, 115] : List UInt8), y74] : List (List UInt8))) ((some ⟨b76, 0, none⟩)) (3) ([b76]) (⟨rfl, H⟩)) (fun _ h => St.sel [2] rfl rfl h) ⟨rfl, rfl, rfl, rfl,  trivial⟩
      · unfold impl_NodeText_L1 at H
        exact absurd H (by simp)
      · unfold impl_NodeText_L1 at H
        refine c_seq ?_
        refine c_reg ?_
        refine ow_batch [.p] rfl ?_
        refine ow_nil ?_
        refine x_qs ?_
        refine c_seq ?_
        refine c_if rfl (fun hb => ?_) (fun hb => ?_)
        · have H := of_if_t hb H
          refine c_skip ?_
          refine x_qs ?_
          refine c_seq ?_
          refine c_block ?_
          refine c_seq ?_
          refine c_reg ?_
          obtain ⟨e117, h118, H⟩ := of_bind H
          refine ow_ixE (e := eVal (Value.int .i64) (fun _ => rfl)) (xs := p1.Kids_) (j := i94) rfl rfl rfl rfl rfl sl22 ty3 rfl (fun w1 hw1 => rds_bor g30 w1 hw1) h118 (by rw [Nat.mul_one]) ?_
          refine ow_r rfl (dstOk_lt rfl) (ry_load1 rfl rfl ty3 (at_elV (fun w1 hw1 => rds_bor g30 w1 hw1) h118)) ?_
          refine ow_batch [.p] rfl ?_
          refine ow_nil ?_
          refine x_qs ?_
          refine c_reg ?_
          refine ow_batch [.p, .p] rfl ?_
          obtain ⟨y119, h120, H⟩ := of_bind H
          refine ow_q rfl rfl (dstOk_lt rfl) (qy_call rfl fn45 rfl (fun w1 hw1 => impl_Digits_ok w1  h120 (rds_bor gT w1 hw1))) (fun _ _ => trivial) ?_
          refine ow_blit (val := vS) (h1 := fun _ => rfl) [y119] [(0, [vS y119])] rfl rfl rfl rfl rfl sl48 ty9 rfl rfl rfl ⟨rfl, rfl, Nat.le_of_ble_eq_true rfl,  trivial⟩ rfl rfl (fun _ => kp) (fun b121 => ?_)
          obtain ⟨l122, h123, H⟩ := of_bind H
          refine ow_appR (r := 0) (ys := ([y119] : List (List UInt8))) rfl rfl rfl rfl rfl rfl sl48 ty9 rfl rfl rfl (fun w1 hw1 => rds_own (e := eList (eStr) 9) (r := 1) rfl w1 hw1) h123 (fun _ _ _ => kp) (fun a124 c125 F126 => ?_)
          refine ow_fact rfl (fun w1 hw1 => own_nn (i := 0) hw1 rfl (app_ne h123)) (fun hz127 => ?_)
          refine ow_batch [.p] rfl ?_
          refine ow_nil ?_
          refine x_qb ?_
          refine x_qs ?_
          refine c_reg ?_
          refine ow_batch [.p, .p] rfl ?_
          refine ow_nil ?_
          exact x_ql (RW.at (ihk1 (IntKind.i64.wrap (i94 + 1)) (l122) (a124) (c125) (F126) (⟨hz127, H⟩)) (fun _ h => St.sel [0] rfl rfl h) ⟨rfl, rfl, rfl, rfl, trivial⟩)
        · have H := of_if_f hb H
          refine c_exit ?_
          refine x_qs_exit ?_
          refine x_ql_exit ?_
          refine x_qb_here ?_
          refine x_qs ?_
          refine c_seq ?_
          refine c_reg ?_
          refine ow_batch [.p] rfl ?_
          obtain ⟨s128, h129, H⟩ := of_bind H
          refine ow_q rfl rfl (dstOk_lt rfl) (qy_call rfl fn59 rfl (fun w1 hw1 => join_ok (T := 9) Tryd.lays156 Tryd.Builder_Extra_156 w1 h129 (rds_own (e := eList (eStr) 9) (r := 0) rfl w1 hw1))) (fun _ _ => trivial) ?_
          refine ow_batch [.p] rfl ?_
          refine ow_nil ?_
          refine x_qs ?_
          refine c_ret ?_
          exact x_retR (rs := [.tmp 4]) (vs := [vS s128]) rfl ⟨rfl, trivial⟩ (fun w' hw' => by
              obtain rfl := of_some H
              exact ⟨rfl, hw'.ext⟩)

set_option maxHeartbeats 4000000 in
set_option maxRecDepth 100000 in
theorem laws_eqIntS_ok (w : World) {p0 : List Int} {p1 : List Int} {a_0 : Option Addr} {n_0 c_0 : Nat} {a_1 : Option Addr} {n_1 c_1 : Nat} {r : Bool} (H : laws_eqIntS p0 p1 = some r)  (g0 : (eList (eVal (Value.int .i64) (fun _ => rfl)) 3).rd w [] p0 [.slice a_0 n_0 c_0]) (g1 : (eList (eVal (Value.int .i64) (fun _ => rfl)) 3).rd w [] p1 [.slice a_1 n_1 c_1]) :
    Calls Tryd.prog 11 #[.slice a_0 n_0 c_0, .slice a_1 n_1 c_1] w (fun en w' => en = .returned (.bool r) ∧ Ext [] w w') := by
  obtain rfl := rd_n g0
  obtain rfl := rd_n g1
  unfold laws_eqIntS at H
  refine f_enter (vs := [.slice a_0 p0.length c_0, .slice a_1 p1.length c_1]) Tryd.func11 rfl Tryd.ntmps11 rfl (St.init w []) ?_
  refine c_seq ?_
  refine c_reg ?_
  refine ow_batch [.p] rfl ?_
  refine ow_nil ?_
  refine x_qs ?_
  refine c_seq ?_
  refine c_seq ?_
  refine c_reg ?_
  refine ow_batch [.p, .lenS 22 3 sl22, .p, .lenS 22 3 sl22, .p] rfl ?_
  refine ow_nil ?_
  refine x_qs ?_
  refine c_if rfl (fun hb => ?_) (fun hb => ?_)
  · have H := of_if_t hb H
    refine c_seq ?_
    refine c_reg ?_
    refine ow_batch [.p] rfl ?_
    refine ow_nil ?_
    refine x_qs ?_
    refine c_ret ?_
    refine x_qs_ret ?_
    exact x_retR (rs := [.tmp 4]) (vs := [.bool false]) rfl ⟨rfl, trivial⟩ (fun w' hw' => by
        obtain rfl := of_some H
        exact ⟨rfl, hw'.ext⟩)
  · have H := of_if_f hb H
    refine c_skip ?_
    refine x_qs ?_
    refine c_seq ?_
    refine c_seq ?_
    refine c_reg ?_
    refine ow_batch [.p] rfl ?_
    refine ow_nil ?_
    refine x_qs ?_
    refine c_block ?_
    refine CW.at (loopI1 (fun (i15 : Int) => St w [] []) (fun (i15 : Int) => [(0, .slice a_0 p0.length c_0), (1, .slice a_1 p1.length c_1), (5, .int .i64 i15)]) (fun kk => fun (i15 : Int) => laws_eqIntS_L1 p0 p1 kk i15 = some r) (fun _ H => ?_) (fun k1 ihk1 i15 H => ?_) Fuel (0) (H)) (fun _ h => St.sel [] rfl rfl h) ⟨rfl, rfl, rfl,  trivial⟩
    · unfold laws_eqIntS_L1 at H
      exact absurd H (by simp)
    · unfold laws_eqIntS_L1 at H
      refine c_seq ?_
      refine c_seq ?_
      refine c_reg ?_
      refine ow_batch [.p, .p, .lenS 22 3 sl22, .p] rfl ?_
      refine ow_nil ?_
      refine x_qs ?_
      refine c_if rfl (fun hb => ?_) (fun hb => ?_)
      · have H := of_if_t hb H
        refine c_skip ?_
        refine x_qs ?_
        refine c_seq ?_
        refine c_block ?_
        refine c_seq ?_
        refine c_regQ mixed (by kernel_rfl) ?_
        refine ow_batch [.p, .p] rfl ?_
        obtain ⟨e21, h22, H⟩ := of_bind H
        refine ow_ixE (e := eVal (Value.int .i64) (fun _ => rfl)) (xs := p0) (j := i15) rfl rfl rfl rfl rfl sl22 ty3 rfl (fun w1 hw1 => rds_bor g0 w1 hw1) h22 (by rw [Nat.mul_one]) ?_
        refine ow_r rfl (dstOk_lt rfl) (ry_load1 rfl rfl ty3 (at_elV (fun w1 hw1 => rds_bor g0 w1 hw1) h22)) ?_
        refine ow_batch [.p, .p] rfl ?_
        obtain ⟨e23, h24, H⟩ := of_bind H
        refine ow_ixE (e := eVal (Value.int .i64) (fun _ => rfl)) (xs := p1) (j := i15) rfl rfl rfl rfl rfl sl22 ty3 rfl (fun w1 hw1 => rds_bor g1 w1 hw1) h24 (by rw [Nat.mul_one]) ?_
        refine ow_r rfl (dstOk_lt rfl) (ry_load1 rfl rfl ty3 (at_elV (fun w1 hw1 => rds_bor g1 w1 hw1) h24)) ?_
        refine ow_batch [.p] rfl ?_
        refine ow_nilQ ?_
        refine x_qs ?_
        refine c_if rfl (fun hb => ?_) (fun hb => ?_)
        · have H := of_if_t hb H
          refine c_seq ?_
          refine c_reg ?_
          refine ow_batch [.p] rfl ?_
          refine ow_nil ?_
          refine x_qs ?_
          refine c_ret ?_
          refine x_qb_ret ?_
          refine x_qs_ret ?_
          refine x_ql_ret ?_
          refine x_qb_ret ?_
          refine x_qs_ret ?_
          exact x_retR (rs := [.tmp 4]) (vs := [.bool false]) rfl ⟨rfl, trivial⟩ (fun w' hw' => by
              obtain rfl := of_some H
              exact ⟨rfl, hw'.ext⟩)
        · have H := of_if_f hb H
          refine c_skip ?_
          refine x_qb ?_
          refine x_qs ?_
          refine c_reg ?_
          refine ow_batch [.p, .p, .p] rfl ?_
          refine ow_nil ?_
          exact x_ql (RW.at (ihk1 (IntKind.i64.wrap (i15 + 1)) (H)) (fun _ h => St.sel [] rfl rfl h) ⟨rfl, rfl, rfl, trivial⟩)
      · have H := of_if_f hb H
        refine c_exit ?_
        refine x_qs_exit ?_
        refine x_ql_exit ?_
        refine x_qb_here ?_
        refine x_qs ?_
        refine c_seq ?_
        refine c_reg ?_
        refine ow_batch [.p] rfl ?_
        refine ow_nil ?_
        refine x_qs ?_
        refine c_ret ?_
        exact x_retR (rs := [.tmp 4]) (vs := [.bool true]) rfl ⟨rfl, trivial⟩ (fun w' hw' => by
            obtain rfl := of_some H
            exact ⟨rfl, hw'.ext⟩)

set_option maxHeartbeats 4000000 in
set_option maxRecDepth 100000 in
theorem laws_eqStringS_ok (w : World) {p0 : List (List UInt8)} {p1 : List (List UInt8)} {a_0 : Option Addr} {n_0 c_0 : Nat} {a_1 : Option Addr} {n_1 c_1 : Nat} {r : Bool} (H : laws_eqStringS p0 p1 = some r)  (g0 : (eList (eStr) 9).rd w [] p0 [.slice a_0 n_0 c_0]) (g1 : (eList (eStr) 9).rd w [] p1 [.slice a_1 n_1 c_1]) :
    Calls Tryd.prog 79 #[.slice a_0 n_0 c_0, .slice a_1 n_1 c_1] w (fun en w' => en = .returned (.bool r) ∧ Ext [] w w') := by
  obtain rfl := rd_n g0
  obtain rfl := rd_n g1
  unfold laws_eqStringS at H
  refine f_enter (vs := [.slice a_0 p0.length c_0, .slice a_1 p1.length c_1]) Tryd.func79 rfl Tryd.ntmps79 rfl (St.init w []) ?_
  refine c_seq ?_
  refine c_reg ?_
  refine ow_batch [.p] rfl ?_
  refine ow_nil ?_
  refine x_qs ?_
  refine c_seq ?_
  refine c_seq ?_
  refine c_reg ?_
  refine ow_batch [.p, .lenS 48 9 sl48, .p, .lenS 48 9 sl48, .p] rfl ?_
  refine ow_nil ?_
  refine x_qs ?_
  refine c_if rfl (fun hb => ?_) (fun hb => ?_)
  · have H := of_if_t hb H
    refine c_seq ?_
    refine c_reg ?_
    refine ow_batch [.p] rfl ?_
    refine ow_nil ?_
    refine x_qs ?_
    refine c_ret ?_
    refine x_qs_ret ?_
    exact x_retR (rs := [.tmp 4]) (vs := [.bool false]) rfl ⟨rfl, trivial⟩ (fun w' hw' => by
        obtain rfl := of_some H
        exact ⟨rfl, hw'.ext⟩)
  · have H := of_if_f hb H
    refine c_skip ?_
    refine x_qs ?_
    refine c_seq ?_
    refine c_seq ?_
    refine c_reg ?_
    refine ow_batch [.p] rfl ?_
    refine ow_nil ?_
    refine x_qs ?_
    refine c_block ?_
    refine CW.at (loopI1 (fun (i15 : Int) => St w [] []) (fun (i15 : Int) => [(0, .slice a_0 p0.length c_0), (1, .slice a_1 p1.length c_1), (5, .int .i64 i15)]) (fun kk => fun (i15 : Int) => laws_eqStringS_L1 p0 p1 kk i15 = some r) (fun _ H => ?_) (fun k1 ihk1 i15 H => ?_) Fuel (0) (H)) (fun _ h => St.sel [] rfl rfl h) ⟨rfl, rfl, rfl,  trivial⟩
    · unfold laws_eqStringS_L1 at H
      exact absurd H (by simp)
    · unfold laws_eqStringS_L1 at H
      refine c_seq ?_
      refine c_seq ?_
      refine c_reg ?_
      refine ow_batch [.p, .p, .lenS 48 9 sl48, .p] rfl ?_
      refine ow_nil ?_
      refine x_qs ?_
      refine c_if rfl (fun hb => ?_) (fun hb => ?_)
      · have H := of_if_t hb H
        refine c_skip ?_
        refine x_qs ?_
        refine c_seq ?_
        refine c_block ?_
        refine c_seq ?_
        refine c_regQ mixed (by kernel_rfl) ?_
        refine ow_batch [.p, .p] rfl ?_
        obtain ⟨e21, h22, H⟩ := of_bind H
        refine ow_ixE (e := eStr) (xs := p0) (j := i15) rfl rfl rfl rfl rfl sl48 ty9 rfl (fun w1 hw1 => rds_bor g0 w1 hw1) h22 (by rw [Nat.mul_one]) ?_
        refine ow_r rfl (dstOk_lt rfl) (ry_load1 rfl rfl ty9 (at_elV (fun w1 hw1 => rds_bor g0 w1 hw1) h22)) ?_
        refine ow_batch [.p, .p] rfl ?_
        obtain ⟨e23, h24, H⟩ := of_bind H
        refine ow_ixE (e := eStr) (xs := p1) (j := i15) rfl rfl rfl rfl rfl sl48 ty9 rfl (fun w1 hw1 => rds_bor g1 w1 hw1) h24 (by rw [Nat.mul_one]) ?_
        refine ow_r rfl (dstOk_lt rfl) (ry_load1 rfl rfl ty9 (at_elV (fun w1 hw1 => rds_bor g1 w1 hw1) h24)) ?_
        refine ow_batch [.p] rfl ?_
        refine ow_nilQ ?_
        refine x_qs ?_
        refine c_if rfl (fun hb => ?_) (fun hb => ?_)
        · have H := of_if_t hb H
          refine c_seq ?_
          refine c_reg ?_
          refine ow_batch [.p] rfl ?_
          refine ow_nil ?_
          refine x_qs ?_
          refine c_ret ?_
          refine x_qb_ret ?_
          refine x_qs_ret ?_
          refine x_ql_ret ?_
          refine x_qb_ret ?_
          refine x_qs_ret ?_
          exact x_retR (rs := [.tmp 4]) (vs := [.bool false]) rfl ⟨rfl, trivial⟩ (fun w' hw' => by
              obtain rfl := of_some H
              exact ⟨rfl, hw'.ext⟩)
        · have H := of_if_f hb H
          refine c_skip ?_
          refine x_qb ?_
          refine x_qs ?_
          refine c_reg ?_
          refine ow_batch [.p, .p, .p] rfl ?_
          refine ow_nil ?_
          exact x_ql (RW.at (ihk1 (IntKind.i64.wrap (i15 + 1)) (H)) (fun _ h => St.sel [] rfl rfl h) ⟨rfl, rfl, rfl, trivial⟩)
      · have H := of_if_f hb H
        refine c_exit ?_
        refine x_qs_exit ?_
        refine x_ql_exit ?_
        refine x_qb_here ?_
        refine x_qs ?_
        refine c_seq ?_
        refine c_reg ?_
        refine ow_batch [.p] rfl ?_
        refine ow_nil ?_
        refine x_qs ?_
        refine c_ret ?_
        exact x_retR (rs := [.tmp 4]) (vs := [.bool true]) rfl ⟨rfl, trivial⟩ (fun w' hw' => by
            obtain rfl := of_some H
            exact ⟨rfl, hw'.ext⟩)

set_option maxHeartbeats 4000000 in
set_option maxRecDepth 100000 in
theorem laws_eqAttr_ok (w : World) {p0 : Timpl_Attr} {p1 : Timpl_Attr} {cs0 : List Value} {cs1 : List Value} {r : Bool} (H : laws_eqAttr p0 p1 = some r)  (g0 : (eTimpl_Attr).rd w [] p0 cs0) (g1 : (eTimpl_Attr).rd w [] p1 cs1) :
    Calls Tryd.prog 116 #[.agg cs0.toArray, .agg cs1.toArray] w (fun en w' => en = .returned (.bool r) ∧ Ext [] w w') := by
  obtain ⟨c10, c11, c12, rfl, g13, g14, g15⟩ := rdo_Timpl_Attr g0
  obtain rfl : c10 = [vS p0.Name_] := g13
  obtain ⟨a16, c17, rfl⟩ := rd_sl1 g14
  obtain ⟨a18, c19, rfl⟩ := rd_sl1 g15
  obtain ⟨c20, c21, c22, rfl, g23, g24, g25⟩ := rdo_Timpl_Attr g1
  obtain rfl : c20 = [vS p1.Name_] := g23
  obtain ⟨a26, c27, rfl⟩ := rd_sl1 g24
  obtain ⟨a28, c29, rfl⟩ := rd_sl1 g25
  unfold laws_eqAttr at H
  refine f_enter (vs := [.agg #[vS p0.Name_, .slice a16 p0.Cuts_.length c17, .slice a18 p0.Values_.length c19], .agg #[vS p1.Name_, .slice a26 p1.Cuts_.length c27, .slice a28 p1.Values_.length c29]]) Tryd.func116 rfl Tryd.ntmps116 rfl (St.init w []) ?_
  refine c_seq ?_
  refine c_reg ?_
  refine ow_box (cs := [vS p0.Name_, .slice a16 p0.Cuts_.length c17, .slice a18 p0.Values_.length c19]) rfl rfl rfl rfl rfl rfl (fun _ => kp) (fun b30 => ?_)
  refine ow_box (cs := [vS p1.Name_, .slice a26 p1.Cuts_.length c27, .slice a28 p1.Values_.length c29]) rfl rfl rfl rfl rfl rfl (fun _ => kp) (fun b31 => ?_)
  refine ow_batch [.p] rfl ?_
  refine ow_nil ?_
  refine x_qs ?_
  refine c_seq ?_
  refine c_seq ?_
  refine c_reg ?_
  refine ow_batch [.fa 105 0 0 fa105_0] rfl ?_
  refine ow_r rfl (dstOk_lt rfl) (ry_box1 (off := 0) rfl rfl ty9 (boxIn (i := 0) rfl) rfl) ?_
  refine ow_batch [.fa 105 0 0 fa105_0] rfl ?_
  refine ow_r rfl (dstOk_lt rfl) (ry_box1 (off := 0) rfl rfl ty9 (boxIn (i := 1) rfl) rfl) ?_
  refine ow_batch [.p] rfl ?_
  refine ow_nil ?_
  refine x_qs ?_
  refine c_if rfl (fun hb => ?_) (fun hb => ?_)
  · have H := of_if_t hb H
    refine c_seq ?_
    refine c_reg ?_
    refine ow_batch [.p] rfl ?_
    refine ow_nil ?_
    refine x_qs ?_
    refine c_ret ?_
    refine x_qs_ret ?_
    exact x_retR (rs := [.tmp 4]) (vs := [.bool false]) rfl ⟨rfl, trivial⟩ (fun w' hw' => by
        obtain rfl := of_some H
        exact ⟨rfl, hw'.ext⟩)
  · have H := of_if_f hb H
    refine c_skip ?_
    refine x_qs ?_
    refine c_seq ?_
    refine c_seq ?_
    refine c_reg ?_
    refine ow_batch [.fa 105 1 1 fa105_1] rfl ?_
    refine ow_r rfl (dstOk_lt rfl) (ry_box1 (off := 1) rfl rfl ty22 (boxIn (i := 0) rfl) rfl) ?_
    refine ow_batch [.fa 105 1 1 fa105_1] rfl ?_
    refine ow_r rfl (dstOk_lt rfl) (ry_box1 (off := 1) rfl rfl ty22 (boxIn (i := 1) rfl) rfl) ?_
    obtain ⟨y32, h33, H⟩ := of_bind H
    refine ow_q rfl rfl (dstOk_lt rfl) (qy_call rfl fn11 rfl (fun w1 hw1 => laws_eqIntS_ok w1  h33 (rds_bor g14 w1 hw1) (rds_bor g24 w1 hw1))) (fun _ _ => trivial) ?_
    refine ow_batch [.p] rfl ?_
    refine ow_nil ?_
    refine x_qs ?_
    refine c_if rfl (fun hb => ?_) (fun hb => ?_)
    · have H := of_if_t hb H
      refine c_seq ?_
      refine c_reg ?_
      refine ow_batch [.p] rfl ?_
      refine ow_nil ?_
      refine x_qs ?_
      refine c_ret ?_
      refine x_qs_ret ?_
      exact x_retR (rs := [.tmp 4]) (vs := [.bool false]) rfl ⟨rfl, trivial⟩ (fun w' hw' => by
          obtain rfl := of_some H
          exact ⟨rfl, hw'.ext⟩)
    · have H := of_if_f hb H
      refine c_skip ?_
      refine x_qs ?_
      refine c_seq ?_
      refine c_seq ?_
      refine c_reg ?_
      refine ow_batch [.fa 105 2 2 fa105_2] rfl ?_
      refine ow_r rfl (dstOk_lt rfl) (ry_box1 (off := 2) rfl rfl ty48 (boxIn (i := 0) rfl) rfl) ?_
      refine ow_batch [.fa 105 2 2 fa105_2] rfl ?_
      refine ow_r rfl (dstOk_lt rfl) (ry_box1 (off := 2) rfl rfl ty48 (boxIn (i := 1) rfl) rfl) ?_
      obtain ⟨y34, h35, H⟩ := of_bind H
      refine ow_q rfl rfl (dstOk_lt rfl) (qy_call rfl fn79 rfl (fun w1 hw1 => laws_eqStringS_ok w1  h35 (rds_bor g15 w1 hw1) (rds_bor g25 w1 hw1))) (fun _ _ => trivial) ?_
      refine ow_batch [.p] rfl ?_
      refine ow_nil ?_
      refine x_qs ?_
      refine c_if rfl (fun hb => ?_) (fun hb => ?_)
      · have H := of_if_t hb H
        refine c_seq ?_
        refine c_reg ?_
        refine ow_batch [.p] rfl ?_
        refine ow_nil ?_
        refine x_qs ?_
        refine c_ret ?_
        refine x_qs_ret ?_
        exact x_retR (rs := [.tmp 4]) (vs := [.bool false]) rfl ⟨rfl, trivial⟩ (fun w' hw' => by
            obtain rfl := of_some H
            exact ⟨rfl, hw'.ext⟩)
      · have H := of_if_f hb H
        refine c_skip ?_
        refine x_qs ?_
        refine c_seq ?_
        refine c_reg ?_
        refine ow_batch [.p] rfl ?_
        refine ow_nil ?_
        refine x_qs ?_
        refine c_ret ?_
        exact x_retR (rs := [.tmp 4]) (vs := [.bool true]) rfl ⟨rfl, trivial⟩ (fun w' hw' => by
            obtain rfl := of_some H
            exact ⟨rfl, hw'.ext⟩)

set_option maxHeartbeats 4000000 in
set_option maxRecDepth 100000 in
theorem laws_eqAttrS_ok (w : World) {p0 : List Timpl_Attr} {p1 : List Timpl_Attr} {a_0 : Option Addr} {n_0 c_0 : Nat} {a_1 : Option Addr} {n_1 c_1 : Nat} {r : Bool} (H : laws_eqAttrS p0 p1 = some r)  (g0 : (eList (eTimpl_Attr) 105).rd w [] p0 [.slice a_0 n_0 c_0]) (g1 : (eList (eTimpl_Attr) 105).rd w [] p1 [.slice a_1 n_1 c_1]) :
    Calls Tryd.prog 78 #[.slice a_0 n_0 c_0, .slice a_1 n_1 c_1] w (fun en w' => en = .returned (.bool r) ∧ Ext [] w w') := by
  obtain rfl := rd_n g0
  obtain rfl := rd_n g1
  unfold laws_eqAttrS at H
  refine f_enter (vs := [.slice a_0 p0.length c_0, .slice a_1 p1.length c_1]) Tryd.func78 rfl Tryd.ntmps78 rfl (St.init w []) ?_
  refine c_seq ?_
  refine c_reg ?_
  refine ow_batch [.p] rfl ?_
  refine ow_nil ?_
  refine x_qs ?_
  refine c_seq ?_
  refine c_seq ?_
  refine c_reg ?_
  refine ow_batch [.p, .lenS 56 105 sl56, .p, .lenS 56 105 sl56, .p] rfl ?_
  refine ow_nil ?_
  refine x_qs ?_
  refine c_if rfl (fun hb => ?_) (fun hb => ?_)
  · have H := of_if_t hb H
    refine c_seq ?_
    refine c_reg ?_
    refine ow_batch [.p] rfl ?_
    refine ow_nil ?_
    refine x_qs ?_
    refine c_ret ?_
    refine x_qs_ret ?_
    exact x_retR (rs := [.tmp 4]) (vs := [.bool false]) rfl ⟨rfl, trivial⟩ (fun w' hw' => by
        obtain rfl := of_some H
        exact ⟨rfl, hw'.ext⟩)
  · have H := of_if_f hb H
    refine c_skip ?_
    refine x_qs ?_
    refine c_seq ?_
    refine c_seq ?_
    refine c_reg ?_
    refine ow_batch [.p] rfl ?_
    refine ow_nil ?_
    refine x_qs ?_
    refine c_block ?_
    refine CW.at (loopI1 (fun (i45 : Int) => St w [] []) (fun (i45 : Int) => [(0, .slice a_0 p0.length c_0), (1, .slice a_1 p1.length c_1), (5, .int .i64 i45)]) (fun kk => fun (i45 : Int) => laws_eqAttrS_L1 p0 p1 kk i45 = some r) (fun _ H => ?_) (fun k1 ihk1 i45 H => ?_) Fuel (0) (H)) (fun _ h => St.sel [] rfl rfl h) ⟨rfl, rfl, rfl,  trivial⟩
    · unfold laws_eqAttrS_L1 at H
      exact absurd H (by simp)
    · unfold laws_eqAttrS_L1 at H
      refine c_seq ?_
      refine c_seq ?_
      refine c_reg ?_
      refine ow_batch [.p, .p, .lenS 56 105 sl56, .p] rfl ?_
      refine ow_nil ?_
      refine x_qs ?_
      refine c_if rfl (fun hb => ?_) (fun hb => ?_)
      · have H := of_if_t hb H
        refine c_skip ?_
        refine x_qs ?_
        refine c_seq ?_
        refine c_block ?_
        refine c_seq ?_
        refine c_regQ mixed (by kernel_rfl) ?_
        refine ow_batch [.p, .p] rfl ?_
        obtain ⟨e81, h82, H⟩ := of_bind H
        refine ow_ixB rfl rfl rfl rfl rfl sl56 ty105 rfl g0 h82 (fun q85 c86 hd83 hA84 => ?_)
        obtain ⟨c87, c88, c89, rfl, g90, g91, g92⟩ := rdo_Timpl_Attr hd83
        obtain rfl : c87 = [vS e81.Name_] := g90
        obtain ⟨a93, c94, rfl⟩ := rd_sl1 g91
        obtain ⟨a95, c96, rfl⟩ := rd_sl1 g92
        refine ow_r rfl (dstOk_lt rfl) (ry_load (cs := [vS e81.Name_, .slice a93 e81.Cuts_.length c94, .slice a95 e81.Values_.length c96]) rfl rfl ty105 (at_bor bor hA84) rfl) ?_
        refine ow_batch [.p, .p] rfl ?_
        obtain ⟨e97, h98, H⟩ := of_bind H
        refine ow_ixB rfl rfl rfl rfl rfl sl56 ty105 rfl g1 h98 (fun q101 c102 hd99 hA100 => ?_)
        obtain ⟨c103, c104, c105, rfl, g106, g107, g108⟩ := rdo_Timpl_Attr hd99
        obtain rfl : c103 = [vS e97.Name_] := g106
        obtain ⟨a109, c110, rfl⟩ := rd_sl1 g107
        obtain ⟨a111, c112, rfl⟩ := rd_sl1 g108
        refine ow_r rfl (dstOk_lt rfl) (ry_load (cs := [vS e97.Name_, .slice a109 e97.Cuts_.length c110, .slice a111 e97.Values_.length c112]) rfl rfl ty105 (at_bor bor hA100) rfl) ?_
        obtain ⟨y113, h114, H⟩ := of_bind H
        refine ow_q rfl rfl (dstOk_lt rfl) (qy_call rfl fn116 rfl (fun w1 hw1 => laws_eqAttr_ok w1 (cs0 := [vS e81.Name_, .slice a93 e81.Cuts_.length c94, .slice a95 e81.Values_.length c96]) (cs1 := [vS e97.Name_, .slice a109 e97.Cuts_.length c110, .slice a111 e97.Values_.length c112]) h114 (rdm_Timpl_Attr (x := e81) (c0 := [vS e81.Name_]) (c1 := [.slice a93 e81.Cuts_.length c94]) (c2 := [.slice a95 e81.Values_.length c96]) rfl (rds_bor g91 w1 hw1) (rds_bor g92 w1 hw1)) (rdm_Timpl_Attr (x := e97) (c0 := [vS e97.Name_]) (c1 := [.slice a109 e97.Cuts_.length c110]) (c2 := [.slice a111 e97.Values_.length c112]) rfl (rds_bor g107 w1 hw1) (rds_bor g108 w1 hw1)))) (fun _ _ => trivial) ?_
        refine ow_batch [.p] rfl ?_
        refine ow_nilQ ?_
        refine x_qs ?_
        refine c_if rfl (fun hb => ?_) (fun hb => ?_)
        · have H := of_if_t hb H
          refine c_seq ?_
          refine c_reg ?_
          refine ow_batch [.p] rfl ?_
          refine ow_nil ?_
          refine x_qs ?_
          refine c_ret ?_
          refine x_qb_ret ?_
          refine x_qs_ret ?_
          refine x_ql_ret ?_
          refine x_qb_ret ?_
          refine x_qs_ret ?_
          exact x_retR (rs := [.tmp 4]) (vs := [.bool false]) rfl ⟨rfl, trivial⟩ (fun w' hw' => by
              obtain rfl := of_some H
              exact ⟨rfl, hw'.ext⟩)
        · have H := of_if_f hb H
          refine c_skip ?_
          refine x_qb ?_
          refine x_qs ?_
          refine c_reg ?_
          refine ow_batch [.p, .p, .p] rfl ?_
          refine ow_nil ?_
          exact x_ql (RW.at (ihk1 (IntKind.i64.wrap (i45 + 1)) (H)) (fun _ h => St.sel [] rfl rfl h) ⟨rfl, rfl, rfl, trivial⟩)
      · have H := of_if_f hb H
        refine c_exit ?_
        refine x_qs_exit ?_
        refine x_ql_exit ?_
        refine x_qb_here ?_
        refine x_qs ?_
        refine c_seq ?_
        refine c_reg ?_
        refine ow_batch [.p] rfl ?_
        refine ow_nil ?_
        refine x_qs ?_
        refine c_ret ?_
        exact x_retR (rs := [.tmp 4]) (vs := [.bool true]) rfl ⟨rfl, trivial⟩ (fun w' hw' => by
            obtain rfl := of_some H
            exact ⟨rfl, hw'.ext⟩)

set_option maxHeartbeats 4000000 in
set_option maxRecDepth 100000 in
theorem laws_eqSchema_ok (w : World) {p0 : Timpl_Schema} {p1 : Timpl_Schema} {cs0 : List Value} {cs1 : List Value} {r : Bool} (H : laws_eqSchema p0 p1 = some r)  (g0 : (eTimpl_Schema).rd w [] p0 cs0) (g1 : (eTimpl_Schema).rd w [] p1 cs1) :
    Calls Tryd.prog 28 #[.agg cs0.toArray, .agg cs1.toArray] w (fun en w' => en = .returned (.bool r) ∧ Ext [] w w') := by
  obtain ⟨c10, c11, rfl, g12, g13⟩ := rdo_Timpl_Schema g0
  obtain ⟨a14, c15, rfl⟩ := rd_sl1 g12
  obtain ⟨a16, c17, rfl⟩ := rd_sl1 g13
  obtain ⟨c18, c19, rfl, g20, g21⟩ := rdo_Timpl_Schema g1
  obtain ⟨a22, c23, rfl⟩ := rd_sl1 g20
  obtain ⟨a24, c25, rfl⟩ := rd_sl1 g21
  unfold laws_eqSchema at H
  refine f_enter (vs := [.agg #[.slice a14 p0.Attrs_.length c15, .slice a16 p0.Classes_.length c17], .agg #[.slice a22 p1.Attrs_.length c23, .slice a24 p1.Classes_.length c25]]) Tryd.func28 rfl Tryd.ntmps28 rfl (St.init w []) ?_
  refine c_seq ?_
  refine c_reg ?_
  refine ow_box (cs := [.slice a14 p0.Attrs_.length c15, .slice a16 p0.Classes_.length c17]) rfl rfl rfl rfl rfl rfl (fun _ => kp) (fun b26 => ?_)
  refine ow_box (cs := [.slice a22 p1.Attrs_.length c23, .slice a24 p1.Classes_.length c25]) rfl rfl rfl rfl rfl rfl (fun _ => kp) (fun b27 => ?_)
  refine ow_batch [.p] rfl ?_
  refine ow_nil ?_
  refine x_qs ?_
  refine c_seq ?_
  refine c_seq ?_
  refine c_reg ?_
  refine ow_batch [.fa 58 0 0 fa58_0] rfl ?_
  refine ow_r rfl (dstOk_lt rfl) (ry_box1 (off := 0) rfl rfl ty56 (boxIn (i := 0) rfl) rfl) ?_
  refine ow_batch [.fa 58 0 0 fa58_0] rfl ?_
  refine ow_r rfl (dstOk_lt rfl) (ry_box1 (off := 0) rfl rfl ty56 (boxIn (i := 1) rfl) rfl) ?_
  obtain ⟨y28, h29, H⟩ := of_bind H
  refine ow_q rfl rfl (dstOk_lt rfl) (qy_call rfl fn78 rfl (fun w1 hw1 => laws_eqAttrS_ok w1  h29 (rds_bor g12 w1 hw1) (rds_bor g20 w1 hw1))) (fun _ _ => trivial) ?_
  refine ow_batch [.p] rfl ?_
  refine ow_nil ?_
  refine x_qs ?_
  refine c_if rfl (fun hb => ?_) (fun hb => ?_)
  · have H := of_if_t hb H
    refine c_seq ?_
    refine c_reg ?_
    refine ow_batch [.p] rfl ?_
    refine ow_nil ?_
    refine x_qs ?_
    refine c_ret ?_
    refine x_qs_ret ?_
    exact x_retR (rs := [.tmp 4]) (vs := [.bool false]) rfl ⟨rfl, trivial⟩ (fun w' hw' => by
        obtain rfl := of_some H
        exact ⟨rfl, hw'.ext⟩)
  · have H := of_if_f hb H
    refine c_skip ?_
    refine x_qs ?_
    refine c_seq ?_
    refine c_seq ?_
    refine c_reg ?_
    refine ow_batch [.fa 58 1 1 fa58_1] rfl ?_
    refine ow_r rfl (dstOk_lt rfl) (ry_box1 (off := 1) rfl rfl ty48 (boxIn (i := 0) rfl) rfl) ?_
    refine ow_batch [.fa 58 1 1 fa58_1] rfl ?_
    refine ow_r rfl (dstOk_lt rfl) (ry_box1 (off := 1) rfl rfl ty48 (boxIn (i := 1) rfl) rfl) ?_
    obtain ⟨y30, h31, H⟩ := of_bind H
    refine ow_q rfl rfl (dstOk_lt rfl) (qy_call rfl fn79 rfl (fun w1 hw1 => laws_eqStringS_ok w1  h31 (rds_bor g13 w1 hw1) (rds_bor g21 w1 hw1))) (fun _ _ => trivial) ?_
    refine ow_batch [.p] rfl ?_
    refine ow_nil ?_
    refine x_qs ?_
    refine c_if rfl (fun hb => ?_) (fun hb => ?_)
    · have H := of_if_t hb H
      refine c_seq ?_
      refine c_reg ?_
      refine ow_batch [.p] rfl ?_
      refine ow_nil ?_
      refine x_qs ?_
      refine c_ret ?_
      refine x_qs_ret ?_
      exact x_retR (rs := [.tmp 4]) (vs := [.bool false]) rfl ⟨rfl, trivial⟩ (fun w' hw' => by
          obtain rfl := of_some H
          exact ⟨rfl, hw'.ext⟩)
    · have H := of_if_f hb H
      refine c_skip ?_
      refine x_qs ?_
      refine c_seq ?_
      refine c_reg ?_
      refine ow_batch [.p] rfl ?_
      refine ow_nil ?_
      refine x_qs ?_
      refine c_ret ?_
      exact x_retR (rs := [.tmp 4]) (vs := [.bool true]) rfl ⟨rfl, trivial⟩ (fun w' hw' => by
          obtain rfl := of_some H
          exact ⟨rfl, hw'.ext⟩)

set_option maxHeartbeats 4000000 in
set_option maxRecDepth 100000 in
theorem laws_eqFork_ok (w : World) {p0 : Timpl_Fork} {p1 : Timpl_Fork}  {r : Bool} (H : laws_eqFork p0 p1 = some r)   :
    Calls Tryd.prog 92 #[.agg #[.int .i64 p0.Attr_, .int .i64 p0.At_], .agg #[.int .i64 p1.Attr_, .int .i64 p1.At_]] w (fun en w' => en = .returned (.bool r) ∧ Ext [] w w') := by
  unfold laws_eqFork at H
  refine f_enter (vs := [.agg #[.int .i64 p0.Attr_, .int .i64 p0.At_], .agg #[.int .i64 p1.Attr_, .int .i64 p1.At_]]) Tryd.func92 rfl Tryd.ntmps92 rfl (St.init w []) ?_
  refine c_seq ?_
  refine c_reg ?_
  refine ow_box (cs := [.int .i64 p0.Attr_, .int .i64 p0.At_]) rfl rfl rfl rfl rfl rfl (fun _ => kp) (fun b10 => ?_)
  refine ow_box (cs := [.int .i64 p1.Attr_, .int .i64 p1.At_]) rfl rfl rfl rfl rfl rfl (fun _ => kp) (fun b11 => ?_)
  refine ow_batch [.p] rfl ?_
  refine ow_nil ?_
  refine x_qs ?_
  refine c_seq ?_
  refine c_seq ?_
  refine c_reg ?_
  refine ow_batch [.fa 73 0 0 fa73_0] rfl ?_
  refine ow_r rfl (dstOk_lt rfl) (ry_box1 (off := 0) rfl rfl ty3 (boxIn (i := 0) rfl) rfl) ?_
  refine ow_batch [.fa 73 0 0 fa73_0] rfl ?_
  refine ow_r rfl (dstOk_lt rfl) (ry_box1 (off := 0) rfl rfl ty3 (boxIn (i := 1) rfl) rfl) ?_
  refine ow_batch [.p] rfl ?_
  refine ow_nil ?_
  refine x_qs ?_
  refine c_if rfl (fun hb => ?_) (fun hb => ?_)
  · have H := of_if_t hb H
    refine c_seq ?_
    refine c_reg ?_
    refine ow_batch [.p] rfl ?_
    refine ow_nil ?_
    refine x_qs ?_
    refine c_ret ?_
    refine x_qs_ret ?_
    exact x_retR (rs := [.tmp 4]) (vs := [.bool false]) rfl ⟨rfl, trivial⟩ (fun w' hw' => by
        obtain rfl := of_some H
        exact ⟨rfl, hw'.ext⟩)
  · have H := of_if_f hb H
    refine c_skip ?_
    refine x_qs ?_
    refine c_seq ?_
    refine c_seq ?_
    refine c_reg ?_
    refine ow_batch [.fa 73 1 1 fa73_1] rfl ?_
    refine ow_r rfl (dstOk_lt rfl) (ry_box1 (off := 1) rfl rfl ty3 (boxIn (i := 0) rfl) rfl) ?_
    refine ow_batch [.fa 73 1 1 fa73_1] rfl ?_
    refine ow_r rfl (dstOk_lt rfl) (ry_box1 (off := 1) rfl rfl ty3 (boxIn (i := 1) rfl) rfl) ?_
    refine ow_batch [.p] rfl ?_
    refine ow_nil ?_
    refine x_qs ?_
    refine c_if rfl (fun hb => ?_) (fun hb => ?_)
    · have H := of_if_t hb H
      refine c_seq ?_
      refine c_reg ?_
      refine ow_batch [.p] rfl ?_
      refine ow_nil ?_
      refine x_qs ?_
      refine c_ret ?_
      refine x_qs_ret ?_
      exact x_retR (rs := [.tmp 4]) (vs := [.bool false]) rfl ⟨rfl, trivial⟩ (fun w' hw' => by
          obtain rfl := of_some H
          exact ⟨rfl, hw'.ext⟩)
    · have H := of_if_f hb H
      refine c_skip ?_
      refine x_qs ?_
      refine c_seq ?_
      refine c_reg ?_
      refine ow_batch [.p] rfl ?_
      refine ow_nil ?_
      refine x_qs ?_
      refine c_ret ?_
      exact x_retR (rs := [.tmp 4]) (vs := [.bool true]) rfl ⟨rfl, trivial⟩ (fun w' hw' => by
          obtain rfl := of_some H
          exact ⟨rfl, hw'.ext⟩)

set_option maxHeartbeats 4000000 in
set_option maxRecDepth 100000 in
theorem laws_eqIntSS_ok (w : World) {p0 : List (List Int)} {p1 : List (List Int)} {a_0 : Option Addr} {n_0 c_0 : Nat} {a_1 : Option Addr} {n_1 c_1 : Nat} {r : Bool} (H : laws_eqIntSS p0 p1 = some r)  (g0 : (eList (eList (eVal (Value.int .i64) (fun _ => rfl)) 3) 22).rd w [] p0 [.slice a_0 n_0 c_0]) (g1 : (eList (eList (eVal (Value.int .i64) (fun _ => rfl)) 3) 22).rd w [] p1 [.slice a_1 n_1 c_1]) :
    Calls Tryd.prog 49 #[.slice a_0 n_0 c_0, .slice a_1 n_1 c_1] w (fun en w' => en = .returned (.bool r) ∧ Ext [] w w') := by
  obtain rfl := rd_n g0
  obtain rfl := rd_n g1
  unfold laws_eqIntSS at H
  refine f_enter (vs := [.slice a_0 p0.length c_0, .slice a_1 p1.length c_1]) Tryd.func49 rfl Tryd.ntmps49 rfl (St.init w []) ?_
  refine c_seq ?_
  refine c_reg ?_
  refine ow_batch [.p] rfl ?_
  refine ow_nil ?_
  refine x_qs ?_
  refine c_seq ?_
  refine c_seq ?_
  refine c_reg ?_
  refine ow_batch [.p, .lenS 27 22 sl27, .p, .lenS 27 22 sl27, .p] rfl ?_
  refine ow_nil ?_
  refine x_qs ?_
  refine c_if rfl (fun hb => ?_) (fun hb => ?_)
  · have H := of_if_t hb H
    refine c_seq ?_
    refine c_reg ?_
    refine ow_batch [.p] rfl ?_
    refine ow_nil ?_
    refine x_qs ?_
    refine c_ret ?_
    refine x_qs_ret ?_
    exact x_retR (rs := [.tmp 4]) (vs := [.bool false]) rfl ⟨rfl, trivial⟩ (fun w' hw' => by
        obtain rfl := of_some H
        exact ⟨rfl, hw'.ext⟩)
  · have H := of_if_f hb H
    refine c_skip ?_
    refine x_qs ?_
    refine c_seq ?_
    refine c_seq ?_
    refine c_reg ?_
    refine ow_batch [.p] rfl ?_
    refine ow_nil ?_
    refine x_qs ?_
    refine c_block ?_
    refine CW.at (loopI1 (fun (i29 : Int) => St w [] []) (fun (i29 : Int) => [(0, .slice a_0 p0.length c_0), (1, .slice a_1 p1.length c_1), (5, .int .i64 i29)]) (fun kk => fun (i29 : Int) => laws_eqIntSS_L1 p0 p1 kk i29 = some r) (fun _ H => ?_) (fun k1 ihk1 i29 H => ?_) Fuel (0) (H)) (fun _ h => St.sel [] rfl rfl h) ⟨rfl, rfl, rfl,  trivial⟩
    · unfold laws_eqIntSS_L1 at H
      exact absurd H (by simp)
    · unfold laws_eqIntSS_L1 at H
      refine c_seq ?_
      refine c_seq ?_
      refine c_reg ?_
      refine ow_batch [.p, .p, .lenS 27 22 sl27, .p] rfl ?_
      refine ow_nil ?_
      refine x_qs ?_
      refine c_if rfl (fun hb => ?_) (fun hb => ?_)
      · have H := of_if_t hb H
        refine c_skip ?_
        refine x_qs ?_
        refine c_seq ?_
        refine c_block ?_
        refine c_seq ?_
        refine c_regQ mixed (by kernel_rfl) ?_
        refine ow_batch [.p, .p] rfl ?_
        obtain ⟨e49, h50, H⟩ := of_bind H
        refine ow_ixB rfl rfl rfl rfl rfl sl27 ty22 rfl g0 h50 (fun q53 c54 hd51 hA52 => ?_)
        obtain ⟨a55, c56, rfl⟩ := rd_sl1 hd51
        refine ow_r rfl (dstOk_lt rfl) (ry_load1 rfl rfl ty22 (at_bor bor hA52)) ?_
        refine ow_batch [.p, .p] rfl ?_
        obtain ⟨e57, h58, H⟩ := of_bind H
        refine ow_ixB rfl rfl rfl rfl rfl sl27 ty22 rfl g1 h58 (fun q61 c62 hd59 hA60 => ?_)
        obtain ⟨a63, c64, rfl⟩ := rd_sl1 hd59
        refine ow_r rfl (dstOk_lt rfl) (ry_load1 rfl rfl ty22 (at_bor bor hA60)) ?_
        obtain ⟨y65, h66, H⟩ := of_bind H
        refine ow_q rfl rfl (dstOk_lt rfl) (qy_call rfl fn11 rfl (fun w1 hw1 => laws_eqIntS_ok w1  h66 (rds_bor hd51 w1 hw1) (rds_bor hd59 w1 hw1))) (fun _ _ => trivial) ?_
        refine ow_batch [.p] rfl ?_
        refine ow_nilQ ?_
        refine x_qs ?_
        refine c_if rfl (fun hb => ?_) (fun hb => ?_)
        · have H := of_if_t hb H
          refine c_seq ?_
          refine c_reg ?_
          refine ow_batch [.p] rfl ?_
          refine ow_nil ?_
          refine x_qs ?_
          refine c_ret ?_
          refine x_qb_ret ?_
          refine x_qs_ret ?_
          refine x_ql_ret ?_
          refine x_qb_ret ?_
          refine x_qs_ret ?_
          exact x_retR (rs := [.tmp 4]) (vs := [.bool false]) rfl ⟨rfl, trivial⟩ (fun w' hw' => by
              obtain rfl := of_some H
              exact ⟨rfl, hw'.ext⟩)
        · have H := of_if_f hb H
          refine c_skip ?_
          refine x_qb ?_
          refine x_qs ?_
          refine c_reg ?_
          refine ow_batch [.p, .p, .p] rfl ?_
          refine ow_nil ?_
          exact x_ql (RW.at (ihk1 (IntKind.i64.wrap (i29 + 1)) (H)) (fun _ h => St.sel [] rfl rfl h) ⟨rfl, rfl, rfl, trivial⟩)
      · have H := of_if_f hb H
        refine c_exit ?_
        refine x_qs_exit ?_
        refine x_ql_exit ?_
        refine x_qb_here ?_
        refine x_qs ?_
        refine c_seq ?_
        refine c_reg ?_
        refine ow_batch [.p] rfl ?_
        refine ow_nil ?_
        refine x_qs ?_
        refine c_ret ?_
        exact x_retR (rs := [.tmp 4]) (vs := [.bool true]) rfl ⟨rfl, trivial⟩ (fun w' hw' => by
            obtain rfl := of_some H
            exact ⟨rfl, hw'.ext⟩)

set_option maxHeartbeats 4000000 in
set_option maxRecDepth 100000 in
theorem laws_eqStats_ok (w : World) {p0 : Timpl_Stats} {p1 : Timpl_Stats} {cs0 : List Value} {cs1 : List Value} {r : Bool} (H : laws_eqStats p0 p1 = some r)  (g0 : (eTimpl_Stats).rd w [] p0 cs0) (g1 : (eTimpl_Stats).rd w [] p1 cs1) :
    Calls Tryd.prog 93 #[.agg cs0.toArray, .agg cs1.toArray] w (fun en w' => en = .returned (.bool r) ∧ Ext [] w w') := by
  obtain ⟨c10, c11, rfl, g12, g13⟩ := rdo_Timpl_Stats g0
  obtain ⟨a14, c15, rfl⟩ := rd_sl1 g12
  obtain ⟨a16, c17, rfl⟩ := rd_sl1 g13
  obtain ⟨c18, c19, rfl, g20, g21⟩ := rdo_Timpl_Stats g1
  obtain ⟨a22, c23, rfl⟩ := rd_sl1 g20
  obtain ⟨a24, c25, rfl⟩ := rd_sl1 g21
  unfold laws_eqStats at H
  refine f_enter (vs := [.agg #[.slice a14 p0.Totals_.length c15, .slice a16 p0.Cells_.length c17], .agg #[.slice a22 p1.Totals_.length c23, .slice a24 p1.Cells_.length c25]]) Tryd.func93 rfl Tryd.ntmps93 rfl (St.init w []) ?_
  refine c_seq ?_
  refine c_reg ?_
  refine ow_box (cs := [.slice a14 p0.Totals_.length c15, .slice a16 p0.Cells_.length c17]) rfl rfl rfl rfl rfl rfl (fun _ => kp) (fun b26 => ?_)
  refine ow_box (cs := [.slice a22 p1.Totals_.length c23, .slice a24 p1.Cells_.length c25]) rfl rfl rfl rfl rfl rfl (fun _ => kp) (fun b27 => ?_)
  refine ow_batch [.p] rfl ?_
  refine ow_nil ?_
  refine x_qs ?_
  refine c_seq ?_
  refine c_seq ?_
  refine c_reg ?_
  refine ow_batch [.fa 74 0 0 fa74_0] rfl ?_
  refine ow_r rfl (dstOk_lt rfl) (ry_box1 (off := 0) rfl rfl ty22 (boxIn (i := 0) rfl) rfl) ?_
  refine ow_batch [.fa 74 0 0 fa74_0] rfl ?_
  refine ow_r rfl (dstOk_lt rfl) (ry_box1 (off := 0) rfl rfl ty22 (boxIn (i := 1) rfl) rfl) ?_
  obtain ⟨y28, h29, H⟩ := of_bind H
  refine ow_q rfl rfl (dstOk_lt rfl) (qy_call rfl fn11 rfl (fun w1 hw1 => laws_eqIntS_ok w1  h29 (rds_bor g12 w1 hw1) (rds_bor g20 w1 hw1))) (fun _ _ => trivial) ?_
  refine ow_batch [.p] rfl ?_
  refine ow_nil ?_
  refine x_qs ?_
  refine c_if rfl (fun hb => ?_) (fun hb => ?_)
  · have H := of_if_t hb H
    refine c_seq ?_
    refine c_reg ?_
    refine ow_batch [.p] rfl ?_
    refine ow_nil ?_
    refine x_qs ?_
    refine c_ret ?_
    refine x_qs_ret ?_
    exact x_retR (rs := [.tmp 4]) (vs := [.bool false]) rfl ⟨rfl, trivial⟩ (fun w' hw' => by
        obtain rfl := of_some H
        exact ⟨rfl, hw'.ext⟩)
  · have H := of_if_f hb H
    refine c_skip ?_
    refine x_qs ?_
    refine c_seq ?_
    refine c_seq ?_
    refine c_reg ?_
    refine ow_batch [.fa 74 1 1 fa74_1] rfl ?_
    refine ow_r rfl (dstOk_lt rfl) (ry_box1 (off := 1) rfl rfl ty27 (boxIn (i := 0) rfl) rfl) ?_
    refine ow_batch [.fa 74 1 1 fa74_1] rfl ?_
    refine ow_r rfl (dstOk_lt rfl) (ry_box1 (off := 1) rfl rfl ty27 (boxIn (i := 1) rfl) rfl) ?_
    obtain ⟨y30, h31, H⟩ := of_bind H
    refine ow_q rfl rfl (dstOk_lt rfl) (qy_call rfl fn49 rfl (fun w1 hw1 => laws_eqIntSS_ok w1  h31 (rds_bor g13 w1 hw1) (rds_bor g21 w1 hw1))) (fun _ _ => trivial) ?_
    refine ow_batch [.p] rfl ?_
    refine ow_nil ?_
    refine x_qs ?_
    refine c_if rfl (fun hb => ?_) (fun hb => ?_)
    · have H := of_if_t hb H
      refine c_seq ?_
      refine c_reg ?_
      refine ow_batch [.p] rfl ?_
      refine ow_nil ?_
      refine x_qs ?_
      refine c_ret ?_
      refine x_qs_ret ?_
      exact x_retR (rs := [.tmp 4]) (vs := [.bool false]) rfl ⟨rfl, trivial⟩ (fun w' hw' => by
          obtain rfl := of_some H
          exact ⟨rfl, hw'.ext⟩)
    · have H := of_if_f hb H
      refine c_skip ?_
      refine x_qs ?_
      refine c_seq ?_
      refine c_reg ?_
      refine ow_batch [.p] rfl ?_
      refine ow_nil ?_
      refine x_qs ?_
      refine c_ret ?_
      exact x_retR (rs := [.tmp 4]) (vs := [.bool true]) rfl ⟨rfl, trivial⟩ (fun w' hw' => by
          obtain rfl := of_some H
          exact ⟨rfl, hw'.ext⟩)

set_option maxHeartbeats 4000000 in
set_option maxRecDepth 100000 in
theorem laws_eqNode_ok (w : World) {p0 : Timpl_Node} {p1 : Timpl_Node} {cs0 : List Value} {cs1 : List Value} {r : Bool} (H : laws_eqNode p0 p1 = some r)  (g0 : (eTimpl_Node).rd w [] p0 cs0) (g1 : (eTimpl_Node).rd w [] p1 cs1) :
    Calls Tryd.prog 34 #[.agg cs0.toArray, .agg cs1.toArray] w (fun en w' => en = .returned (.bool r) ∧ Ext [] w w') := by
  obtain ⟨c10, c11, c12, c13, c14, c15, c16, c17, c18, c19, rfl, g20, g21, g22, g23, g24, g25, g26, g27, g28, g29⟩ := rdo_Timpl_Node g0
  obtain rfl : c10 = [.bool p0.Leaf_] := g20
  obtain rfl : c11 = [.int .i64 p0.Fork_.Attr_, .int .i64 p0.Fork_.At_] := g21
  obtain ⟨a30, c31, rfl⟩ := rd_sl1 g22
  obtain rfl : c13 = [.int .i64 p0.Miss_] := g23
  obtain ⟨c32, c33, rfl, g34, g35⟩ := rdo_Timpl_Stats g24
  obtain ⟨a36, c37, rfl⟩ := rd_sl1 g34
  obtain ⟨a38, c39, rfl⟩ := rd_sl1 g35
  obtain rfl : c15 = [.int .i64 p0.Since_] := g25
  obtain ⟨a40, c41, rfl⟩ := rd_sl1 g26
  obtain rfl : c17 = [.int .i64 p0.Depth_] := g27
  obtain rfl : c18 = [.int .i64 p0.Up_] := g28
  obtain rfl : c19 = [.int .i64 p0.Born_] := g29
  obtain ⟨c42, c43, c44, c45, c46, c47, c48, c49, c50, c51, rfl, g52, g53, g54, g55, g56, g57, g58, g59, g60, g61⟩ := rdo_Timpl_Node g1
  obtain rfl : c42 = [.bool p1.Leaf_] := g52
  obtain rfl : c43 = [.int .i64 p1.Fork_.Attr_, .int .i64 p1.Fork_.At_] := g53
  obtain ⟨a62, c63, rfl⟩ := rd_sl1 g54
  obtain rfl : c45 = [.int .i64 p1.Miss_] := g55
  obtain ⟨c64, c65, rfl, g66, g67⟩ := rdo_Timpl_Stats g56
  obtain ⟨a68, c69, rfl⟩ := rd_sl1 g66
  obtain ⟨a70, c71, rfl⟩ := rd_sl1 g67
  obtain rfl : c47 = [.int .i64 p1.Since_] := g57
  obtain ⟨a72, c73, rfl⟩ := rd_sl1 g58
  obtain rfl : c49 = [.int .i64 p1.Depth_] := g59
  obtain rfl : c50 = [.int .i64 p1.Up_] := g60
  obtain rfl : c51 = [.int .i64 p1.Born_] := g61
  unfold laws_eqNode at H
  refine f_enter (vs := [.agg #[.bool p0.Leaf_, .int .i64 p0.Fork_.Attr_, .int .i64 p0.Fork_.At_, .slice a30 p0.Kids_.length c31, .int .i64 p0.Miss_, .slice a36 p0.Stats_.Totals_.length c37, .slice a38 p0.Stats_.Cells_.length c39, .int .i64 p0.Since_, .slice a40 p0.Attrs_.length c41, .int .i64 p0.Depth_, .int .i64 p0.Up_, .int .i64 p0.Born_], .agg #[.bool p1.Leaf_, .int .i64 p1.Fork_.Attr_, .int .i64 p1.Fork_.At_, .slice a62 p1.Kids_.length c63, .int .i64 p1.Miss_, .slice a68 p1.Stats_.Totals_.length c69, .slice a70 p1.Stats_.Cells_.length c71, .int .i64 p1.Since_, .slice a72 p1.Attrs_.length c73, .int .i64 p1.Depth_, .int .i64 p1.Up_, .int .i64 p1.Born_]]) Tryd.func34 rfl Tryd.ntmps34 rfl (St.init w []) ?_
  refine c_seq ?_
  refine c_reg ?_
  refine ow_box (cs := [.bool p0.Leaf_, .int .i64 p0.Fork_.Attr_, .int .i64 p0.Fork_.At_, .slice a30 p0.Kids_.length c31, .int .i64 p0.Miss_, .slice a36 p0.Stats_.Totals_.length c37, .slice a38 p0.Stats_.Cells_.length c39, .int .i64 p0.Since_, .slice a40 p0.Attrs_.length c41, .int .i64 p0.Depth_, .int .i64 p0.Up_, .int .i64 p0.Born_]) rfl rfl rfl rfl rfl rfl (fun _ => kp) (fun b74 => ?_)
  refine ow_box (cs := [.bool p1.Leaf_, .int .i64 p1.Fork_.Attr_, .int .i64 p1.Fork_.At_, .slice a62 p1.Kids_.length c63, .int .i64 p1.Miss_, .slice a68 p1.Stats_.Totals_.length c69, .slice a70 p1.Stats_.Cells_.length c71, .int .i64 p1.Since_, .slice a72 p1.Attrs_.length c73, .int .i64 p1.Depth_, .int .i64 p1.Up_, .int .i64 p1.Born_]) rfl rfl rfl rfl rfl rfl (fun _ => kp) (fun b75 => ?_)
  refine ow_batch [.p] rfl ?_
  refine ow_nil ?_
  refine x_qs ?_
  refine c_seq ?_
  refine c_seq ?_
  refine c_reg ?_
  refine ow_batch [.fa 76 0 0 fa76_0] rfl ?_
  refine ow_r rfl (dstOk_lt rfl) (ry_box1 (off := 0) rfl rfl ty4 (boxIn (i := 0) rfl) rfl) ?_
  refine ow_batch [.fa 76 0 0 fa76_0] rfl ?_
  refine ow_r rfl (dstOk_lt rfl) (ry_box1 (off := 0) rfl rfl ty4 (boxIn (i := 1) rfl) rfl) ?_
  refine ow_r rfl (dstOk_lt rfl) (ry_bneq rfl rfl rfl bl4) ?_
  refine ow_nil ?_
  refine x_qs ?_
  refine c_if rfl (fun hb => ?_) (fun hb => ?_)
  · have H := of_if_t hb H
    refine c_seq ?_
    refine c_reg ?_
    refine ow_batch [.p] rfl ?_
    refine ow_nil ?_
    refine x_qs ?_
    refine c_ret ?_
    refine x_qs_ret ?_
    exact x_retR (rs := [.tmp 4]) (vs := [.bool false]) rfl ⟨rfl, trivial⟩ (fun w' hw' => by
        obtain rfl := of_some H
        exact ⟨rfl, hw'.ext⟩)
  · have H := of_if_f hb H
    refine c_skip ?_
    refine x_qs ?_
    refine c_seq ?_
    refine c_seq ?_
    refine c_reg ?_
    refine ow_batch [.fa 76 1 1 fa76_1] rfl ?_
    refine ow_r rfl (dstOk_lt rfl) (ry_box (off := 1) (ds := [.int .i64 p0.Fork_.Attr_, .int .i64 p0.Fork_.At_]) rfl rfl ty73 (boxIn (i := 0) rfl) rfl rfl) ?_
    refine ow_batch [.fa 76 1 1 fa76_1] rfl ?_
    refine ow_r rfl (dstOk_lt rfl) (ry_box (off := 1) (ds := [.int .i64 p1.Fork_.Attr_, .int .i64 p1.Fork_.At_]) rfl rfl ty73 (boxIn (i := 1) rfl) rfl rfl) ?_
    obtain ⟨y76, h77, H⟩ := of_bind H
    refine ow_q rfl rfl (dstOk_lt rfl) (qy_call rfl fn92 rfl (fun w1 hw1 => laws_eqFork_ok w1 (p0 := p0.Fork_) (p1 := p1.Fork_) h77)) (fun _ _ => trivial) ?_
    refine ow_batch [.p] rfl ?_
    refine ow_nil ?_
    refine x_qs ?_
    refine c_if rfl (fun hb => ?_) (fun hb => ?_)
    · have H := of_if_t hb H
      refine c_seq ?_
      refine c_reg ?_
      refine ow_batch [.p] rfl ?_
      refine ow_nil ?_
      refine x_qs ?_
      refine c_ret ?_
      refine x_qs_ret ?_
      exact x_retR (rs := [.tmp 4]) (vs := [.bool false]) rfl ⟨rfl, trivial⟩ (fun w' hw' => by
          obtain rfl := of_some H
          exact ⟨rfl, hw'.ext⟩)
    · have H := of_if_f hb H
      refine c_skip ?_
      refine x_qs ?_
      refine c_seq ?_
      refine c_seq ?_
      refine c_reg ?_
      refine ow_batch [.fa 76 2 3 fa76_2] rfl ?_
      refine ow_r rfl (dstOk_lt rfl) (ry_box1 (off := 3) rfl rfl ty22 (boxIn (i := 0) rfl) rfl) ?_
      refine ow_batch [.fa 76 2 3 fa76_2] rfl ?_
      refine ow_r rfl (dstOk_lt rfl) (ry_box1 (off := 3) rfl rfl ty22 (boxIn (i := 1) rfl) rfl) ?_
      obtain ⟨y78, h79, H⟩ := of_bind H
      refine ow_q rfl rfl (dstOk_lt rfl) (qy_call rfl fn11 rfl (fun w1 hw1 => laws_eqIntS_ok w1  h79 (rds_bor g22 w1 hw1) (rds_bor g54 w1 hw1))) (fun _ _ => trivial) ?_
      refine ow_batch [.p] rfl ?_
      refine ow_nil ?_
      refine x_qs ?_
      refine c_if rfl (fun hb => ?_) (fun hb => ?_)
      · have H := of_if_t hb H
        refine c_seq ?_
        refine c_reg ?_
        refine ow_batch [.p] rfl ?_
        refine ow_nil ?_
        refine x_qs ?_
        refine c_ret ?_
        refine x_qs_ret ?_
        exact x_retR (rs := [.tmp 4]) (vs := [.bool false]) rfl ⟨rfl, trivial⟩ (fun w' hw' => by
            obtain rfl := of_some H
            exact ⟨rfl, hw'.ext⟩)
      · have H := of_if_f hb H
        refine c_skip ?_
        refine x_qs ?_
        refine c_seq ?_
        refine c_seq ?_
        refine c_reg ?_
        refine ow_batch [.fa 76 3 4 fa76_3] rfl ?_
        refine ow_r rfl (dstOk_lt rfl) (ry_box1 (off := 4) rfl rfl ty3 (boxIn (i := 0) rfl) rfl) ?_
        refine ow_batch [.fa 76 3 4 fa76_3] rfl ?_
        refine ow_r rfl (dstOk_lt rfl) (ry_box1 (off := 4) rfl rfl ty3 (boxIn (i := 1) rfl) rfl) ?_
        refine ow_batch [.p] rfl ?_
        refine ow_nil ?_
        refine x_qs ?_
        refine c_if rfl (fun hb => ?_) (fun hb => ?_)
        · have H := of_if_t hb H
          refine c_seq ?_
          refine c_reg ?_
          refine ow_batch [.p] rfl ?_
          refine ow_nil ?_
          refine x_qs ?_
          refine c_ret ?_
          refine x_qs_ret ?_
          exact x_retR (rs := [.tmp 4]) (vs := [.bool false]) rfl ⟨rfl, trivial⟩ (fun w' hw' => by
              obtain rfl := of_some H
              exact ⟨rfl, hw'.ext⟩)
        · have H := of_if_f hb H
          refine c_skip ?_
          refine x_qs ?_
          refine c_seq ?_
          refine c_seq ?_
          refine c_reg ?_
          refine ow_batch [.fa 76 4 5 fa76_4] rfl ?_
          refine ow_r rfl (dstOk_lt rfl) (ry_box (off := 5) (ds := [.slice a36 p0.Stats_.Totals_.length c37, .slice a38 p0.Stats_.Cells_.length c39]) rfl rfl ty74 (boxIn (i := 0) rfl) rfl rfl) ?_
          refine ow_batch [.fa 76 4 5 fa76_4] rfl ?_
          refine ow_r rfl (dstOk_lt rfl) (ry_box (off := 5) (ds := [.slice a68 p1.Stats_.Totals_.length c69, .slice a70 p1.Stats_.Cells_.length c71]) rfl rfl ty74 (boxIn (i := 1) rfl) rfl rfl) ?_
          obtain ⟨y80, h81, H⟩ := of_bind H
          refine ow_q rfl rfl (dstOk_lt rfl) (qy_call rfl fn93 rfl (fun w1 hw1 => laws_eqStats_ok w1 (cs0 := [.slice a36 p0.Stats_.Totals_.length c37, .slice a38 p0.Stats_.Cells_.length c39]) (cs1 := [.slice a68 p1.Stats_.Totals_.length c69, .slice a70 p1.Stats_.Cells_.length c71]) h81 (rdm_Timpl_Stats (x := p0.Stats_) (c0 := [.slice a36 p0.Stats_.Totals_.length c37]) (c1 := [.slice a38 p0.Stats_.Cells_.length c39]) (rds_bor g34 w1 hw1) (rds_bor g35 w1 hw1)) (rdm_Timpl_Stats (x := p1.Stats_) (c0 := [.slice a68 p1.Stats_.Totals_.length c69]) (c1 := [.slice a70 p1.Stats_.Cells_.length c71]) (rds_bor g66 w1 hw1) (rds_bor g67 w1 hw1)))) (fun _ _ => trivial) ?_
          refine ow_batch [.p] rfl ?_
          refine ow_nil ?_
          refine x_qs ?_
          refine c_if rfl (fun hb => ?_) (fun hb => ?_)
          · have H := of_if_t hb H
            refine c_seq ?_
            refine c_reg ?_
            refine ow_batch [.p] rfl ?_
            refine ow_nil ?_
            refine x_qs ?_
            refine c_ret ?_
            refine x_qs_ret ?_
            exact x_retR (rs := [.tmp 4]) (vs := [.bool false]) rfl ⟨rfl, trivial⟩ (fun w' hw' => by
                obtain rfl := of_some H
                exact ⟨rfl, hw'.ext⟩)
          · have H := of_if_f hb H
            refine c_skip ?_
            refine x_qs ?_
            refine c_seq ?_
            refine c_seq ?_
            refine c_reg ?_
            refine ow_batch [.fa 76 5 7 fa76_5] rfl ?_
            refine ow_r rfl (dstOk_lt rfl) (ry_box1 (off := 7) rfl rfl ty3 (boxIn (i := 0) rfl) rfl) ?_
            refine ow_batch [.fa 76 5 7 fa76_5] rfl ?_
            refine ow_r rfl (dstOk_lt rfl) (ry_box1 (off := 7) rfl rfl ty3 (boxIn (i := 1) rfl) rfl) ?_
            refine ow_batch [.p] rfl ?_
            refine ow_nil ?_
            refine x_qs ?_
            refine c_if rfl (fun hb => ?_) (fun hb => ?_)
            · have H := of_if_t hb H
              refine c_seq ?_
              refine c_reg ?_
              refine ow_batch [.p] rfl ?_
              refine ow_nil ?_
              refine x_qs ?_
              refine c_ret ?_
              refine x_qs_ret ?_
              exact x_retR (rs := [.tmp 4]) (vs := [.bool false]) rfl ⟨rfl, trivial⟩ (fun w' hw' => by
                  obtain rfl := of_some H
                  exact ⟨rfl, hw'.ext⟩)
            · have H := of_if_f hb H
              refine c_skip ?_
              refine x_qs ?_
              refine c_seq ?_
              refine c_seq ?_
              refine c_reg ?_
              refine ow_batch [.fa 76 6 8 fa76_6] rfl ?_
              refine ow_r rfl (dstOk_lt rfl) (ry_box1 (off := 8) rfl rfl ty22 (boxIn (i := 0) rfl) rfl) ?_
              refine ow_batch [.fa 76 6 8 fa76_6] rfl ?_
              refine ow_r rfl (dstOk_lt rfl) (ry_box1 (off := 8) rfl rfl ty22 (boxIn (i := 1) rfl) rfl) ?_
              obtain ⟨y82, h83, H⟩ := of_bind H
              refine ow_q rfl rfl (dstOk_lt rfl) (qy_call rfl fn11 rfl (fun w1 hw1 => laws_eqIntS_ok w1  h83 (rds_bor g26 w1 hw1) (rds_bor g58 w1 hw1))) (fun _ _ => trivial) ?_
              refine ow_batch [.p] rfl ?_
              refine ow_nil ?_
              refine x_qs ?_
              refine c_if rfl (fun hb => ?_) (fun hb => ?_)
              · have H := of_if_t hb H
                refine c_seq ?_
                refine c_reg ?_
                refine ow_batch [.p] rfl ?_
                refine ow_nil ?_
                refine x_qs ?_
                refine c_ret ?_
                refine x_qs_ret ?_
                exact x_retR (rs := [.tmp 4]) (vs := [.bool false]) rfl ⟨rfl, trivial⟩ (fun w' hw' => by
                    obtain rfl := of_some H
                    exact ⟨rfl, hw'.ext⟩)
              · have H := of_if_f hb H
                refine c_skip ?_
                refine x_qs ?_
                refine c_seq ?_
                refine c_seq ?_
                refine c_reg ?_
                refine ow_batch [.fa 76 7 9 fa76_7] rfl ?_
                refine ow_r rfl (dstOk_lt rfl) (ry_box1 (off := 9) rfl rfl ty3 (boxIn (i := 0) rfl) rfl) ?_
                refine ow_batch [.fa 76 7 9 fa76_7] rfl ?_
                refine ow_r rfl (dstOk_lt rfl) (ry_box1 (off := 9) rfl rfl ty3 (boxIn (i := 1) rfl) rfl) ?_
                refine ow_batch [.p] rfl ?_
                refine ow_nil ?_
                refine x_qs ?_
                refine c_if rfl (fun hb => ?_) (fun hb => ?_)
                · have H := of_if_t hb H
                  refine c_seq ?_
                  refine c_reg ?_
                  refine ow_batch [.p] rfl ?_
                  refine ow_nil ?_
                  refine x_qs ?_
                  refine c_ret ?_
                  refine x_qs_ret ?_
                  exact x_retR (rs := [.tmp 4]) (vs := [.bool false]) rfl ⟨rfl, trivial⟩ (fun w' hw' => by
                      obtain rfl := of_some H
                      exact ⟨rfl, hw'.ext⟩)
                · have H := of_if_f hb H
                  refine c_skip ?_
                  refine x_qs ?_
                  refine c_seq ?_
                  refine c_seq ?_
                  refine c_reg ?_
                  refine ow_batch [.fa 76 8 10 fa76_8] rfl ?_
                  refine ow_r rfl (dstOk_lt rfl) (ry_box1 (off := 10) rfl rfl ty3 (boxIn (i := 0) rfl) rfl) ?_
                  refine ow_batch [.fa 76 8 10 fa76_8] rfl ?_
                  refine ow_r rfl (dstOk_lt rfl) (ry_box1 (off := 10) rfl rfl ty3 (boxIn (i := 1) rfl) rfl) ?_
                  refine ow_batch [.p] rfl ?_
                  refine ow_nil ?_
                  refine x_qs ?_
                  refine c_if rfl (fun hb => ?_) (fun hb => ?_)
                  · have H := of_if_t hb H
                    refine c_seq ?_
                    refine c_reg ?_
                    refine ow_batch [.p] rfl ?_
                    refine ow_nil ?_
                    refine x_qs ?_
                    refine c_ret ?_
                    refine x_qs_ret ?_
                    exact x_retR (rs := [.tmp 4]) (vs := [.bool false]) rfl ⟨rfl, trivial⟩ (fun w' hw' => by
                        obtain rfl := of_some H
                        exact ⟨rfl, hw'.ext⟩)
                  · have H := of_if_f hb H
                    refine c_skip ?_
                    refine x_qs ?_
                    refine c_seq ?_
                    refine c_seq ?_
                    refine c_reg ?_
                    refine ow_batch [.fa 76 9 11 fa76_9] rfl ?_
                    refine ow_r rfl (dstOk_lt rfl) (ry_box1 (off := 11) rfl rfl ty3 (boxIn (i := 0) rfl) rfl) ?_
                    refine ow_batch [.fa 76 9 11 fa76_9] rfl ?_
                    refine ow_r rfl (dstOk_lt rfl) (ry_box1 (off := 11) rfl rfl ty3 (boxIn (i := 1) rfl) rfl) ?_
                    refine ow_batch [.p] rfl ?_
                    refine ow_nil ?_
                    refine x_qs ?_
                    refine c_if rfl (fun hb => ?_) (fun hb => ?_)
                    · have H := of_if_t hb H
                      refine c_seq ?_
                      refine c_reg ?_
                      refine ow_batch [.p] rfl ?_
                      refine ow_nil ?_
                      refine x_qs ?_
                      refine c_ret ?_
                      refine x_qs_ret ?_
                      exact x_retR (rs := [.tmp 4]) (vs := [.bool false]) rfl ⟨rfl, trivial⟩ (fun w' hw' => by
                          obtain rfl := of_some H
                          exact ⟨rfl, hw'.ext⟩)
                    · have H := of_if_f hb H
                      refine c_skip ?_
                      refine x_qs ?_
                      refine c_seq ?_
                      refine c_reg ?_
                      refine ow_batch [.p] rfl ?_
                      refine ow_nil ?_
                      refine x_qs ?_
                      refine c_ret ?_
                      exact x_retR (rs := [.tmp 4]) (vs := [.bool true]) rfl ⟨rfl, trivial⟩ (fun w' hw' => by
                          obtain rfl := of_some H
                          exact ⟨rfl, hw'.ext⟩)

set_option maxHeartbeats 4000000 in
set_option maxRecDepth 100000 in
theorem laws_FnExactNodeText_ok (w : World) {p0 : Tlaws_Schema} {p1 : Tlaws_Node} {cs0 : List Value} {cs1 : List Value} {r : Bool} (H : laws_FnExactNodeText p0 p1 = some r)  (g0 : (eTlaws_Schema).rd w [] p0 cs0) (g1 : (eTlaws_Node).rd w [] p1 cs1) (gT : (ePow10 Tryd.prog).rd w [] () []) :
    Calls Tryd.prog 7 #[.agg cs0.toArray, .agg cs1.toArray] w (fun en w' => en = .returned (.bool r) ∧ Ext [] w w') := by
  obtain ⟨c10, c11, rfl, g12, g13⟩ := rdo_Tlaws_Schema g0
  obtain ⟨a14, c15, rfl⟩ := rd_sl1 g12
  obtain ⟨a16, c17, rfl⟩ := rd_sl1 g13
  obtain ⟨c18, c19, c20, c21, c22, c23, c24, c25, c26, c27, rfl, g28, g29, g30, g31, g32, g33, g34, g35, g36, g37⟩ := rdo_Tlaws_Node g1
  obtain rfl : c18 = [.bool p1.Leaf_] := g28
  obtain rfl : c19 = [.int .i64 p1.Fork_.Attr_, .int .i64 p1.Fork_.At_] := g29
  obtain ⟨a38, c39, rfl⟩ := rd_sl1 g30
  obtain rfl : c21 = [.int .i64 p1.Miss_] := g31
  obtain ⟨c40, c41, rfl, g42, g43⟩ := rdo_Tlaws_Stats g32
  obtain ⟨a44, c45, rfl⟩ := rd_sl1 g42
  obtain ⟨a46, c47, rfl⟩ := rd_sl1 g43
  obtain rfl : c23 = [.int .i64 p1.Since_] := g33
  obtain ⟨a48, c49, rfl⟩ := rd_sl1 g34
  obtain rfl : c25 = [.int .i64 p1.Depth_] := g35
  obtain rfl : c26 = [.int .i64 p1.Up_] := g36
  obtain rfl : c27 = [.int .i64 p1.Born_] := g37
  unfold laws_FnExactNodeText at H
  refine f_enter (vs := [.agg #[.slice a14 p0.Attrs_.length c15, .slice a16 p0.Classes_.length c17], .agg #[.bool p1.Leaf_, .int .i64 p1.Fork_.Attr_, .int .i64 p1.Fork_.At_, .slice a38 p1.Kids_.length c39, .int .i64 p1.Miss_, .slice a44 p1.Stats_.Totals_.length c45, .slice a46 p1.Stats_.Cells_.length c47, .int .i64 p1.Since_, .slice a48 p1.Attrs_.length c49, .int .i64 p1.Depth_, .int .i64 p1.Up_, .int .i64 p1.Born_]]) Tryd.func7 rfl Tryd.ntmps7 rfl (St.init w []) ?_
  refine c_seq ?_
  refine c_reg ?_
  refine ow_box (cs := [.slice a14 p0.Attrs_.length c15, .slice a16 p0.Classes_.length c17]) rfl rfl rfl rfl rfl rfl (fun _ => kp) (fun b50 => ?_)
  refine ow_box (cs := [.bool p1.Leaf_, .int .i64 p1.Fork_.Attr_, .int .i64 p1.Fork_.At_, .slice a38 p1.Kids_.length c39, .int .i64 p1.Miss_, .slice a44 p1.Stats_.Totals_.length c45, .slice a46 p1.Stats_.Cells_.length c47, .int .i64 p1.Since_, .slice a48 p1.Attrs_.length c49, .int .i64 p1.Depth_, .int .i64 p1.Up_, .int .i64 p1.Born_]) rfl rfl rfl rfl rfl rfl (fun _ => kp) (fun b51 => ?_)
  refine ow_batch [.p] rfl ?_
  refine ow_nil ?_
  refine x_qs ?_
  refine c_seq ?_
  refine c_reg ?_
  refine ow_batch [.p] rfl ?_
  refine ow_nil ?_
  refine x_qs ?_
  refine c_seq ?_
  refine c_reg ?_
  refine ow_r rfl (dstOk_lt rfl) (ry_box (off := 0) (ds := [.slice a14 p0.Attrs_.length c15, .slice a16 p0.Classes_.length c17]) rfl rfl ty50 (boxIn (i := 0) rfl) rfl rfl) ?_
  refine ow_batch [.p] rfl ?_
  obtain ⟨y52, h53, H⟩ := of_bind H
  refine ow_q rfl rfl (dstOk_lt rfl) (qy_call rfl fn22 rfl (fun w1 hw1 => laws_szSchema_ok w1 (cs0 := [.slice a14 p0.Attrs_.length c15, .slice a16 p0.Classes_.length c17]) h53 (rdm_Tlaws_Schema (x := p0) (c0 := [.slice a14 p0.Attrs_.length c15]) (c1 := [.slice a16 p0.Classes_.length c17]) (rds_bor g12 w1 hw1) (rds_bor g13 w1 hw1)))) (fun _ _ => trivial) ?_
  refine ow_batch [.p] rfl ?_
  refine ow_nil ?_
  refine x_qs ?_
  refine c_seq ?_
  refine c_seq ?_
  refine c_reg ?_
  refine ow_batch [.p, .p] rfl ?_
  refine ow_nil ?_
  refine x_qs ?_
  refine c_if rfl (fun hb => ?_) (fun hb => ?_)
  · have H := of_if_t hb H
    refine c_seq ?_
    refine c_reg ?_
    refine ow_batch [.p] rfl ?_
    refine ow_nil ?_
    refine x_qs ?_
    refine c_ret ?_
    refine x_qs_ret ?_
    exact x_retR (rs := [.tmp 4]) (vs := [.bool true]) rfl ⟨rfl, trivial⟩ (fun w' hw' => by
        obtain rfl := of_some H
        exact ⟨rfl, hw'.ext⟩)
  · have H := of_if_f hb H
    refine c_skip ?_
    refine x_qs ?_
    refine c_seq ?_
    refine c_reg ?_
    refine ow_r rfl (dstOk_lt rfl) (ry_box (off := 0) (ds := [.bool p1.Leaf_, .int .i64 p1.Fork_.Attr_, .int .i64 p1.Fork_.At_, .slice a38 p1.Kids_.length c39, .int .i64 p1.Miss_, .slice a44 p1.Stats_.Totals_.length c45, .slice a46 p1.Stats_.Cells_.length c47, .int .i64 p1.Since_, .slice a48 p1.Attrs_.length c49, .int .i64 p1.Depth_, .int .i64 p1.Up_, .int .i64 p1.Born_]) rfl rfl ty70 (boxIn (i := 1) rfl) rfl rfl) ?_
    refine ow_batch [.p] rfl ?_
    obtain ⟨y54, h55, H⟩ := of_bind H
    refine ow_q rfl rfl (dstOk_lt rfl) (qy_call rfl fn30 rfl (fun w1 hw1 => laws_szNode_ok w1 (cs0 := [.bool p1.Leaf_, .int .i64 p1.Fork_.Attr_, .int .i64 p1.Fork_.At_, .slice a38 p1.Kids_.length c39, .int .i64 p1.Miss_, .slice a44 p1.Stats_.Totals_.length c45, .slice a46 p1.Stats_.Cells_.length c47, .int .i64 p1.Since_, .slice a48 p1.Attrs_.length c49, .int .i64 p1.Depth_, .int .i64 p1.Up_, .int .i64 p1.Born_]) h55 (rdm_Tlaws_Node (x := p1) (c0 := [.bool p1.Leaf_]) (c1 := [.int .i64 p1.Fork_.Attr_, .int .i64 p1.Fork_.At_]) (c2 := [.slice a38 p1.Kids_.length c39]) (c3 := [.int .i64 p1.Miss_]) (c4 := [.slice a44 p1.Stats_.Totals_.length c45, .slice a46 p1.Stats_.Cells_.length c47]) (c5 := [.int .i64 p1.Since_]) (c6 := [.slice a48 p1.Attrs_.length c49]) (c7 := [.int .i64 p1.Depth_]) (c8 := [.int .i64 p1.Up_]) (c9 := [.int .i64 p1.Born_]) rfl rfl (rds_bor g30 w1 hw1) rfl (rdm_Tlaws_Stats (x := p1.Stats_) (c0 := [.slice a44 p1.Stats_.Totals_.length c45]) (c1 := [.slice a46 p1.Stats_.Cells_.length c47]) (rds_bor g42 w1 hw1) (rds_bor g43 w1 hw1)) rfl (rds_bor g34 w1 hw1) rfl rfl rfl))) (fun _ _ => trivial) ?_
    refine ow_batch [.p] rfl ?_
    refine ow_nil ?_
    refine x_qs ?_
    refine c_seq ?_
    refine c_seq ?_
    refine c_reg ?_
    refine ow_batch [.p, .p] rfl ?_
    refine ow_nil ?_
    refine x_qs ?_
    refine c_if rfl (fun hb => ?_) (fun hb => ?_)
    · have H := of_if_t hb H
      refine c_seq ?_
      refine c_reg ?_
      refine ow_batch [.p] rfl ?_
      refine ow_nil ?_
      refine x_qs ?_
      refine c_ret ?_
      refine x_qs_ret ?_
      exact x_retR (rs := [.tmp 4]) (vs := [.bool true]) rfl ⟨rfl, trivial⟩ (fun w' hw' => by
          obtain rfl := of_some H
          exact ⟨rfl, hw'.ext⟩)
    · have H := of_if_f hb H
      refine c_skip ?_
      refine x_qs ?_
      refine c_seq ?_
      refine c_regHT 3 [(0, true), (2, true), (1, false)] (St w [] [Res.box b50 50 [.slice a14 p0.Attrs_.length c15, .slice a16 p0.Classes_.length c17], Res.box b51 70 [.bool p1.Leaf_, .int .i64 p1.Fork_.Attr_, .int .i64 p1.Fork_.At_, .slice a38 p1.Kids_.length c39, .int .i64 p1.Miss_, .slice a44 p1.Stats_.Totals_.length c45, .slice a46 p1.Stats_.Cells_.length c47, .int .i64 p1.Since_, .slice a48 p1.Attrs_.length c49, .int .i64 p1.Depth_, .int .i64 p1.Up_, .int .i64 p1.Born_]]) mixed (by kernel_rfl) (panicOk_qs panicOk_body) (fun _ h => St.mask [true, true] rfl h) ?_
      refine ow_rH rfl (dstOk_lt rfl) (ry_box (off := 0) (ds := [.slice a14 p0.Attrs_.length c15, .slice a16 p0.Classes_.length c17]) rfl rfl ty50 (boxIn (i := 0) rfl) rfl rfl) ?_
      refine ow_rH rfl (dstOk_lt rfl) (ry_box (off := 0) (ds := [.bool p1.Leaf_, .int .i64 p1.Fork_.Attr_, .int .i64 p1.Fork_.At_, .slice a38 p1.Kids_.length c39, .int .i64 p1.Miss_, .slice a44 p1.Stats_.Totals_.length c45, .slice a46 p1.Stats_.Cells_.length c47, .int .i64 p1.Since_, .slice a48 p1.Attrs_.length c49, .int .i64 p1.Depth_, .int .i64 p1.Up_, .int .i64 p1.Born_]) rfl rfl ty70 (boxIn (i := 1) rfl) rfl rfl) ?_
      obtain ⟨y69, h70, H⟩ := of_bind H
      refine ow_callS rfl fn25 rfl rfl rfl rfl (fun w1 hw1 => laws_toSchema_ok w1 (cs0 := [.slice a14 p0.Attrs_.length c15, .slice a16 p0.Classes_.length c17]) h70 (hw1.carve [] rfl rfl) (rdm_Tlaws_Schema (x := p0) (c0 := [.slice a14 p0.Attrs_.length c15]) (c1 := [.slice a16 p0.Classes_.length c17]) (rds_bor g12 w1 hw1) (rds_bor g13 w1 hw1))) (fun v71 w1 w2 hw1 hR73 => ?_)
      obtain ⟨a74, n75, c76, F77, a78, n79, c80, F81, rfl, hS72⟩ := hR73
      obtain rfl := own_nS (i := 0) hS72 rfl
      obtain rfl := own_nS (i := 1) hS72 rfl
      refine ⟨St w [] [_, _, _, _], hw1.comp [] rfl rfl hS72, (fun _ h => St.mask [true, true] rfl h), ?_⟩
      refine ow_nilH ?_
      refine x_qt ?_
      obtain ⟨y82, h83, H⟩ := of_bind H
      refine ow_callS rfl fn32 rfl rfl rfl rfl (fun w1 hw1 => laws_toNode_ok w1 (cs0 := [.bool p1.Leaf_, .int .i64 p1.Fork_.Attr_, .int .i64 p1.Fork_.At_, .slice a38 p1.Kids_.length c39, .int .i64 p1.Miss_, .slice a44 p1.Stats_.Totals_.length c45, .slice a46 p1.Stats_.Cells_.length c47, .int .i64 p1.Since_, .slice a48 p1.Attrs_.length c49, .int .i64 p1.Depth_, .int .i64 p1.Up_, .int .i64 p1.Born_]) h83 (hw1.carve [] rfl rfl) (rdm_Tlaws_Node (x := p1) (c0 := [.bool p1.Leaf_]) (c1 := [.int .i64 p1.Fork_.Attr_, .int .i64 p1.Fork_.At_]) (c2 := [.slice a38 p1.Kids_.length c39]) (c3 := [.int .i64 p1.Miss_]) (c4 := [.slice a44 p1.Stats_.Totals_.length c45, .slice a46 p1.Stats_.Cells_.length c47]) (c5 := [.int .i64 p1.Since_]) (c6 := [.slice a48 p1.Attrs_.length c49]) (c7 := [.int .i64 p1.Depth_]) (c8 := [.int .i64 p1.Up_]) (c9 := [.int .i64 p1.Born_]) rfl rfl (rds_bor g30 w1 hw1) rfl (rdm_Tlaws_Stats (x := p1.Stats_) (c0 := [.slice a44 p1.Stats_.Totals_.length c45]) (c1 := [.slice a46 p1.Stats_.Cells_.length c47]) (rds_bor g42 w1 hw1) (rds_bor g43 w1 hw1)) rfl (rds_bor g34 w1 hw1) rfl rfl rfl)) (fun v84 w1 w2 hw1 hR86 => ?_)
      obtain ⟨a87, n88, c89, F90, a91, n92, c93, F94, a95, n96, c97, F98, a99, n100, c101, F102, rfl, hS85⟩ := hR86
      obtain rfl := own_nS (i := 0) hS85 rfl
      obtain rfl := own_nS (i := 1) hS85 rfl
      obtain rfl := own_nS (i := 2) hS85 rfl
      obtain rfl := own_nS (i := 3) hS85 rfl
      refine ⟨St w [] [_, _, _, _, _, _, _, _], hw1.comp [] rfl rfl hS85, fun _ _ => trivial, ?_⟩
      obtain ⟨y103, h104, H⟩ := of_bind H
      refine ow_q rfl rfl (dstOk_lt rfl) (qy_call rfl fn31 rfl (fun w1 hw1 => spec_NodeText_ok w1 (cs0 := [.slice a74 y69.Attrs_.length c76, .slice a78 y69.Classes_.length c80]) (cs1 := [.bool y82.Leaf_, .int .i64 y82.Fork_.Attr_, .int .i64 y82.Fork_.At_, .slice a87 y82.Kids_.length c89, .int .i64 y82.Miss_, .slice a91 y82.Stats_.Totals_.length c93, .slice a95 y82.Stats_.Cells_.length c97, .int .i64 y82.Since_, .slice a99 y82.Attrs_.length c101, .int .i64 y82.Depth_, .int .i64 y82.Up_, .int .i64 y82.Born_]) h104 (rdm_Timpl_Schema (x := y69) (c0 := [.slice a74 y69.Attrs_.length c76]) (c1 := [.slice a78 y69.Classes_.length c80]) (rds_own (e := eList (eTimpl_Attr) 105) (r := 2) rfl w1 hw1) (rds_own (e := eList (eStr) 9) (r := 3) rfl w1 hw1)) (rdm_Timpl_Node (x := y82) (c0 := [.bool y82.Leaf_]) (c1 := [.int .i64 y82.Fork_.Attr_, .int .i64 y82.Fork_.At_]) (c2 := [.slice a87 y82.Kids_.length c89]) (c3 := [.int .i64 y82.Miss_]) (c4 := [.slice a91 y82.Stats_.Totals_.length c93, .slice a95 y82.Stats_.Cells_.length c97]) (c5 := [.int .i64 y82.Since_]) (c6 := [.slice a99 y82.Attrs_.length c101]) (c7 := [.int .i64 y82.Depth_]) (c8 := [.int .i64 y82.Up_]) (c9 := [.int .i64 y82.Born_]) rfl rfl (rds_own (e := eList (eVal (Value.int .i64) (fun _ => rfl)) 3) (r := 4) rfl w1 hw1) rfl (rdm_Timpl_Stats (x := y82.Stats_) (c0 := [.slice a91 y82.Stats_.Totals_.length c93]) (c1 := [.slice a95 y82.Stats_.Cells_.length c97]) (rds_own (e := eList (eVal (Value.int .i64) (fun _ => rfl)) 3) (r := 5) rfl w1 hw1) (rds_own (e := eList (eList (eVal (Value.int .i64) (fun _ => rfl)) 3) 22) (r := 6) rfl w1 hw1)) rfl (rds_own (e := eList (eVal (Value.int .i64) (fun _ => rfl)) 3) (r := 7) rfl w1 hw1) rfl rfl rfl))) (fun _ _ => trivial) ?_
      refine ow_batch [.p] rfl ?_
      refine ow_nil ?_
      refine x_qs ?_
      refine c_seq ?_
      refine c_reg ?_
      refine ow_r rfl (dstOk_lt rfl) (ry_box (off := 0) (ds := [.slice a14 p0.Attrs_.length c15, .slice a16 p0.Classes_.length c17]) rfl rfl ty50 (boxIn (i := 0) rfl) rfl rfl) ?_
      obtain ⟨y105, h106, H⟩ := of_bind H
      refine ow_callS rfl fn25 rfl rfl rfl rfl (fun w1 hw1 => laws_toSchema_ok w1 (cs0 := [.slice a14 p0.Attrs_.length c15, .slice a16 p0.Classes_.length c17]) h106 (hw1.carve [] rfl rfl) (rdm_Tlaws_Schema (x := p0) (c0 := [.slice a14 p0.Attrs_.length c15]) (c1 := [.slice a16 p0.Classes_.length c17]) (rds_bor g12 w1 hw1) (rds_bor g13 w1 hw1))) (fun v107 w1 w2 hw1 hR109 => ?_)
      obtain ⟨a110, n111, c112, F113, a114, n115, c116, F117, rfl, hS108⟩ := hR109
      obtain rfl := own_nS (i := 0) hS108 rfl
      obtain rfl := own_nS (i := 1) hS108 rfl
      refine ⟨St w [] [_, _, _, _, _, _, _, _, _, _], hw1.comp [] rfl rfl hS108, fun _ _ => trivial, ?_⟩
      refine ow_alloc rfl rfl rfl rfl ty58 (fun _ => kp) (fun b118 => ?_)
      refine ow_storeC (off := 0) [.slice a110 y105.Attrs_.length c112, .slice a114 y105.Classes_.length c116] [_, _] (i := 10) rfl rfl rfl rfl rfl rfl ty58 rfl rfl (by intro u hu; simp only [List.mem_cons, List.not_mem_nil, or_false] at hu; rcases hu with rfl | rfl <;> rfl) rfl rfl rfl kp ?_
      refine ow_nil ?_
      refine x_qs ?_
      refine c_seq ?_
      refine c_reg ?_
      refine ow_r rfl (dstOk_lt rfl) (ry_box (off := 0) (ds := [.bool p1.Leaf_, .int .i64 p1.Fork_.Attr_, .int .i64 p1.Fork_.At_, .slice a38 p1.Kids_.length c39, .int .i64 p1.Miss_, .slice a44 p1.Stats_.Totals_.length c45, .slice a46 p1.Stats_.Cells_.length c47, .int .i64 p1.Since_, .slice a48 p1.Attrs_.length c49, .int .i64 p1.Depth_, .int .i64 p1.Up_, .int .i64 p1.Born_]) rfl rfl ty70 (boxIn (i := 1) rfl) rfl rfl) ?_
      obtain ⟨y119, h120, H⟩ := of_bind H
      refine ow_callS rfl fn32 rfl rfl rfl rfl (fun w1 hw1 => laws_toNode_ok w1 (cs0 := [.bool p1.Leaf_, .int .i64 p1.Fork_.Attr_, .int .i64 p1.Fork_.At_, .slice a38 p1.Kids_.length c39, .int .i64 p1.Miss_, .slice a44 p1.Stats_.Totals_.length c45, .slice a46 p1.Stats_.Cells_.length c47, .int .i64 p1.Since_, .slice a48 p1.Attrs_.length c49, .int .i64 p1.Depth_, .int .i64 p1.Up_, .int .i64 p1.Born_]) h120 (hw1.carve [] rfl rfl) (rdm_Tlaws_Node (x := p1) (c0 := [.bool p1.Leaf_]) (c1 := [.int .i64 p1.Fork_.Attr_, .int .i64 p1.Fork_.At_]) (c2 := [.slice a38 p1.Kids_.length c39]) (c3 := [.int .i64 p1.Miss_]) (c4 := [.slice a44 p1.Stats_.Totals_.length c45, .slice a46 p1.Stats_.Cells_.length c47]) (c5 := [.int .i64 p1.Since_]) (c6 := [.slice a48 p1.Attrs_.length c49]) (c7 := [.int .i64 p1.Depth_]) (c8 := [.int .i64 p1.Up_]) (c9 := [.int .i64 p1.Born_]) rfl rfl (rds_bor g30 w1 hw1) rfl (rdm_Tlaws_Stats (x := p1.Stats_) (c0 := [.slice a44 p1.Stats_.Totals_.length c45]) (c1 := [.slice a46 p1.Stats_.Cells_.length c47]) (rds_bor g42 w1 hw1) (rds_bor g43 w1 hw1)) rfl (rds_bor g34 w1 hw1) rfl rfl rfl)) (fun v121 w1 w2 hw1 hR123 => ?_)
      obtain ⟨a124, n125, c126, F127, a128, n129, c130, F131, a132, n133, c134, F135, a136, n137, c138, F139, rfl, hS122⟩ := hR123
      obtain rfl := own_nS (i := 0) hS122 rfl
      obtain rfl := own_nS (i := 1) hS122 rfl
      obtain rfl := own_nS (i := 2) hS122 rfl
      obtain rfl := own_nS (i := 3) hS122 rfl
      refine ⟨St w [] [_, _, _, _, _, _, _, _, _, _, _, _, _, _, _], hw1.comp [] rfl rfl hS122, fun _ _ => trivial, ?_⟩
      refine ow_alloc rfl rfl rfl rfl ty76 (fun _ => kp) (fun b140 => ?_)
      refine ow_storeC (off := 0) [.bool y119.Leaf_, .int .i64 y119.Fork_.Attr_, .int .i64 y119.Fork_.At_, .slice a124 y119.Kids_.length c126, .int .i64 y119.Miss_, .slice a128 y119.Stats_.Totals_.length c130, .slice a132 y119.Stats_.Cells_.length c134, .int .i64 y119.Since_, .slice a136 y119.Attrs_.length c138, .int .i64 y119.Depth_, .int .i64 y119.Up_, .int .i64 y119.Born_] [_, _, _, _, _, _, _, _, _, _, _, _] (i := 15) rfl rfl rfl rfl rfl rfl ty76 rfl rfl (by intro u hu; simp only [List.mem_cons, List.not_mem_nil, or_false] at hu; rcases hu with rfl | rfl | rfl | rfl | rfl | rfl | rfl | rfl | rfl | rfl | rfl | rfl <;> rfl) rfl rfl rfl kp ?_
      refine ow_nil ?_
      refine x_qs ?_
      refine c_seq ?_
      refine c_reg ?_
      refine ow_r rfl (dstOk_lt rfl) (ry_box (off := 0) (ds := [.slice a110 y105.Attrs_.length c112, .slice a114 y105.Classes_.length c116]) rfl rfl ty58 (boxIn (i := 10) rfl) rfl rfl) ?_
      refine ow_r rfl (dstOk_lt rfl) (ry_box (off := 0) (ds := [.bool y119.Leaf_, .int .i64 y119.Fork_.Attr_, .int .i64 y119.Fork_.At_, .slice a124 y119.Kids_.length c126, .int .i64 y119.Miss_, .slice a128 y119.Stats_.Totals_.length c130, .slice a132 y119.Stats_.Cells_.length c134, .int .i64 y119.Since_, .slice a136 y119.Attrs_.length c138, .int .i64 y119.Depth_, .int .i64 y119.Up_, .int .i64 y119.Born_]) rfl rfl ty76 (boxIn (i := 15) rfl) rfl rfl) ?_
      obtain ⟨y141, h142, H⟩ := of_bind H
      refine ow_q rfl rfl (dstOk_lt rfl) (qy_call rfl fn33 rfl (fun w1 hw1 => impl_NodeText_ok w1 (cs0 := [.slice a110 y105.Attrs_.length c112, .slice a114 y105.Classes_.length c116]) (cs1 := [.bool y119.Leaf_, .int .i64 y119.Fork_.Attr_, .int .i64 y119.Fork_.At_, .slice a124 y119.Kids_.length c126, .int .i64 y119.Miss_, .slice a128 y119.Stats_.Totals_.length c130, .slice a132 y119.Stats_.Cells_.length c134, .int .i64 y119.Since_, .slice a136 y119.Attrs_.length c138, .int .i64 y119.Depth_, .int .i64 y119.Up_, .int .i64 y119.Born_]) h142 (rdm_Timpl_Schema (x := y105) (c0 := [.slice a110 y105.Attrs_.length c112]) (c1 := [.slice a114 y105.Classes_.length c116]) (rds_own (e := eList (eTimpl_Attr) 105) (r := 8) rfl w1 hw1) (rds_own (e := eList (eStr) 9) (r := 9) rfl w1 hw1)) (rdm_Timpl_Node (x := y119) (c0 := [.bool y119.Leaf_]) (c1 := [.int .i64 y119.Fork_.Attr_, .int .i64 y119.Fork_.At_]) (c2 := [.slice a124 y119.Kids_.length c126]) (c3 := [.int .i64 y119.Miss_]) (c4 := [.slice a128 y119.Stats_.Totals_.length c130, .slice a132 y119.Stats_.Cells_.length c134]) (c5 := [.int .i64 y119.Since_]) (c6 := [.slice a136 y119.Attrs_.length c138]) (c7 := [.int .i64 y119.Depth_]) (c8 := [.int .i64 y119.Up_]) (c9 := [.int .i64 y119.Born_]) rfl rfl (rds_own (e := eList (eVal (Value.int .i64) (fun _ => rfl)) 3) (r := 11) rfl w1 hw1) rfl (rdm_Timpl_Stats (x := y119.Stats_) (c0 := [.slice a128 y119.Stats_.Totals_.length c130]) (c1 := [.slice a132 y119.Stats_.Cells_.length c134]) (rds_own (e := eList (eVal (Value.int .i64) (fun _ => rfl)) 3) (r := 12) rfl w1 hw1) (rds_own (e := eList (eList (eVal (Value.int .i64) (fun _ => rfl)) 3) 22) (r := 13) rfl w1 hw1)) rfl (rds_own (e := eList (eVal (Value.int .i64) (fun _ => rfl)) 3) (r := 14) rfl w1 hw1) rfl rfl rfl) (rds_bor gT w1 hw1))) (fun _ _ => trivial) ?_
      refine ow_batch [.p] rfl ?_
      refine ow_nil ?_
      refine x_qs ?_
      refine c_seq ?_
      refine c_seq ?_
      refine c_reg ?_
      refine ow_batch [.p, .p, .p] rfl ?_
      refine ow_nil ?_
      refine x_qs ?_
      refine c_if rfl (fun hb => ?_) (fun hb => ?_)
      · have H := of_if_t hb H
        refine c_seq ?_
        refine c_reg ?_
        refine ow_batch [.p] rfl ?_
        refine ow_nil ?_
        refine x_qs ?_
        refine c_ret ?_
        refine x_qs_ret ?_
        exact x_retR (rs := [.tmp 4]) (vs := [.bool false]) rfl ⟨rfl, trivial⟩ (fun w' hw' => by
            obtain rfl := of_some H
            exact ⟨rfl, hw'.ext⟩)
      · have H := of_if_f hb H
        refine c_skip ?_
        refine x_qs ?_
        refine c_seq ?_
        refine c_seq ?_
        refine c_regHT 3 [(0, true), (1, true), (2, false)] (St w [] [Res.box b50 50 [.slice a14 p0.Attrs_.length c15, .slice a16 p0.Classes_.length c17], Res.box b51 70 [.bool p1.Leaf_, .int .i64 p1.Fork_.Attr_, .int .i64 p1.Fork_.At_, .slice a38 p1.Kids_.length c39, .int .i64 p1.Miss_, .slice a44 p1.Stats_.Totals_.length c45, .slice a46 p1.Stats_.Cells_.length c47, .int .i64 p1.Since_, .slice a48 p1.Attrs_.length c49, .int .i64 p1.Depth_, .int .i64 p1.Up_, .int .i64 p1.Born_], Res.own (eList (eTimpl_Attr) 105) F77 y69.Attrs_ [.slice a74 y69.Attrs_.length c76], Res.own (eList (eStr) 9) F81 y69.Classes_ [.slice a78 y69.Classes_.length c80], Res.own (eList (eVal (Value.int .i64) (fun _ => rfl)) 3) F90 y82.Kids_ [.slice a87 y82.Kids_.length c89], Res.own (eList (eVal (Value.int .i64) (fun _ => rfl)) 3) F94 y82.Stats_.Totals_ [.slice a91 y82.Stats_.Totals_.length c93], Res.own (eList (eList (eVal (Value.int .i64) (fun _ => rfl)) 3) 22) F98 y82.Stats_.Cells_ [.slice a95 y82.Stats_.Cells_.length c97], Res.own (eList (eVal (Value.int .i64) (fun _ => rfl)) 3) F102 y82.Attrs_ [.slice a99 y82.Attrs_.length c101], Res.own (eList (eTimpl_Attr) 105) F113 y105.Attrs_ [.slice a110 y105.Attrs_.length c112], Res.own (eList (eStr) 9) F117 y105.Classes_ [.slice a114 y105.Classes_.length c116], Res.box b118 58 [.slice a110 y105.Attrs_.length c112, .slice a114 y105.Classes_.length c116], Res.own (eList (eVal (Value.int .i64) (fun _ => rfl)) 3) F127 y119.Kids_ [.slice a124 y119.Kids_.length c126], Res.own (eList (eVal (Value.int .i64) (fun _ => rfl)) 3) F131 y119.Stats_.Totals_ [.slice a128 y119.Stats_.Totals_.length c130], Res.own (eList (eList (eVal (Value.int .i64) (fun _ => rfl)) 3) 22) F135 y119.Stats_.Cells_ [.slice a132 y119.Stats_.Cells_.length c134], Res.own (eList (eVal (Value.int .i64) (fun _ => rfl)) 3) F139 y119.Attrs_ [.slice a136 y119.Attrs_.length c138], Res.box b140 76 [.bool y119.Leaf_, .int .i64 y119.Fork_.Attr_, .int .i64 y119.Fork_.At_, .slice a124 y119.Kids_.length c126, .int .i64 y119.Miss_, .slice a128 y119.Stats_.Totals_.length c130, .slice a132 y119.Stats_.Cells_.length c134, .int .i64 y119.Since_, .slice a136 y119.Attrs_.length c138, .int .i64 y119.Depth_, .int .i64 y119.Up_, .int .i64 y119.Born_]]) mixed (by kernel_rfl) (panicOk_qs (panicOk_qs panicOk_body)) (fun _ h => St.mask [true, true, true, true, true, true, true, true, true, true, true, true, true, true, true, true] rfl h) ?_
        refine ow_rH rfl (dstOk_lt rfl) (ry_box (off := 0) (ds := [.slice a110 y105.Attrs_.length c112, .slice a114 y105.Classes_.length c116]) rfl rfl ty58 (boxIn (i := 10) rfl) rfl rfl) ?_
        refine ow_rH rfl (dstOk_lt rfl) (ry_box (off := 0) (ds := [.slice a14 p0.Attrs_.length c15, .slice a16 p0.Classes_.length c17]) rfl rfl ty50 (boxIn (i := 0) rfl) rfl rfl) ?_
        obtain ⟨y156, h157, H⟩ := of_bind H
        refine ow_callS rfl fn25 rfl rfl rfl rfl (fun w1 hw1 => laws_toSchema_ok w1 (cs0 := [.slice a14 p0.Attrs_.length c15, .slice a16 p0.Classes_.length c17]) h157 (hw1.carve [] rfl rfl) (rdm_Tlaws_Schema (x := p0) (c0 := [.slice a14 p0.Attrs_.length c15]) (c1 := [.slice a16 p0.Classes_.length c17]) (rds_bor g12 w1 hw1) (rds_bor g13 w1 hw1))) (fun v158 w1 w2 hw1 hR160 => ?_)
        obtain ⟨a161, n162, c163, F164, a165, n166, c167, F168, rfl, hS159⟩ := hR160
        obtain rfl := own_nS (i := 0) hS159 rfl
        obtain rfl := own_nS (i := 1) hS159 rfl
        refine ⟨St w [] [_, _, _, _, _, _, _, _, _, _, _, _, _, _, _, _, _, _], hw1.comp [] rfl rfl hS159, (fun _ h => St.mask [true, true, true, true, true, true, true, true, true, true, true, true, true, true, true, true] rfl h), ?_⟩
        refine ow_nilH ?_
        refine x_qt ?_
        obtain ⟨y169, h170, H⟩ := of_bind H
        refine ow_q rfl rfl (dstOk_lt rfl) (qy_call rfl fn28 rfl (fun w1 hw1 => laws_eqSchema_ok w1 (cs0 := [.slice a110 y105.Attrs_.length c112, .slice a114 y105.Classes_.length c116]) (cs1 := [.slice a161 y156.Attrs_.length c163, .slice a165 y156.Classes_.length c167]) h170 (rdm_Timpl_Schema (x := y105) (c0 := [.slice a110 y105.Attrs_.length c112]) (c1 := [.slice a114 y105.Classes_.length c116]) (rds_own (e := eList (eTimpl_Attr) 105) (r := 8) rfl w1 hw1) (rds_own (e := eList (eStr) 9) (r := 9) rfl w1 hw1)) (rdm_Timpl_Schema (x := y156) (c0 := [.slice a161 y156.Attrs_.length c163]) (c1 := [.slice a165 y156.Classes_.length c167]) (rds_own (e := eList (eTimpl_Attr) 105) (r := 16) rfl w1 hw1) (rds_own (e := eList (eStr) 9) (r := 17) rfl w1 hw1)))) (fun _ _ => trivial) ?_
        refine ow_batch [.p] rfl ?_
        refine ow_nil ?_
        refine x_qs ?_
        refine c_if rfl (fun hb => ?_) (fun hb => ?_)
        · have H := of_if_t hb H
          refine c_seq ?_
          refine c_reg ?_
          refine ow_batch [.p] rfl ?_
          refine ow_nil ?_
          refine x_qs ?_
          refine c_ret ?_
          refine x_qs_ret ?_
          exact x_retR (rs := [.tmp 4]) (vs := [.bool false]) rfl ⟨rfl, trivial⟩ (fun w' hw' => by
              obtain rfl := of_some H
              exact ⟨rfl, hw'.ext⟩)
        · have H := of_if_f hb H
          refine c_skip ?_
          refine x_qs ?_
          refine c_seq ?_
          refine c_seq ?_
          refine c_regHT 3 [(0, true), (1, true), (2, false)] (St w [] [Res.box b50 50 [.slice a14 p0.Attrs_.length c15, .slice a16 p0.Classes_.length c17], Res.box b51 70 [.bool p1.Leaf_, .int .i64 p1.Fork_.Attr_, .int .i64 p1.Fork_.At_, .slice a38 p1.Kids_.length c39, .int .i64 p1.Miss_, .slice a44 p1.Stats_.Totals_.length c45, .slice a46 p1.Stats_.Cells_.length c47, .int .i64 p1.Since_, .slice a48 p1.Attrs_.length c49, .int .i64 p1.Depth_, .int .i64 p1.Up_, .int .i64 p1.Born_], Res.own (eList (eTimpl_Attr) 105) F77 y69.Attrs_ [.slice a74 y69.Attrs_.length c76], Res.own (eList (eStr) 9) F81 y69.Classes_ [.slice a78 y69.Classes_.length c80], Res.own (eList (eVal (Value.int .i64) (fun _ => rfl)) 3) F90 y82.Kids_ [.slice a87 y82.Kids_.length c89], Res.own (eList (eVal (Value.int .i64) (fun _ => rfl)) 3) F94 y82.Stats_.Totals_ [.slice a91 y82.Stats_.Totals_.length c93], Res.own (eList (eList (eVal (Value.int .i64) (fun _ => rfl)) 3) 22) F98 y82.Stats_.Cells_ [.slice a95 y82.Stats_.Cells_.length c97], Res.own (eList (eVal (Value.int .i64) (fun _ => rfl)) 3) F102 y82.Attrs_ [.slice a99 y82.Attrs_.length c101], Res.own (eList (eTimpl_Attr) 105) F113 y105.Attrs_ [.slice a110 y105.Attrs_.length c112], Res.own (eList (eStr) 9) F117 y105.Classes_ [.slice a114 y105.Classes_.length c116], Res.box b118 58 [.slice a110 y105.Attrs_.length c112, .slice a114 y105.Classes_.length c116], Res.own (eList (eVal (Value.int .i64) (fun _ => rfl)) 3) F127 y119.Kids_ [.slice a124 y119.Kids_.length c126], Res.own (eList (eVal (Value.int .i64) (fun _ => rfl)) 3) F131 y119.Stats_.Totals_ [.slice a128 y119.Stats_.Totals_.length c130], Res.own (eList (eList (eVal (Value.int .i64) (fun _ => rfl)) 3) 22) F135 y119.Stats_.Cells_ [.slice a132 y119.Stats_.Cells_.length c134], Res.own (eList (eVal (Value.int .i64) (fun _ => rfl)) 3) F139 y119.Attrs_ [.slice a136 y119.Attrs_.length c138], Res.box b140 76 [.bool y119.Leaf_, .int .i64 y119.Fork_.Attr_, .int .i64 y119.Fork_.At_, .slice a124 y119.Kids_.length c126, .int .i64 y119.Miss_, .slice a128 y119.Stats_.Totals_.length c130, .slice a132 y119.Stats_.Cells_.length c134, .int .i64 y119.Since_, .slice a136 y119.Attrs_.length c138, .int .i64 y119.Depth_, .int .i64 y119.Up_, .int .i64 y119.Born_], Res.own (eList (eTimpl_Attr) 105) F164 y156.Attrs_ [.slice a161 y156.Attrs_.length c163], Res.own (eList (eStr) 9) F168 y156.Classes_ [.slice a165 y156.Classes_.length c167]]) mixed (by kernel_rfl) (panicOk_qs (panicOk_qs panicOk_body)) (fun _ h => St.mask [true, true, true, true, true, true, true, true, true, true, true, true, true, true, true, true, true, true] rfl h) ?_
          refine ow_rH rfl (dstOk_lt rfl) (ry_box (off := 0) (ds := [.bool y119.Leaf_, .int .i64 y119.Fork_.Attr_, .int .i64 y119.Fork_.At_, .slice a124 y119.Kids_.length c126, .int .i64 y119.Miss_, .slice a128 y119.Stats_.Totals_.length c130, .slice a132 y119.Stats_.Cells_.length c134, .int .i64 y119.Since_, .slice a136 y119.Attrs_.length c138, .int .i64 y119.Depth_, .int .i64 y119.Up_, .int .i64 y119.Born_]) rfl rfl ty76 (boxIn (i := 15) rfl) rfl rfl) ?_
          refine ow_rH rfl (dstOk_lt rfl) (ry_box (off := 0) (ds := [.bool p1.Leaf_, .int .i64 p1.Fork_.Attr_, .int .i64 p1.Fork_.At_, .slice a38 p1.Kids_.length c39, .int .i64 p1.Miss_, .slice a44 p1.Stats_.Totals_.length c45, .slice a46 p1.Stats_.Cells_.length c47, .int .i64 p1.Since_, .slice a48 p1.Attrs_.length c49, .int .i64 p1.Depth_, .int .i64 p1.Up_, .int .i64 p1.Born_]) rfl rfl ty70 (boxIn (i := 1) rfl) rfl rfl) ?_
          obtain ⟨y192, h193, H⟩ := of_bind H
          refine ow_callS rfl fn32 rfl rfl rfl rfl (fun w1 hw1 => laws_toNode_ok w1 (cs0 := [.bool p1.Leaf_, .int .i64 p1.Fork_.Attr_, .int .i64 p1.Fork_.At_, .slice a38 p1.Kids_.length c39, .int .i64 p1.Miss_, .slice a44 p1.Stats_.Totals_.length c45, .slice a46 p1.Stats_.Cells_.length c47, .int .i64 p1.Since_, .slice a48 p1.Attrs_.length c49, .int .i64 p1.Depth_, .int .i64 p1.Up_, .int .i64 p1.Born_]) h193 (hw1.carve [] rfl rfl) (rdm_Tlaws_Node (x := p1) (c0 := [.bool p1.Leaf_]) (c1 := [.int .i64 p1.Fork_.Attr_, .int .i64 p1.Fork_.At_]) (c2 := [.slice a38 p1.Kids_.length c39]) (c3 := [.int .i64 p1.Miss_]) (c4 := [.slice a44 p1.Stats_.Totals_.length c45, .slice a46 p1.Stats_.Cells_.length c47]) (c5 := [.int .i64 p1.Since_]) (c6 := [.slice a48 p1.Attrs_.length c49]) (c7 := [.int .i64 p1.Depth_]) (c8 := [.int .i64 p1.Up_]) (c9 := [.int .i64 p1.Born_]) rfl rfl (rds_bor g30 w1 hw1) rfl (rdm_Tlaws_Stats (x := p1.Stats_) (c0 := [.slice a44 p1.Stats_.Totals_.length c45]) (c1 := [.slice a46 p1.Stats_.Cells_.length c47]) (rds_bor g42 w1 hw1) (rds_bor g43 w1 hw1)) rfl (rds_bor g34 w1 hw1) rfl rfl rfl)) (fun v194 w1 w2 hw1 hR196 => ?_)
          obtain ⟨a197, n198, c199, F200, a201, n202, c203, F204, a205, n206, c207, F208, a209, n210, c211, F212, rfl, hS195⟩ := hR196
          obtain rfl := own_nS (i := 0) hS195 rfl
          obtain rfl := own_nS (i := 1) hS195 rfl
          obtain rfl := own_nS (i := 2) hS195 rfl
          obtain rfl := own_nS (i := 3) hS195 rfl
          refine ⟨St w [] [_, _, _, _, _, _, _, _, _, _, _, _, _, _, _, _, _, _, _, _, _, _], hw1.comp [] rfl rfl hS195, (fun _ h => St.mask [true, true, true, true, true, true, true, true, true, true, true, true, true, true, true, true, true, true] rfl h), ?_⟩
          refine ow_nilH ?_
          refine x_qt ?_
          obtain ⟨y213, h214, H⟩ := of_bind H
          refine ow_q rfl rfl (dstOk_lt rfl) (qy_call rfl fn34 rfl (fun w1 hw1 => laws_eqNode_ok w1 (cs0 := [.bool y119.Leaf_, .int .i64 y119.Fork_.Attr_, .int .i64 y119.Fork_.At_, .slice a124 y119.Kids_.length c126, .int .i64 y119.Miss_, .slice a128 y119.Stats_.Totals_.length c130, .slice a132 y119.Stats_.Cells_.length c134, .int .i64 y119.Since_, .slice a136 y119.Attrs_.length c138, .int .i64 y119.Depth_, .int .i64 y119.Up_, .int .i64 y119.Born_]) (cs1 := [.bool y192.Leaf_, .int .i64 y192.Fork_.Attr_, .int .i64 y192.Fork_.At_, .slice a197 y192.Kids_.length c199, .int .i64 y192.Miss_, .slice a201 y192.Stats_.Totals_.length c203, .slice a205 y192.Stats_.Cells_.length c207, .int .i64 y192.Since_, .slice a209 y192.Attrs_.length c211, .int .i64 y192.Depth_, .int .i64 y192.Up_, .int .i64 y192.Born_]) h214 (rdm_Timpl_Node (x := y119) (c0 := [.bool y119.Leaf_]) (c1 := [.int .i64 y119.Fork_.Attr_, .int .i64 y119.Fork_.At_]) (c2 := [.slice a124 y119.Kids_.length c126]) (c3 := [.int .i64 y119.Miss_]) (c4 := [.slice a128 y119.Stats_.Totals_.length c130, .slice a132 y119.Stats_.Cells_.length c134]) (c5 := [.int .i64 y119.Since_]) (c6 := [.slice a136 y119.Attrs_.length c138]) (c7 := [.int .i64 y119.Depth_]) (c8 := [.int .i64 y119.Up_]) (c9 := [.int .i64 y119.Born_]) rfl rfl (rds_own (e := eList (eVal (Value.int .i64) (fun _ => rfl)) 3) (r := 11) rfl w1 hw1) rfl (rdm_Timpl_Stats (x := y119.Stats_) (c0 := [.slice a128 y119.Stats_.Totals_.length c130]) (c1 := [.slice a132 y119.Stats_.Cells_.length c134]) (rds_own (e := eList (eVal (Value.int .i64) (fun _ => rfl)) 3) (r := 12) rfl w1 hw1) (rds_own (e := eList (eList (eVal (Value.int .i64) (fun _ => rfl)) 3) 22) (r := 13) rfl w1 hw1)) rfl (rds_own (e := eList (eVal (Value.int .i64) (fun _ => rfl)) 3) (r := 14) rfl w1 hw1) rfl rfl rfl) (rdm_Timpl_Node (x := y192) (c0 := [.bool y192.Leaf_]) (c1 := [.int .i64 y192.Fork_.Attr_, .int .i64 y192.Fork_.At_]) (c2 := [.slice a197 y192.Kids_.length c199]) (c3 := [.int .i64 y192.Miss_]) (c4 := [.slice a201 y192.Stats_.Totals_.length c203, .slice a205 y192.Stats_.Cells_.length c207]) (c5 := [.int .i64 y192.Since_]) (c6 := [.slice a209 y192.Attrs_.length c211]) (c7 := [.int .i64 y192.Depth_]) (c8 := [.int .i64 y192.Up_]) (c9 := [.int .i64 y192.Born_]) rfl rfl (rds_own (e := eList (eVal (Value.int .i64) (fun _ => rfl)) 3) (r := 18) rfl w1 hw1) rfl (rdm_Timpl_Stats (x := y192.Stats_) (c0 := [.slice a201 y192.Stats_.Totals_.length c203]) (c1 := [.slice a205 y192.Stats_.Cells_.length c207]) (rds_own (e := eList (eVal (Value.int .i64) (fun _ => rfl)) 3) (r := 19) rfl w1 hw1) (rds_own (e := eList (eList (eVal (Value.int .i64) (fun _ => rfl)) 3) 22) (r := 20) rfl w1 hw1)) rfl (rds_own (e := eList (eVal (Value.int .i64) (fun _ => rfl)) 3) (r := 21) rfl w1 hw1) rfl rfl rfl))) (fun _ _ => trivial) ?_
          refine ow_batch [.p] rfl ?_
          refine ow_nil ?_
          refine x_qs ?_
          refine c_if rfl (fun hb => ?_) (fun hb => ?_)
          · have H := of_if_t hb H
            refine c_seq ?_
            refine c_reg ?_
            refine ow_batch [.p] rfl ?_
            refine ow_nil ?_
            refine x_qs ?_
            refine c_ret ?_
            refine x_qs_ret ?_
            exact x_retR (rs := [.tmp 4]) (vs := [.bool false]) rfl ⟨rfl, trivial⟩ (fun w' hw' => by
                obtain rfl := of_some H
                exact ⟨rfl, hw'.ext⟩)
          · have H := of_if_f hb H
            refine c_skip ?_
            refine x_qs ?_
            refine c_seq ?_
            refine c_reg ?_
            refine ow_batch [.p] rfl ?_
            refine ow_nil ?_
            refine x_qs ?_
            refine c_ret ?_
            exact x_retR (rs := [.tmp 4]) (vs := [.bool true]) rfl ⟨rfl, trivial⟩ (fun w' hw' => by
                obtain rfl := of_some H
                exact ⟨rfl, hw'.ext⟩)

end Go.Vk
