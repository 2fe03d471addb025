/- The code does what the functions of data say. Printed by program. -/

import Derived.Test.YtjflgcighcjfkaaGreatDoorWTreeTextB

namespace Go.Vk

open Go.Proofs Go.RowKit



set_option maxHeartbeats 4000000 in
set_option maxRecDepth 100000 in
theorem impl_AttrsOk_ok (w : World) {p0 : Timpl_Schema} {p1 : List Int} {cs0 : List Value} {a_1 : Option Addr} {n_1 c_1 : Nat} {r : Bool} (H : impl_AttrsOk p0 p1 = some r)  (g0 : (eTimpl_Schema).rd w [] p0 cs0) (g1 : (eList (eVal (Value.int .i64) (fun _ => rfl)) 3).rd w [] p1 [.slice a_1 n_1 c_1]) :
    Calls Tryz.prog 76 #[.agg cs0.toArray, .slice a_1 n_1 c_1] w (fun en w' => en = .returned (.bool r) ∧ Ext [] w w') := by
  obtain ⟨c10, c11, rfl, g12, g13⟩ := rdo_Timpl_Schema g0
  obtain ⟨a14, c15, rfl⟩ := rd_sl1 g12
  obtain ⟨a16, c17, rfl⟩ := rd_sl1 g13
  obtain rfl := rd_n g1
  unfold impl_AttrsOk at H
  refine f_enter (vs := [.agg #[.slice a14 p0.Attrs_.length c15, .slice a16 p0.Classes_.length c17], .slice a_1 p1.length c_1]) Tryz.func76 rfl Tryz.ntmps76 rfl (St.init w []) ?_
  refine c_seq ?_
  refine c_reg ?_
  refine ow_box (cs := [.slice a14 p0.Attrs_.length c15, .slice a16 p0.Classes_.length c17]) rfl rfl rfl rfl rfl rfl (fun _ => kp) (fun b18 => ?_)
  refine ow_batch [.p] rfl ?_
  refine ow_nil ?_
  refine x_qs ?_
  refine c_seq ?_
  refine c_regQ mixed (by kernel_rfl) ?_
  refine ow_r rfl (dstOk_lt rfl) (ry_box (off := 0) (ds := [.slice a14 p0.Attrs_.length c15, .slice a16 p0.Classes_.length c17]) rfl rfl ty34 (boxIn (i := 0) rfl) rfl rfl) ?_
  obtain ⟨y19, h20, H⟩ := of_bind H
  refine ow_q rfl rfl (dstOk_lt rfl) (qy_call rfl fn42 rfl (fun w1 hw1 => impl_SchemaOk_ok w1 (cs0 := [.slice a14 p0.Attrs_.length c15, .slice a16 p0.Classes_.length c17]) h20 (rdm_Timpl_Schema (x := p0) (c0 := [.slice a14 p0.Attrs_.length c15]) (c1 := [.slice a16 p0.Classes_.length c17]) (rds_bor g12 w1 hw1) (rds_bor g13 w1 hw1)))) (fun _ _ => trivial) ?_
  refine ow_batch [.p] rfl ?_
  refine ow_cut [(11, .bool (y19 && (decide ((p1.length : Int) > 0)))), (1, .slice a_1 p1.length c_1), (2, .pointer (some ⟨b18, 0, none⟩)), (4, .bool false)] 4 ?_ (fun key => OW.sub (R := [(1, .slice a_1 p1.length c_1), (2, .pointer (some ⟨b18, 0, none⟩)), (4, .bool false), (7, .bool y19)]) ?_ ⟨rfl, rfl, rfl, rfl, trivial⟩)
  · refine ow_batch [.p] rfl ?_
    obtain ⟨u23, hu27, H⟩ := of_bind H
    refine ow_cut [(15, .bool u23), (1, .slice a_1 p1.length c_1), (2, .pointer (some ⟨b18, 0, none⟩)), (4, .bool false)] 3 ?_ (fun key => OW.sub (R := [(1, .slice a_1 p1.length c_1), (2, .pointer (some ⟨b18, 0, none⟩)), (4, .bool false), (12, .bool (y19 && (decide ((p1.length : Int) > 0))))]) ?_ ⟨rfl, rfl, rfl, rfl, trivial⟩)
    · refine ow_batch [.p] rfl ?_
      obtain ⟨u28, hu32, H⟩ := of_bind H
      refine ow_cut [(21, .bool u28), (1, .slice a_1 p1.length c_1), (2, .pointer (some ⟨b18, 0, none⟩)), (4, .bool false)] 5 ?_ (fun key => OW.sub (R := [(1, .slice a_1 p1.length c_1), (2, .pointer (some ⟨b18, 0, none⟩)), (4, .bool false), (16, .bool u23)]) ?_ ⟨rfl, rfl, rfl, rfl, trivial⟩)
      · refine ow_batch [.p] rfl ?_
        obtain ⟨u33, hu37, H⟩ := of_bind H
        refine ow_cut [(33, .bool u33), (4, .bool false)] 11 ?_ (fun key => OW.sub (R := [(1, .slice a_1 p1.length c_1), (2, .pointer (some ⟨b18, 0, none⟩)), (4, .bool false), (22, .bool u28)]) ?_ ⟨rfl, rfl, rfl, rfl, trivial⟩)
        · refine ow_batch [.p] rfl ?_
          refine ow_nilQ ?_
          refine x_qs ?_
          refine c_ret ?_
          exact x_retR (rs := [.tmp 4]) (vs := [.bool u33]) rfl ⟨rfl, trivial⟩ (fun w' hw' => by
              obtain rfl := of_some H
              exact ⟨rfl, hw'.ext⟩)
        · clear H
          have H := hu37
          clear hu37
          generalize u28 = t36 at H key ⊢
          cases t36
          · have H := of_if_f rfl H
            refine ow_batch [.p, .p, .p, .p, .p, .p, .p, .p, .p, .p, .p] rfl ?_
            obtain rfl := of_some H
            exact OW.sub key ⟨rfl, rfl, trivial⟩
          · have H := of_if_t rfl H
            refine ow_batch [.p, .p, .lenS 49 3 sl49, .p] rfl ?_
            obtain ⟨e34, h35, H⟩ := of_bind H
            refine ow_ixE (e := eVal (Value.int .i64) (fun _ => rfl)) (xs := p1) (j := IntKind.i64.wrap ((p1.length : Int) - 1)) rfl rfl rfl rfl rfl sl49 ty3 rfl (fun w1 hw1 => rds_bor g1 w1 hw1) h35 (by rw [Nat.mul_one]) ?_
            refine ow_r rfl (dstOk_lt rfl) (ry_load1 rfl rfl ty3 (at_elV (fun w1 hw1 => rds_bor g1 w1 hw1) h35)) ?_
            refine ow_batch [.fa 34 0 0 fa34_0] rfl ?_
            refine ow_r rfl (dstOk_lt rfl) (ry_box1 (off := 0) rfl rfl ty32 (boxIn (i := 0) rfl) rfl) ?_
            refine ow_batch [.lenS 32 83 sl32, .p] rfl ?_
            refine ow_batch [.p] rfl ?_
            obtain rfl := of_some H
            exact OW.sub key ⟨rfl, rfl, trivial⟩
      · clear H
        have H := hu32
        clear hu32
        generalize u23 = t31 at H key ⊢
        cases t31
        · have H := of_if_f rfl H
          refine ow_batch [.p, .p, .p, .p, .p] rfl ?_
          obtain rfl := of_some H
          exact OW.sub key ⟨rfl, rfl, rfl, rfl, trivial⟩
        · have H := of_if_t rfl H
          refine ow_batch [.p] rfl ?_
          obtain ⟨e29, h30, H⟩ := of_bind H
          refine ow_ixE (e := eVal (Value.int .i64) (fun _ => rfl)) (xs := p1) (j := 0) rfl rfl rfl rfl rfl sl49 ty3 rfl (fun w1 hw1 => rds_bor g1 w1 hw1) h30 (by rw [Nat.mul_one]) ?_
          refine ow_r rfl (dstOk_lt rfl) (ry_load1 rfl rfl ty3 (at_elV (fun w1 hw1 => rds_bor g1 w1 hw1) h30)) ?_
          refine ow_batch [.p] rfl ?_
          refine ow_batch [.p] rfl ?_
          obtain rfl := of_some H
          exact OW.sub key ⟨rfl, rfl, rfl, rfl, trivial⟩
    · clear H
      have H := hu27
      clear hu27
      generalize (y19 && (decide ((p1.length : Int) > 0))) = t26 at H key ⊢
      cases t26
      · have H := of_if_f rfl H
        refine ow_batch [.p, .p, .p] rfl ?_
        obtain rfl := of_some H
        exact OW.sub key ⟨rfl, rfl, rfl, rfl, trivial⟩
      · have H := of_if_t rfl H
        refine ow_batch [.p] rfl ?_
        obtain ⟨y24, h25, H⟩ := of_bind H
        refine ow_q rfl rfl (dstOk_lt rfl) (qy_call rfl fn79 rfl (fun w1 hw1 => impl_ascending_ok w1  h25 (rds_bor g1 w1 hw1))) (fun _ _ => trivial) ?_
        refine ow_batch [.p] rfl ?_
        obtain rfl := of_some H
        exact OW.sub key ⟨rfl, rfl, rfl, rfl, trivial⟩
  · generalize y19 = t22 at key ⊢
    cases t22
    · refine ow_batch [.p, .p, .p, .p] rfl ?_
      exact OW.sub key ⟨rfl, rfl, rfl, rfl, trivial⟩
    · refine ow_batch [.p, .lenS 49 3 sl49, .p] rfl ?_
      refine ow_batch [.p] rfl ?_
      exact OW.sub key ⟨rfl, rfl, rfl, rfl, trivial⟩

set_option maxHeartbeats 4000000 in
set_option maxRecDepth 100000 in
theorem impl_ForkOk_ok (w : World) {p0 : Timpl_Schema} {p1 : Timpl_Fork} {cs0 : List Value} {r : Bool} (H : impl_ForkOk p0 p1 = some r)  (g0 : (eTimpl_Schema).rd w [] p0 cs0) :
    Calls Tryz.prog 58 #[.agg cs0.toArray, .agg #[.int .i64 p1.Attr_, .int .i64 p1.At_]] w (fun en w' => en = .returned (.bool r) ∧ Ext [] w w') := by
  obtain ⟨c10, c11, rfl, g12, g13⟩ := rdo_Timpl_Schema g0
  obtain ⟨a14, c15, rfl⟩ := rd_sl1 g12
  obtain ⟨a16, c17, rfl⟩ := rd_sl1 g13
  unfold impl_ForkOk at H
  refine f_enter (vs := [.agg #[.slice a14 p0.Attrs_.length c15, .slice a16 p0.Classes_.length c17], .agg #[.int .i64 p1.Attr_, .int .i64 p1.At_]]) Tryz.func58 rfl Tryz.ntmps58 rfl (St.init w []) ?_
  refine c_seq ?_
  refine c_reg ?_
  refine ow_box (cs := [.slice a14 p0.Attrs_.length c15, .slice a16 p0.Classes_.length c17]) rfl rfl rfl rfl rfl rfl (fun _ => kp) (fun b18 => ?_)
  refine ow_box (cs := [.int .i64 p1.Attr_, .int .i64 p1.At_]) rfl rfl rfl rfl rfl rfl (fun _ => kp) (fun b19 => ?_)
  refine ow_batch [.p] rfl ?_
  refine ow_nil ?_
  refine x_qs ?_
  refine c_seq ?_
  refine c_seq ?_
  refine c_reg ?_
  refine ow_r rfl (dstOk_lt rfl) (ry_box (off := 0) (ds := [.slice a14 p0.Attrs_.length c15, .slice a16 p0.Classes_.length c17]) rfl rfl ty34 (boxIn (i := 0) rfl) rfl rfl) ?_
  obtain ⟨y20, h21, H⟩ := of_bind H
  refine ow_q rfl rfl (dstOk_lt rfl) (qy_call rfl fn42 rfl (fun w1 hw1 => impl_SchemaOk_ok w1 (cs0 := [.slice a14 p0.Attrs_.length c15, .slice a16 p0.Classes_.length c17]) h21 (rdm_Timpl_Schema (x := p0) (c0 := [.slice a14 p0.Attrs_.length c15]) (c1 := [.slice a16 p0.Classes_.length c17]) (rds_bor g12 w1 hw1) (rds_bor g13 w1 hw1)))) (fun _ _ => trivial) ?_
  refine ow_batch [.p, .p] rfl ?_
  obtain ⟨u22, hu26, H⟩ := of_bind H
  refine ow_cut [(19, .bool u22), (2, .pointer (some ⟨b18, 0, none⟩)), (3, .pointer (some ⟨b19, 0, none⟩))] 9 ?_ (fun key => OW.sub (R := [(2, .pointer (some ⟨b18, 0, none⟩)), (3, .pointer (some ⟨b19, 0, none⟩)), (10, .bool (!y20))]) ?_ ⟨rfl, rfl, rfl, trivial⟩)
  · refine ow_nil ?_
    refine x_qs ?_
    refine c_if rfl (fun hb => ?_) (fun hb => ?_)
    · have H := of_if_t hb H
      refine c_seq ?_
      refine c_reg ?_
      refine ow_batch [.p] rfl ?_
      refine ow_nil ?_
      refine x_qs ?_
      refine c_ret ?_
      refine x_qs_ret ?_
      exact x_retR (rs := [.tmp 4]) (vs := [.bool false]) rfl ⟨rfl, trivial⟩ (fun w' hw' => by
          obtain rfl := of_some H
          exact ⟨rfl, hw'.ext⟩)
    · have H := of_if_f hb H
      refine c_skip ?_
      refine x_qs ?_
      refine c_seq ?_
      refine c_reg ?_
      refine ow_batch [.fa 34 0 0 fa34_0] rfl ?_
      refine ow_r rfl (dstOk_lt rfl) (ry_box1 (off := 0) rfl rfl ty32 (boxIn (i := 0) rfl) rfl) ?_
      refine ow_batch [.fa 48 0 0 fa48_0] rfl ?_
      refine ow_r rfl (dstOk_lt rfl) (ry_box1 (off := 0) rfl rfl ty3 (boxIn (i := 1) rfl) rfl) ?_
      obtain ⟨e27, h28, H⟩ := of_bind H
      refine ow_ixB rfl rfl rfl rfl rfl sl32 ty83 rfl g12 h28 (fun q31 c32 hd29 hA30 => ?_)
      obtain ⟨c33, c34, c35, rfl, g36, g37, g38⟩ := rdo_Timpl_Attr hd29
      obtain rfl : c33 = [vS e27.Name_] := g36
      obtain ⟨a39, c40, rfl⟩ := rd_sl1 g37
      obtain ⟨a41, c42, rfl⟩ := rd_sl1 g38
      refine ow_r rfl (dstOk_lt rfl) (ry_load (cs := [vS e27.Name_, .slice a39 e27.Cuts_.length c40, .slice a41 e27.Values_.length c42]) rfl rfl ty83 (at_bor bor hA30) rfl) ?_
      refine ow_alloc rfl rfl rfl rfl ty83 (fun _ => kp) (fun b43 => ?_)
      refine ow_storeC (off := 0) [vS e27.Name_, .slice a39 e27.Cuts_.length c40, .slice a41 e27.Values_.length c42] [_, _, _] (i := 2) rfl rfl rfl rfl rfl rfl ty83 rfl rfl (by intro u hu; simp only [List.mem_cons, List.not_mem_nil, or_false] at hu; rcases hu with rfl | rfl | rfl <;> rfl) rfl rfl rfl kp ?_
      refine ow_nil ?_
      refine x_qs ?_
      refine c_seq ?_
      refine c_reg ?_
      refine ow_r rfl (dstOk_lt rfl) (ry_box (off := 0) (ds := [vS e27.Name_, .slice a39 e27.Cuts_.length c40, .slice a41 e27.Values_.length c42]) rfl rfl ty83 (boxIn (i := 2) rfl) rfl rfl) ?_
      obtain ⟨y44, h45, H⟩ := of_bind H
      refine ow_q rfl rfl (dstOk_lt rfl) (qy_call rfl fn90 rfl (fun w1 hw1 => impl_bins_ok w1 (cs0 := [vS e27.Name_, .slice a39 e27.Cuts_.length c40, .slice a41 e27.Values_.length c42]) h45 (rdm_Timpl_Attr (x := e27) (c0 := [vS e27.Name_]) (c1 := [.slice a39 e27.Cuts_.length c40]) (c2 := [.slice a41 e27.Values_.length c42]) rfl (rds_bor g37 w1 hw1) (rds_bor g38 w1 hw1)))) (fun _ _ => trivial) ?_
      refine ow_batch [.p, .p] rfl ?_
      refine ow_nil ?_
      refine x_qs ?_
      refine c_seq ?_
      refine c_seq ?_
      refine c_reg ?_
      refine ow_batch [.fa 83 1 1 fa83_1] rfl ?_
      refine ow_r rfl (dstOk_lt rfl) (ry_box1 (off := 1) rfl rfl ty49 (boxIn (i := 2) rfl) rfl) ?_
      refine ow_batch [.lenS 49 3 sl49, .p] rfl ?_
      refine ow_nil ?_
      refine x_qs ?_
      refine c_if rfl (fun hb => ?_) (fun hb => ?_)
      · have H := of_if_t hb H
        refine c_reg ?_
        refine ow_batch [.p, .p, .p] rfl ?_
        refine ow_nil ?_
        refine x_qs ?_
        refine c_seq ?_
        refine c_reg ?_
        refine ow_batch [.fa 48 1 1 fa48_1] rfl ?_
        refine ow_r rfl (dstOk_lt rfl) (ry_box1 (off := 1) rfl rfl ty3 (boxIn (i := 1) rfl) rfl) ?_
        refine ow_batch [.p] rfl ?_
        obtain ⟨y46, h47, H⟩ := of_bind H
        refine ow_q rfl rfl (dstOk_lt rfl) (qy_call rfl fn43 rfl (fun w1 hw1 => impl_within_ok w1  h47)) (fun _ _ => trivial) ?_
        refine ow_batch [.p] rfl ?_
        refine ow_nil ?_
        refine x_qs ?_
        refine c_ret ?_
        exact x_retR (rs := [.tmp 4]) (vs := [.bool y46]) rfl ⟨rfl, trivial⟩ (fun w' hw' => by
            obtain rfl := of_some H
            exact ⟨rfl, hw'.ext⟩)
      · have H := of_if_f hb H
        refine c_skip ?_
        refine x_qs ?_
        refine c_seq ?_
        refine c_reg ?_
        refine ow_batch [.fa 48 1 1 fa48_1] rfl ?_
        refine ow_r rfl (dstOk_lt rfl) (ry_box1 (off := 1) rfl rfl ty3 (boxIn (i := 1) rfl) rfl) ?_
        refine ow_batch [.p] rfl ?_
        obtain ⟨y48, h49, H⟩ := of_bind H
        refine ow_q rfl rfl (dstOk_lt rfl) (qy_call rfl fn43 rfl (fun w1 hw1 => impl_within_ok w1  h49)) (fun _ _ => trivial) ?_
        refine ow_batch [.p] rfl ?_
        refine ow_nil ?_
        refine x_qs ?_
        refine c_ret ?_
        exact x_retR (rs := [.tmp 4]) (vs := [.bool y48]) rfl ⟨rfl, trivial⟩ (fun w' hw' => by
            obtain rfl := of_some H
            exact ⟨rfl, hw'.ext⟩)
  · clear H
    have H := hu26
    clear hu26
    generalize (!y20) = t25 at H key ⊢
    cases t25
    · have H := of_if_f rfl H
      refine ow_batch [.fa 48 0 0 fa48_0] rfl ?_
      refine ow_r rfl (dstOk_lt rfl) (ry_box1 (off := 0) rfl rfl ty3 (boxIn (i := 1) rfl) rfl) ?_
      refine ow_batch [.fa 34 0 0 fa34_0] rfl ?_
      refine ow_r rfl (dstOk_lt rfl) (ry_box1 (off := 0) rfl rfl ty32 (boxIn (i := 0) rfl) rfl) ?_
      refine ow_batch [.lenS 32 83 sl32, .p] rfl ?_
      obtain ⟨y23, h24, H⟩ := of_bind H
      refine ow_q rfl rfl (dstOk_lt rfl) (qy_call rfl fn43 rfl (fun w1 hw1 => impl_within_ok w1  h24)) (fun _ _ => trivial) ?_
      refine ow_batch [.p] rfl ?_
      refine ow_batch [.p] rfl ?_
      obtain rfl := of_some H
      exact OW.sub key ⟨rfl, rfl, rfl, trivial⟩
    · have H := of_if_t rfl H
      refine ow_batch [.p, .p, .p, .p, .p, .p, .p, .p, .p] rfl ?_
      obtain rfl := of_some H
      exact OW.sub key ⟨rfl, rfl, rfl, trivial⟩

set_option maxHeartbeats 4000000 in
set_option maxRecDepth 100000 in
theorem impl_Branches_ok (w : World) {p0 : Timpl_Schema} {p1 : Timpl_Fork} {cs0 : List Value} {r : Int} (H : impl_Branches p0 p1 = some r)  (g0 : (eTimpl_Schema).rd w [] p0 cs0) :
    Calls Tryz.prog 78 #[.agg cs0.toArray, .agg #[.int .i64 p1.Attr_, .int .i64 p1.At_]] w (fun en w' => en = .returned (.int .i64 r) ∧ Ext [] w w') := by
  obtain ⟨c10, c11, rfl, g12, g13⟩ := rdo_Timpl_Schema g0
  obtain ⟨a14, c15, rfl⟩ := rd_sl1 g12
  obtain ⟨a16, c17, rfl⟩ := rd_sl1 g13
  unfold impl_Branches at H
  refine f_enter (vs := [.agg #[.slice a14 p0.Attrs_.length c15, .slice a16 p0.Classes_.length c17], .agg #[.int .i64 p1.Attr_, .int .i64 p1.At_]]) Tryz.func78 rfl Tryz.ntmps78 rfl (St.init w []) ?_
  refine c_seq ?_
  refine c_reg ?_
  refine ow_box (cs := [.slice a14 p0.Attrs_.length c15, .slice a16 p0.Classes_.length c17]) rfl rfl rfl rfl rfl rfl (fun _ => kp) (fun b18 => ?_)
  refine ow_box (cs := [.int .i64 p1.Attr_, .int .i64 p1.At_]) rfl rfl rfl rfl rfl rfl (fun _ => kp) (fun b19 => ?_)
  refine ow_batch [.p] rfl ?_
  refine ow_nil ?_
  refine x_qs ?_
  refine c_seq ?_
  refine c_block ?_
  refine c_seq ?_
  refine c_reg ?_
  refine ow_r rfl (dstOk_lt rfl) (ry_box (off := 0) (ds := [.slice a14 p0.Attrs_.length c15, .slice a16 p0.Classes_.length c17]) rfl rfl ty34 (boxIn (i := 0) rfl) rfl rfl) ?_
  refine ow_r rfl (dstOk_lt rfl) (ry_box (off := 0) (ds := [.int .i64 p1.Attr_, .int .i64 p1.At_]) rfl rfl ty48 (boxIn (i := 1) rfl) rfl rfl) ?_
  obtain ⟨y20, h21, H⟩ := of_bind H
  refine ow_q rfl rfl (dstOk_lt rfl) (qy_call rfl fn58 rfl (fun w1 hw1 => impl_ForkOk_ok w1 (p1 := p1) (cs0 := [.slice a14 p0.Attrs_.length c15, .slice a16 p0.Classes_.length c17]) h21 (rdm_Timpl_Schema (x := p0) (c0 := [.slice a14 p0.Attrs_.length c15]) (c1 := [.slice a16 p0.Classes_.length c17]) (rds_bor g12 w1 hw1) (rds_bor g13 w1 hw1)))) (fun _ _ => trivial) ?_
  refine ow_batch [.p, .p] rfl ?_
  refine ow_nil ?_
  refine x_qs ?_
  refine c_if rfl (fun hb => ?_) (fun hb => ?_)
  · have H := of_if_t hb H
    refine c_seq ?_
    refine c_reg ?_
    refine ow_batch [.p] rfl ?_
    refine ow_nil ?_
    refine x_qs ?_
    refine c_ret ?_
    refine x_qb_ret ?_
    refine x_qs_ret ?_
    exact x_retR (rs := [.tmp 4]) (vs := [.int .i64 0]) rfl ⟨rfl, trivial⟩ (fun w' hw' => by
        obtain rfl := of_some H
        exact ⟨rfl, hw'.ext⟩)
  · have H := of_if_f hb H
    refine c_seq ?_
    refine c_reg ?_
    refine ow_batch [.fa 48 1 1 fa48_1] rfl ?_
    refine ow_r rfl (dstOk_lt rfl) (ry_box1 (off := 1) rfl rfl ty3 (boxIn (i := 1) rfl) rfl) ?_
    refine ow_batch [.p, .p] rfl ?_
    refine ow_nil ?_
    refine x_qs ?_
    refine c_if rfl (fun hb => ?_) (fun hb => ?_)
    · have H := of_if_t hb H
      refine c_seq ?_
      refine c_reg ?_
      refine ow_batch [.fa 34 0 0 fa34_0] rfl ?_
      refine ow_r rfl (dstOk_lt rfl) (ry_box1 (off := 0) rfl rfl ty32 (boxIn (i := 0) rfl) rfl) ?_
      refine ow_batch [.fa 48 0 0 fa48_0] rfl ?_
      refine ow_r rfl (dstOk_lt rfl) (ry_box1 (off := 0) rfl rfl ty3 (boxIn (i := 1) rfl) rfl) ?_
      obtain ⟨e22, h23, H⟩ := of_bind H
      refine ow_ixB rfl rfl rfl rfl rfl sl32 ty83 rfl g12 h23 (fun q26 c27 hd24 hA25 => ?_)
      obtain ⟨c28, c29, c30, rfl, g31, g32, g33⟩ := rdo_Timpl_Attr hd24
      obtain rfl : c28 = [vS e22.Name_] := g31
      obtain ⟨a34, c35, rfl⟩ := rd_sl1 g32
      obtain ⟨a36, c37, rfl⟩ := rd_sl1 g33
      refine ow_r rfl (dstOk_lt rfl) (ry_load (cs := [vS e22.Name_, .slice a34 e22.Cuts_.length c35, .slice a36 e22.Values_.length c37]) rfl rfl ty83 (at_bor bor hA25) rfl) ?_
      obtain ⟨y38, h39, H⟩ := of_bind H
      refine ow_q rfl rfl (dstOk_lt rfl) (qy_call rfl fn90 rfl (fun w1 hw1 => impl_bins_ok w1 (cs0 := [vS e22.Name_, .slice a34 e22.Cuts_.length c35, .slice a36 e22.Values_.length c37]) h39 (rdm_Timpl_Attr (x := e22) (c0 := [vS e22.Name_]) (c1 := [.slice a34 e22.Cuts_.length c35]) (c2 := [.slice a36 e22.Values_.length c37]) rfl (rds_bor g32 w1 hw1) (rds_bor g33 w1 hw1)))) (fun _ _ => trivial) ?_
      refine ow_batch [.p] rfl ?_
      refine ow_nil ?_
      refine x_qs ?_
      refine c_ret ?_
      refine x_qb_ret ?_
      refine x_qs_ret ?_
      exact x_retR (rs := [.tmp 4]) (vs := [.int .i64 y38]) rfl ⟨rfl, trivial⟩ (fun w' hw' => by
          obtain rfl := of_some H
          exact ⟨rfl, hw'.ext⟩)
    · have H := of_if_f hb H
      refine c_skip ?_
      refine x_qb ?_
      refine x_qs ?_
      refine c_seq ?_
      refine c_reg ?_
      refine ow_batch [.p] rfl ?_
      refine ow_nil ?_
      refine x_qs ?_
      refine c_ret ?_
      exact x_retR (rs := [.tmp 4]) (vs := [.int .i64 2]) rfl ⟨rfl, trivial⟩ (fun w' hw' => by
          obtain rfl := of_some H
          exact ⟨rfl, hw'.ext⟩)

set_option maxHeartbeats 4000000 in
set_option maxRecDepth 100000 in
theorem impl_nodeOk_1_ok (w : World) {p0 : Int} {p1 : Int} {p2 : Timpl_Tree} {q_1 : Addr} {cs_1 : List Value} {q_2 : Addr} {cs_2 : List Value} {r : Bool} (H : impl_nodeOk_1 p0 p1 p2 = some r)  (g_1 : (eVal (Value.int .i64) (fun _ => rfl)).rd w [] p1 cs_1) (hA_1 : At w [] q_1 cs_1) (g_2 : (eTimpl_Tree).rd w [] p2 cs_2) (hA_2 : At w [] q_2 cs_2) :
    Calls Tryz.prog 81 #[.int .i64 p0, .pointer (some q_1), .pointer (some q_2)] w (fun en w' => en = .returned (.bool r) ∧ Ext [] w w') := by
  obtain rfl : cs_1 = [.int .i64 p1] := g_1
  obtain ⟨c10, c11, rfl, g12, g13⟩ := rdo_Timpl_Tree g_2
  obtain ⟨a14, c15, rfl⟩ := rd_sl1 g12
  obtain rfl : c11 = [.int .i64 p2.Seen_] := g13
  unfold impl_nodeOk_1 at H
  refine f_enter (vs := [.int .i64 p0, .pointer (some q_1), .pointer (some q_2)]) Tryz.func81 rfl Tryz.ntmps81 rfl (St.init w []) ?_
  refine c_seq ?_
  refine c_reg ?_
  refine ow_batch [.p] rfl ?_
  refine ow_nil ?_
  refine x_qs ?_
  refine c_seq ?_
  refine c_regQ mixed (by kernel_rfl) ?_
  refine ow_batch [.p] rfl ?_
  refine ow_r rfl (dstOk_lt rfl) (ry_load1 rfl rfl ty3 (at_bor bor hA_1)) ?_
  refine ow_batch [.p, .fa 38 0 0 fa38_0] rfl ?_
  refine ow_r rfl (dstOk_lt rfl) (ry_load1 rfl rfl ty36 (at_bor bor (at_K hA_2 0 1))) ?_
  refine ow_batch [.lenS 36 54 sl36, .p] rfl ?_
  obtain ⟨y16, h17, H⟩ := of_bind H
  refine ow_q rfl rfl (dstOk_lt rfl) (qy_call rfl fn43 rfl (fun w1 hw1 => impl_within_ok w1  h17)) (fun _ _ => trivial) ?_
  refine ow_batch [.p, .p] rfl ?_
  obtain ⟨u18, hu58, H⟩ := of_bind H
  refine ow_cut [(23, .bool u18), (4, .bool false)] 9 ?_ (fun key => OW.sub (R := [(0, .int .i64 p0), (1, .pointer (some q_1)), (2, .pointer (some q_2)), (4, .bool false), (14, .bool (!y16))]) ?_ ⟨rfl, rfl, rfl, rfl, rfl, trivial⟩)
  · refine ow_batch [.p] rfl ?_
    refine ow_nilQ ?_
    refine x_qs ?_
    refine c_ret ?_
    exact x_retR (rs := [.tmp 4]) (vs := [.bool u18]) rfl ⟨rfl, trivial⟩ (fun w' hw' => by
        obtain rfl := of_some H
        exact ⟨rfl, hw'.ext⟩)
  · clear H
    have H := hu58
    clear hu58
    generalize (!y16) = t57 at H key ⊢
    cases t57
    · have H := of_if_f rfl H
      refine ow_batch [.fa 38 0 0 fa38_0] rfl ?_
      refine ow_r rfl (dstOk_lt rfl) (ry_load1 rfl rfl ty36 (at_bor bor (at_K hA_2 0 1))) ?_
      refine ow_batch [.p] rfl ?_
      obtain ⟨e19, h20, H⟩ := of_bind H
      refine ow_ixB rfl rfl rfl rfl rfl sl36 ty54 rfl g12 h20 (fun q23 c24 hd21 hA22 => ?_)
      obtain ⟨c25, c26, c27, c28, c29, c30, c31, c32, c33, c34, rfl, g35, g36, g37, g38, g39, g40, g41, g42, g43, g44⟩ := rdo_Timpl_Node hd21
      obtain rfl : c25 = [.bool e19.Leaf_] := g35
      obtain rfl : c26 = [.int .i64 e19.Fork_.Attr_, .int .i64 e19.Fork_.At_] := g36
      obtain ⟨a45, c46, rfl⟩ := rd_sl1 g37
      obtain rfl : c28 = [.int .i64 e19.Miss_] := g38
      obtain ⟨c47, c48, rfl, g49, g50⟩ := rdo_Timpl_Stats g39
      obtain ⟨a51, c52, rfl⟩ := rd_sl1 g49
      obtain ⟨a53, c54, rfl⟩ := rd_sl1 g50
      obtain rfl : c30 = [.int .i64 e19.Since_] := g40
      obtain ⟨a55, c56, rfl⟩ := rd_sl1 g41
      obtain rfl : c32 = [.int .i64 e19.Depth_] := g42
      obtain rfl : c33 = [.int .i64 e19.Up_] := g43
      obtain rfl : c34 = [.int .i64 e19.Born_] := g44
      refine ow_batch [.fa 54 8 10 fa54_8] rfl ?_
      refine ow_r rfl (dstOk_lt rfl) (ry_load1 rfl rfl ty3 (at_bor bor (at_K hA22 10 1))) ?_
      refine ow_r rfl (dstOk_lt rfl) (ry_load1 rfl rfl ty3 (at_bor bor hA_1)) ?_
      refine ow_batch [.p] rfl ?_
      refine ow_batch [.p] rfl ?_
      obtain rfl := of_some H
      exact OW.sub key ⟨rfl, rfl, trivial⟩
    · have H := of_if_t rfl H
      refine ow_batch [.p, .p, .p, .p, .p, .p, .p, .p, .p] rfl ?_
      obtain rfl := of_some H
      exact OW.sub key ⟨rfl, rfl, trivial⟩

set_option maxHeartbeats 4000000 in
set_option maxRecDepth 100000 in
theorem lib_slices_IndexFunc___int_int___impl_nodeOk_1_ok (w : World) {p0 : List Int} {p1_0 : Int} {p1_1 : Timpl_Tree} {a_0 : Option Addr} {n_0 c_0 : Nat} {q_1_0 : Addr} {cs_1_0 : List Value} {q_1_1 : Addr} {cs_1_1 : List Value} {r : Int} (H : lib_slices_IndexFunc___int_int___impl_nodeOk_1 p0 p1_0 p1_1 = some r)  (g0 : (eList (eVal (Value.int .i64) (fun _ => rfl)) 3).rd w [] p0 [.slice a_0 n_0 c_0]) (g_1_0 : (eVal (Value.int .i64) (fun _ => rfl)).rd w [] p1_0 cs_1_0) (hA_1_0 : At w [] q_1_0 cs_1_0) (g_1_1 : (eTimpl_Tree).rd w [] p1_1 cs_1_1) (hA_1_1 : At w [] q_1_1 cs_1_1) :
    Calls Tryz.prog 104 #[.slice a_0 n_0 c_0, .func (.func 81) #[] #[.pointer (some q_1_0), .pointer (some q_1_1)]] w (fun en w' => en = .returned (.int .i64 r) ∧ Ext [] w w') := by
  obtain rfl := rd_n g0
  obtain rfl : cs_1_0 = [.int .i64 p1_0] := g_1_0
  obtain ⟨c10, c11, rfl, g12, g13⟩ := rdo_Timpl_Tree g_1_1
  obtain ⟨a14, c15, rfl⟩ := rd_sl1 g12
  obtain rfl : c11 = [.int .i64 p1_1.Seen_] := g13
  unfold lib_slices_IndexFunc___int_int___impl_nodeOk_1 at H
  refine f_enter (vs := [.slice a_0 p0.length c_0, .func (.func 81) #[] #[.pointer (some q_1_0), .pointer (some q_1_1)]]) Tryz.func104 rfl Tryz.ntmps104 rfl (St.init w []) ?_
  refine c_seq ?_
  refine c_reg ?_
  refine ow_batch [.p] rfl ?_
  refine ow_nil ?_
  refine x_qs ?_
  refine c_seq ?_
  refine c_seq ?_
  refine c_reg ?_
  refine ow_batch [.p, .lenS 49 3 sl49, .p] rfl ?_
  refine ow_nil ?_
  refine x_qs ?_
  refine c_block ?_
  refine CW.at (loopI1 (fun (i21 : Int) => St w [] []) (fun (i21 : Int) => [(0, .slice a_0 p0.length c_0), (1, .func (.func 81) #[] #[.pointer (some q_1_0), .pointer (some q_1_1)]), (7, .int .i64 (p0.length : Int)), (8, .int .i64 i21)]) (fun kk => fun (i21 : Int) => lib_slices_IndexFunc___int_int___impl_nodeOk_1_L1 p0 p1_0 p1_1 kk i21 = some r) (fun _ H => ?_) (fun k1 ihk1 i21 H => ?_) Fuel (0) (H)) (fun _ h => St.sel [] rfl rfl h) ⟨rfl, rfl, rfl, rfl,  trivial⟩
  · unfold lib_slices_IndexFunc___int_int___impl_nodeOk_1_L1 at H
    exact absurd H (by simp)
  · unfold lib_slices_IndexFunc___int_int___impl_nodeOk_1_L1 at H
    refine c_seq ?_
    refine c_reg ?_
    refine ow_batch [.p] rfl ?_
    refine ow_nil ?_
    refine x_qs ?_
    refine c_seq ?_
    refine c_if rfl (fun hb => ?_) (fun hb => ?_)
    · have H := of_if_t hb H
      refine c_skip ?_
      refine x_qs ?_
      refine c_seq ?_
      refine c_block ?_
      refine c_seq ?_
      refine c_reg ?_
      refine ow_batch [.p, .p] rfl ?_
      refine ow_nil ?_
      refine x_qs ?_
      refine c_seq ?_
      refine c_reg ?_
      refine ow_batch [.p, .p, .p] rfl ?_
      obtain ⟨e27, h28, H⟩ := of_bind H
      refine ow_ixE (e := eVal (Value.int .i64) (fun _ => rfl)) (xs := p0) (j := i21) rfl rfl rfl rfl rfl sl49 ty3 rfl (fun w1 hw1 => rds_bor g0 w1 hw1) h28 (by rw [Nat.mul_one]) ?_
      refine ow_r rfl (dstOk_lt rfl) (ry_load1 rfl rfl ty3 (at_elV (fun w1 hw1 => rds_bor g0 w1 hw1) h28)) ?_
      obtain ⟨y29, h30, H⟩ := of_bind H
      refine ow_q rfl rfl (dstOk_lt rfl) (qy_callV (cap := [.pointer (some q_1_0), .pointer (some q_1_1)]) rfl fn81 rfl rfl (fun w1 hw1 => impl_nodeOk_1_ok w1 (cs_1 := [.int .i64 p1_0]) (cs_2 := [.slice a14 p1_1.Nodes_.length c15, .int .i64 p1_1.Seen_]) h30 rfl (at_bor bor hA_1_0 w1 hw1) (rdm_Timpl_Tree (x := p1_1) (c0 := [.slice a14 p1_1.Nodes_.length c15]) (c1 := [.int .i64 p1_1.Seen_]) (rds_bor g12 w1 hw1) rfl) (at_bor bor hA_1_1 w1 hw1))) (fun _ _ => trivial) ?_
      refine ow_nil ?_
      refine x_qs ?_
      refine c_if rfl (fun hb => ?_) (fun hb => ?_)
      · have H := of_if_t hb H
        refine c_seq ?_
        refine c_reg ?_
        refine ow_batch [.p, .p] rfl ?_
        refine ow_nil ?_
        refine x_qs ?_
        refine c_ret ?_
        refine x_qb_ret ?_
        refine x_qs_ret ?_
        refine x_ql_ret ?_
        refine x_qb_ret ?_
        refine x_qs_ret ?_
        exact x_retR (rs := [.tmp 4]) (vs := [.int .i64 i21]) rfl ⟨rfl, trivial⟩ (fun w' hw' => by
            obtain rfl := of_some H
            exact ⟨rfl, hw'.ext⟩)
      · have H := of_if_f hb H
        refine c_skip ?_
        refine x_qb ?_
        refine x_qs ?_
        refine c_reg ?_
        refine ow_batch [.p, .p] rfl ?_
        refine ow_nil ?_
        exact x_ql (RW.at (ihk1 (IntKind.i64.wrap (i21 + 1)) (H)) (fun _ h => St.sel [] rfl rfl h) ⟨rfl, rfl, rfl, rfl, trivial⟩)
    · have H := of_if_f hb H
      refine c_exit ?_
      refine x_qs_exit ?_
      refine x_ql_exit ?_
      refine x_qb_here ?_
      refine x_qs ?_
      refine c_seq ?_
      refine c_reg ?_
      refine ow_batch [.p] rfl ?_
      refine ow_nil ?_
      refine x_qs ?_
      refine c_ret ?_
      exact x_retR (rs := [.tmp 4]) (vs := [.int .i64 (-1)]) rfl ⟨rfl, trivial⟩ (fun w' hw' => by
          obtain rfl := of_some H
          exact ⟨rfl, hw'.ext⟩)

set_option maxHeartbeats 4000000 in
set_option maxRecDepth 100000 in
theorem lib_slices_ContainsFunc___int_int___impl_nodeOk_1_ok (w : World) {p0 : List Int} {p1_0 : Int} {p1_1 : Timpl_Tree} {a_0 : Option Addr} {n_0 c_0 : Nat} {q_1_0 : Addr} {cs_1_0 : List Value} {q_1_1 : Addr} {cs_1_1 : List Value} {r : Bool} (H : lib_slices_ContainsFunc___int_int___impl_nodeOk_1 p0 p1_0 p1_1 = some r)  (g0 : (eList (eVal (Value.int .i64) (fun _ => rfl)) 3).rd w [] p0 [.slice a_0 n_0 c_0]) (g_1_0 : (eVal (Value.int .i64) (fun _ => rfl)).rd w [] p1_0 cs_1_0) (hA_1_0 : At w [] q_1_0 cs_1_0) (g_1_1 : (eTimpl_Tree).rd w [] p1_1 cs_1_1) (hA_1_1 : At w [] q_1_1 cs_1_1) :
    Calls Tryz.prog 80 #[.slice a_0 n_0 c_0, .func (.func 81) #[] #[.pointer (some q_1_0), .pointer (some q_1_1)]] w (fun en w' => en = .returned (.bool r) ∧ Ext [] w w') := by
  obtain rfl := rd_n g0
  obtain rfl : cs_1_0 = [.int .i64 p1_0] := g_1_0
  obtain ⟨c10, c11, rfl, g12, g13⟩ := rdo_Timpl_Tree g_1_1
  obtain ⟨a14, c15, rfl⟩ := rd_sl1 g12
  obtain rfl : c11 = [.int .i64 p1_1.Seen_] := g13
  unfold lib_slices_ContainsFunc___int_int___impl_nodeOk_1 at H
  refine f_enter (vs := [.slice a_0 p0.length c_0, .func (.func 81) #[] #[.pointer (some q_1_0), .pointer (some q_1_1)]]) Tryz.func80 rfl Tryz.ntmps80 rfl (St.init w []) ?_
  refine c_seq ?_
  refine c_reg ?_
  refine ow_batch [.p] rfl ?_
  refine ow_nil ?_
  refine x_qs ?_
  refine c_seq ?_
  refine c_reg ?_
  refine ow_batch [.p, .p] rfl ?_
  obtain ⟨y16, h17, H⟩ := of_bind H
  refine ow_q rfl rfl (dstOk_lt rfl) (qy_call rfl fn104 rfl (fun w1 hw1 => lib_slices_IndexFunc___int_int___impl_nodeOk_1_ok w1 (cs_1_0 := [.int .i64 p1_0]) (cs_1_1 := [.slice a14 p1_1.Nodes_.length c15, .int .i64 p1_1.Seen_]) h17 (rds_bor g0 w1 hw1) rfl (at_bor bor hA_1_0 w1 hw1) (rdm_Timpl_Tree (x := p1_1) (c0 := [.slice a14 p1_1.Nodes_.length c15]) (c1 := [.int .i64 p1_1.Seen_]) (rds_bor g12 w1 hw1) rfl) (at_bor bor hA_1_1 w1 hw1))) (fun _ _ => trivial) ?_
  refine ow_batch [.p, .p] rfl ?_
  refine ow_nil ?_
  refine x_qs ?_
  refine c_ret ?_
  exact x_retR (rs := [.tmp 4]) (vs := [.bool (decide (y16 ≥ 0))]) rfl ⟨rfl, trivial⟩ (fun w' hw' => by
      obtain rfl := of_some H
      exact ⟨rfl, hw'.ext⟩)

set_option maxHeartbeats 4000000 in
set_option maxRecDepth 100000 in
theorem impl_nodeOk_ok (w : World) {p0 : Timpl_Schema} {p1 : Timpl_Tree} {p2 : Int} {cs0 : List Value} {cs1 : List Value} {r : Bool} (H : impl_nodeOk p0 p1 p2 = some r)  (g0 : (eTimpl_Schema).rd w [] p0 cs0) (g1 : (eTimpl_Tree).rd w [] p1 cs1) :
    Calls Tryz.prog 44 #[.agg cs0.toArray, .agg cs1.toArray, .int .i64 p2] w (fun en w' => en = .returned (.bool r) ∧ Ext [] w w') := by
  obtain ⟨c10, c11, rfl, g12, g13⟩ := rdo_Timpl_Schema g0
  obtain ⟨a14, c15, rfl⟩ := rd_sl1 g12
  obtain ⟨a16, c17, rfl⟩ := rd_sl1 g13
  obtain ⟨c18, c19, rfl, g20, g21⟩ := rdo_Timpl_Tree g1
  obtain ⟨a22, c23, rfl⟩ := rd_sl1 g20
  obtain rfl : c19 = [.int .i64 p1.Seen_] := g21
  unfold impl_nodeOk at H
  refine f_enter (vs := [.agg #[.slice a14 p0.Attrs_.length c15, .slice a16 p0.Classes_.length c17], .agg #[.slice a22 p1.Nodes_.length c23, .int .i64 p1.Seen_], .int .i64 p2]) Tryz.func44 rfl Tryz.ntmps44 rfl (St.init w []) ?_
  refine c_seq ?_
  refine c_reg ?_
  refine ow_box (cs := [.slice a14 p0.Attrs_.length c15, .slice a16 p0.Classes_.length c17]) rfl rfl rfl rfl rfl rfl (fun _ => kp) (fun b24 => ?_)
  refine ow_box (cs := [.slice a22 p1.Nodes_.length c23, .int .i64 p1.Seen_]) rfl rfl rfl rfl rfl rfl (fun _ => kp) (fun b25 => ?_)
  refine ow_box (cs := [.int .i64 p2]) rfl rfl rfl rfl rfl rfl (fun _ => kp) (fun b26 => ?_)
  refine ow_batch [.p] rfl ?_
  refine ow_nil ?_
  refine x_qs ?_
  refine c_seq ?_
  refine c_reg ?_
  refine ow_batch [.fa 38 0 0 fa38_0] rfl ?_
  refine ow_r rfl (dstOk_lt rfl) (ry_box1 (off := 0) rfl rfl ty36 (boxIn (i := 1) rfl) rfl) ?_
  refine ow_r rfl (dstOk_lt rfl) (ry_box1 (off := 0) rfl rfl ty3 (boxIn (i := 2) rfl) rfl) ?_
  obtain ⟨e27, h28, H⟩ := of_bind H
  refine ow_ixB rfl rfl rfl rfl rfl sl36 ty54 rfl g20 h28 (fun q31 c32 hd29 hA30 => ?_)
  obtain ⟨c33, c34, c35, c36, c37, c38, c39, c40, c41, c42, rfl, g43, g44, g45, g46, g47, g48, g49, g50, g51, g52⟩ := rdo_Timpl_Node hd29
  obtain rfl : c33 = [.bool e27.Leaf_] := g43
  obtain rfl : c34 = [.int .i64 e27.Fork_.Attr_, .int .i64 e27.Fork_.At_] := g44
  obtain ⟨a53, c54, rfl⟩ := rd_sl1 g45
  obtain rfl : c36 = [.int .i64 e27.Miss_] := g46
  obtain ⟨c55, c56, rfl, g57, g58⟩ := rdo_Timpl_Stats g47
  obtain ⟨a59, c60, rfl⟩ := rd_sl1 g57
  obtain ⟨a61, c62, rfl⟩ := rd_sl1 g58
  obtain rfl : c38 = [.int .i64 e27.Since_] := g48
  obtain ⟨a63, c64, rfl⟩ := rd_sl1 g49
  obtain rfl : c40 = [.int .i64 e27.Depth_] := g50
  obtain rfl : c41 = [.int .i64 e27.Up_] := g51
  obtain rfl : c42 = [.int .i64 e27.Born_] := g52
  refine ow_r rfl (dstOk_lt rfl) (ry_load (cs := [.bool e27.Leaf_, .int .i64 e27.Fork_.Attr_, .int .i64 e27.Fork_.At_, .slice a53 e27.Kids_.length c54, .int .i64 e27.Miss_, .slice a59 e27.Stats_.Totals_.length c60, .slice a61 e27.Stats_.Cells_.length c62, .int .i64 e27.Since_, .slice a63 e27.Attrs_.length c64, .int .i64 e27.Depth_, .int .i64 e27.Up_, .int .i64 e27.Born_]) rfl rfl ty54 (at_bor bor hA30) rfl) ?_
  refine ow_alloc rfl rfl rfl rfl ty54 (fun _ => kp) (fun b65 => ?_)
  refine ow_storeC (off := 0) [.bool e27.Leaf_, .int .i64 e27.Fork_.Attr_, .int .i64 e27.Fork_.At_, .slice a53 e27.Kids_.length c54, .int .i64 e27.Miss_, .slice a59 e27.Stats_.Totals_.length c60, .slice a61 e27.Stats_.Cells_.length c62, .int .i64 e27.Since_, .slice a63 e27.Attrs_.length c64, .int .i64 e27.Depth_, .int .i64 e27.Up_, .int .i64 e27.Born_] [_, _, _, _, _, _, _, _, _, _, _, _] (i := 3) rfl rfl rfl rfl rfl rfl ty54 rfl rfl (by intro u hu; simp only [List.mem_cons, List.not_mem_nil, or_false] at hu; rcases hu with rfl | rfl | rfl | rfl | rfl | rfl | rfl | rfl | rfl | rfl | rfl | rfl <;> rfl) rfl rfl rfl kp ?_
  refine ow_nil ?_
  refine x_qs ?_
  refine c_seq ?_
  refine c_seq ?_
  refine c_reg ?_
  refine ow_batch [.fa 54 7 9 fa54_7] rfl ?_
  refine ow_r rfl (dstOk_lt rfl) (ry_box1 (off := 9) rfl rfl ty3 (boxIn (i := 3) rfl) rfl) ?_
  obtain ⟨y66, h67, H⟩ := of_bind H
  refine ow_q rfl rfl (dstOk_lt rfl) (qy_call rfl fn43 rfl (fun w1 hw1 => impl_within_ok w1  h67)) (fun _ _ => trivial) ?_
  refine ow_batch [.p, .p] rfl ?_
  obtain ⟨u68, hu72, H⟩ := of_bind H
  refine ow_cut [(26, .bool u68), (3, .pointer (some ⟨b24, 0, none⟩)), (4, .pointer (some ⟨b25, 0, none⟩)), (5, .pointer (some ⟨b26, 0, none⟩)), (7, .pointer (some ⟨b65, 0, none⟩))] 7 ?_ (fun key => OW.sub (R := [(3, .pointer (some ⟨b24, 0, none⟩)), (4, .pointer (some ⟨b25, 0, none⟩)), (5, .pointer (some ⟨b26, 0, none⟩)), (7, .pointer (some ⟨b65, 0, none⟩)), (19, .bool (!y66))]) ?_ ⟨rfl, rfl, rfl, rfl, rfl, trivial⟩)
  · refine ow_batch [.p] rfl ?_
    obtain ⟨u73, hu77, H⟩ := of_bind H
    refine ow_cut [(33, .bool u73), (3, .pointer (some ⟨b24, 0, none⟩)), (4, .pointer (some ⟨b25, 0, none⟩)), (5, .pointer (some ⟨b26, 0, none⟩)), (7, .pointer (some ⟨b65, 0, none⟩))] 6 ?_ (fun key => OW.sub (R := [(3, .pointer (some ⟨b24, 0, none⟩)), (4, .pointer (some ⟨b25, 0, none⟩)), (5, .pointer (some ⟨b26, 0, none⟩)), (7, .pointer (some ⟨b65, 0, none⟩)), (27, .bool u68)]) ?_ ⟨rfl, rfl, rfl, rfl, rfl, trivial⟩)
    · refine ow_batch [.p] rfl ?_
      obtain ⟨u78, hu82, H⟩ := of_bind H
      refine ow_cut [(40, .bool u78), (3, .pointer (some ⟨b24, 0, none⟩)), (4, .pointer (some ⟨b25, 0, none⟩)), (5, .pointer (some ⟨b26, 0, none⟩)), (7, .pointer (some ⟨b65, 0, none⟩))] 6 ?_ (fun key => OW.sub (R := [(3, .pointer (some ⟨b24, 0, none⟩)), (4, .pointer (some ⟨b25, 0, none⟩)), (5, .pointer (some ⟨b26, 0, none⟩)), (7, .pointer (some ⟨b65, 0, none⟩)), (34, .bool u73)]) ?_ ⟨rfl, rfl, rfl, rfl, rfl, trivial⟩)
      · refine ow_nil ?_
        refine x_qs ?_
        refine c_if rfl (fun hb => ?_) (fun hb => ?_)
        · have H := of_if_t hb H
          refine c_seq ?_
          refine c_reg ?_
          refine ow_batch [.p] rfl ?_
          refine ow_nil ?_
          refine x_qs ?_
          refine c_ret ?_
          refine x_qs_ret ?_
          exact x_retR (rs := [.tmp 6]) (vs := [.bool false]) rfl ⟨rfl, trivial⟩ (fun w' hw' => by
              obtain rfl := of_some H
              exact ⟨rfl, hw'.ext⟩)
        · have H := of_if_f hb H
          refine c_skip ?_
          refine x_qs ?_
          refine c_seq ?_
          refine c_seq ?_
          refine c_reg ?_
          refine ow_batch [.fa 54 0 0 fa54_0] rfl ?_
          refine ow_r rfl (dstOk_lt rfl) (ry_box1 (off := 0) rfl rfl ty4 (boxIn (i := 3) rfl) rfl) ?_
          refine ow_nil ?_
          refine x_qs ?_
          refine c_if rfl (fun hb => ?_) (fun hb => ?_)
          · have H := of_if_t hb H
            refine c_seq ?_
            refine c_reg ?_
            refine ow_batch [.fa 54 4 5 fa54_4, .fa 52 0 0 fa52_0] rfl ?_
            refine ow_r rfl (dstOk_lt rfl) (ry_box1 (off := 5) rfl rfl ty49 (boxIn (i := 3) rfl) rfl) ?_
            obtain ⟨y83, h84, H⟩ := of_bind H
            refine ow_q rfl rfl (dstOk_lt rfl) (qy_call rfl fn77 rfl (fun w1 hw1 => impl_total_ok w1  h84 (rds_bor g57 w1 hw1))) (fun _ _ => trivial) ?_
            refine ow_batch [.p] rfl ?_
            refine ow_nil ?_
            refine x_qs ?_
            refine c_join1 (fun (i85 : Int) => St w [] [Res.box b65 54 [.bool e27.Leaf_, .int .i64 e27.Fork_.Attr_, .int .i64 e27.Fork_.At_, .slice a53 e27.Kids_.length c54, .int .i64 e27.Miss_, .slice a59 e27.Stats_.Totals_.length c60, .slice a61 e27.Stats_.Cells_.length c62, .int .i64 e27.Since_, .slice a63 e27.Attrs_.length c64, .int .i64 e27.Depth_, .int .i64 e27.Up_, .int .i64 e27.Born_]]) (fun (i85 : Int) => [(7, .pointer (some ⟨b65, 0, none⟩)), (8, .int .i64 i85)]) (fun (i85 : Int) => impl_nodeOk_J1 e27 i85 = some r) (fun i85 H => ?_) (fun J1 => ?_)
            · unfold impl_nodeOk_J1 at H
              refine c_seq ?_
              refine c_reg ?_
              refine ow_batch [.fa 54 1 1 fa54_1] rfl ?_
              refine ow_r rfl (dstOk_lt rfl) (ry_box (off := 1) (ds := [.int .i64 e27.Fork_.Attr_, .int .i64 e27.Fork_.At_]) rfl rfl ty48 (boxIn (i := 0) rfl) rfl rfl) ?_
              refine ow_r rfl (dstOk_lt rfl) (ry_build2 [] [.int .i64 0, .int .i64 0] rfl rfl ty48 fs48 rfl trivial rfl) ?_
              refine ow_r rfl (dstOk_lt rfl) (ry_seql (xs := [.int .i64 e27.Fork_.Attr_, .int .i64 e27.Fork_.At_]) (ys := [.int .i64 0, .int .i64 0]) rfl rfl rfl (se48 e27.Fork_.Attr_ 0 e27.Fork_.At_ 0)) ?_
              refine ow_batch [.p] rfl ?_
              refine ow_cut [(61, .bool ((e27.Fork_.Attr_ == 0 && (e27.Fork_.At_ == 0 && true)) && ((e27.Kids_.length : Int) == 0))), (7, .pointer (some ⟨b65, 0, none⟩)), (8, .int .i64 i85)] 5 ?_ (fun key => OW.sub (R := [(7, .pointer (some ⟨b65, 0, none⟩)), (8, .int .i64 i85), (56, .bool (e27.Fork_.Attr_ == 0 && (e27.Fork_.At_ == 0 && true)))]) ?_ ⟨rfl, rfl, rfl, trivial⟩)
              · refine ow_batch [.p] rfl ?_
                refine ow_cut [(66, .bool (((e27.Fork_.Attr_ == 0 && (e27.Fork_.At_ == 0 && true)) && ((e27.Kids_.length : Int) == 0)) && (e27.Miss_ == 0))), (7, .pointer (some ⟨b65, 0, none⟩)), (8, .int .i64 i85)] 4 ?_ (fun key => OW.sub (R := [(7, .pointer (some ⟨b65, 0, none⟩)), (8, .int .i64 i85), (62, .bool ((e27.Fork_.Attr_ == 0 && (e27.Fork_.At_ == 0 && true)) && ((e27.Kids_.length : Int) == 0)))]) ?_ ⟨rfl, rfl, rfl, trivial⟩)
                · refine ow_batch [.p] rfl ?_
                  obtain ⟨u90, hu94, H⟩ := of_bind H
                  refine ow_cut [(72, .bool u90)] 5 ?_ (fun key => OW.sub (R := [(7, .pointer (some ⟨b65, 0, none⟩)), (8, .int .i64 i85), (67, .bool (((e27.Fork_.Attr_ == 0 && (e27.Fork_.At_ == 0 && true)) && ((e27.Kids_.length : Int) == 0)) && (e27.Miss_ == 0)))]) ?_ ⟨rfl, rfl, rfl, trivial⟩)
                  · refine ow_batch [.p] rfl ?_
                    refine ow_nil ?_
                    refine x_qs ?_
                    refine c_ret ?_
                    refine x_qs_ret ?_
                    exact x_retR (rs := [.tmp 6]) (vs := [.bool u90]) rfl ⟨rfl, trivial⟩ (fun w' hw' => by
                        obtain rfl := of_some H
                        exact ⟨rfl, hw'.ext⟩)
                  · clear H
                    have H := hu94
                    clear hu94
                    generalize (((e27.Fork_.Attr_ == 0 && (e27.Fork_.At_ == 0 && true)) && ((e27.Kids_.length : Int) == 0)) && (e27.Miss_ == 0)) = t93 at H key ⊢
                    cases t93
                    · have H := of_if_f rfl H
                      refine ow_batch [.p, .p, .p, .p, .p] rfl ?_
                      obtain rfl := of_some H
                      exact OW.sub key ⟨rfl, trivial⟩
                    · have H := of_if_t rfl H
                      refine ow_batch [.fa 54 5 7 fa54_5] rfl ?_
                      refine ow_r rfl (dstOk_lt rfl) (ry_box1 (off := 7) rfl rfl ty3 (boxIn (i := 0) rfl) rfl) ?_
                      refine ow_batch [.p] rfl ?_
                      obtain ⟨y91, h92, H⟩ := of_bind H
                      refine ow_q rfl rfl (dstOk_lt rfl) (qy_call rfl fn43 rfl (fun w1 hw1 => impl_within_ok w1  h92)) (fun _ _ => trivial) ?_
                      refine ow_batch [.p] rfl ?_
                      obtain rfl := of_some H
                      exact OW.sub key ⟨rfl, trivial⟩
                · generalize ((e27.Fork_.Attr_ == 0 && (e27.Fork_.At_ == 0 && true)) && ((e27.Kids_.length : Int) == 0)) = t89 at key ⊢
                  cases t89
                  · refine ow_batch [.p, .p, .p, .p] rfl ?_
                    exact OW.sub key ⟨rfl, rfl, rfl, trivial⟩
                  · refine ow_batch [.fa 54 3 4 fa54_3] rfl ?_
                    refine ow_r rfl (dstOk_lt rfl) (ry_box1 (off := 4) rfl rfl ty3 (boxIn (i := 0) rfl) rfl) ?_
                    refine ow_batch [.p] rfl ?_
                    refine ow_batch [.p] rfl ?_
                    exact OW.sub key ⟨rfl, rfl, rfl, trivial⟩
              · generalize (e27.Fork_.Attr_ == 0 && (e27.Fork_.At_ == 0 && true)) = t87 at key ⊢
                cases t87
                · refine ow_batch [.p, .p, .p, .p, .p] rfl ?_
                  exact OW.sub key ⟨rfl, rfl, rfl, trivial⟩
                · refine ow_batch [.fa 54 2 3 fa54_2] rfl ?_
                  refine ow_r rfl (dstOk_lt rfl) (ry_box1 (off := 3) rfl rfl ty49 (boxIn (i := 0) rfl) rfl) ?_
                  refine ow_batch [.lenS 49 3 sl49, .p] rfl ?_
                  refine ow_batch [.p] rfl ?_
                  exact OW.sub key ⟨rfl, rfl, rfl, trivial⟩
            · refine c_seq ?_
              refine c_reg ?_
              refine ow_batch [.fa 54 4 5 fa54_4, .fa 52 1 1 fa52_1] rfl ?_
              refine ow_r rfl (dstOk_lt rfl) (ry_box1 (off := 6) rfl rfl ty50 (boxIn (i := 3) rfl) rfl) ?_
              refine ow_batch [.lenS 50 49 sl50, .p] rfl ?_
              refine ow_nil ?_
              refine x_qs ?_
              refine c_if rfl (fun hb => ?_) (fun hb => ?_)
              · have H := of_if_t hb H
                refine c_reg ?_
                refine ow_batch [.p] rfl ?_
                refine ow_nil ?_
                exact XW.at (J1 (0) (H)) (fun _ h => St.sel [3] rfl rfl h) ⟨rfl, rfl, trivial⟩
              · have H := of_if_f hb H
                refine c_skip ?_
                exact XW.at (J1 (y83) (H)) (fun _ h => St.sel [3] rfl rfl h) ⟨rfl, rfl, trivial⟩
          · have H := of_if_f hb H
            refine c_skip ?_
            refine x_qs ?_
            refine c_seq ?_
            refine c_reg ?_
            refine ow_r rfl (dstOk_lt rfl) (ry_box (off := 0) (ds := [.slice a14 p0.Attrs_.length c15, .slice a16 p0.Classes_.length c17]) rfl rfl ty34 (boxIn (i := 0) rfl) rfl rfl) ?_
            refine ow_batch [.fa 54 1 1 fa54_1] rfl ?_
            refine ow_r rfl (dstOk_lt rfl) (ry_box (off := 1) (ds := [.int .i64 e27.Fork_.Attr_, .int .i64 e27.Fork_.At_]) rfl rfl ty48 (boxIn (i := 3) rfl) rfl rfl) ?_
            obtain ⟨y95, h96, H⟩ := of_bind H
            refine ow_q rfl rfl (dstOk_lt rfl) (qy_call rfl fn78 rfl (fun w1 hw1 => impl_Branches_ok w1 (p1 := e27.Fork_) (cs0 := [.slice a14 p0.Attrs_.length c15, .slice a16 p0.Classes_.length c17]) h96 (rdm_Timpl_Schema (x := p0) (c0 := [.slice a14 p0.Attrs_.length c15]) (c1 := [.slice a16 p0.Classes_.length c17]) (rds_bor g12 w1 hw1) (rds_bor g13 w1 hw1)))) (fun _ _ => trivial) ?_
            refine ow_batch [.p] rfl ?_
            refine ow_nil ?_
            refine x_qs ?_
            refine c_seq ?_
            refine c_seq ?_
            refine c_reg ?_
            refine ow_batch [.p, .p, .p] rfl ?_
            refine ow_cut [(85, .bool ((y95 == 0) || ((e27.Kids_.length : Int) != y95))), (4, .pointer (some ⟨b25, 0, none⟩)), (5, .pointer (some ⟨b26, 0, none⟩)), (7, .pointer (some ⟨b65, 0, none⟩)), (9, .int .i64 y95)] 6 ?_ (fun key => OW.sub (R := [(4, .pointer (some ⟨b25, 0, none⟩)), (5, .pointer (some ⟨b26, 0, none⟩)), (7, .pointer (some ⟨b65, 0, none⟩)), (9, .int .i64 y95), (79, .bool (y95 == 0))]) ?_ ⟨rfl, rfl, rfl, rfl, rfl, trivial⟩)
            · refine ow_batch [.p] rfl ?_
              obtain ⟨u99, hu103, H⟩ := of_bind H
              refine ow_cut [(91, .bool u99), (4, .pointer (some ⟨b25, 0, none⟩)), (5, .pointer (some ⟨b26, 0, none⟩)), (7, .pointer (some ⟨b65, 0, none⟩)), (9, .int .i64 y95)] 5 ?_ (fun key => OW.sub (R := [(4, .pointer (some ⟨b25, 0, none⟩)), (5, .pointer (some ⟨b26, 0, none⟩)), (7, .pointer (some ⟨b65, 0, none⟩)), (9, .int .i64 y95), (86, .bool ((y95 == 0) || ((e27.Kids_.length : Int) != y95)))]) ?_ ⟨rfl, rfl, rfl, rfl, rfl, trivial⟩)
              · refine ow_batch [.p] rfl ?_
                obtain ⟨u104, hu108, H⟩ := of_bind H
                refine ow_cut [(99, .bool u104), (4, .pointer (some ⟨b25, 0, none⟩)), (5, .pointer (some ⟨b26, 0, none⟩)), (7, .pointer (some ⟨b65, 0, none⟩))] 7 ?_ (fun key => OW.sub (R := [(4, .pointer (some ⟨b25, 0, none⟩)), (5, .pointer (some ⟨b26, 0, none⟩)), (7, .pointer (some ⟨b65, 0, none⟩)), (9, .int .i64 y95), (92, .bool u99)]) ?_ ⟨rfl, rfl, rfl, rfl, rfl, trivial⟩)
                · refine ow_batch [.p] rfl ?_
                  refine ow_cut [(106, .bool (u104 || ((e27.Stats_.Cells_.length : Int) != 0))), (4, .pointer (some ⟨b25, 0, none⟩)), (5, .pointer (some ⟨b26, 0, none⟩)), (7, .pointer (some ⟨b65, 0, none⟩))] 6 ?_ (fun key => OW.sub (R := [(4, .pointer (some ⟨b25, 0, none⟩)), (5, .pointer (some ⟨b26, 0, none⟩)), (7, .pointer (some ⟨b65, 0, none⟩)), (100, .bool u104)]) ?_ ⟨rfl, rfl, rfl, rfl, trivial⟩)
                  · refine ow_batch [.p] rfl ?_
                    refine ow_cut [(111, .bool ((u104 || ((e27.Stats_.Cells_.length : Int) != 0)) || (e27.Since_ != 0))), (4, .pointer (some ⟨b25, 0, none⟩)), (5, .pointer (some ⟨b26, 0, none⟩)), (7, .pointer (some ⟨b65, 0, none⟩))] 4 ?_ (fun key => OW.sub (R := [(4, .pointer (some ⟨b25, 0, none⟩)), (5, .pointer (some ⟨b26, 0, none⟩)), (7, .pointer (some ⟨b65, 0, none⟩)), (107, .bool (u104 || ((e27.Stats_.Cells_.length : Int) != 0)))]) ?_ ⟨rfl, rfl, rfl, rfl, trivial⟩)
                    · refine ow_nil ?_
                      refine x_qs ?_
                      refine c_if rfl (fun hb => ?_) (fun hb => ?_)
                      · have H := of_if_t hb H
                        refine c_seq ?_
                        refine c_reg ?_
                        refine ow_batch [.p] rfl ?_
                        refine ow_nil ?_
                        refine x_qs ?_
                        refine c_ret ?_
                        refine x_qs_ret ?_
                        exact x_retR (rs := [.tmp 6]) (vs := [.bool false]) rfl ⟨rfl, trivial⟩ (fun w' hw' => by
                            obtain rfl := of_some H
                            exact ⟨rfl, hw'.ext⟩)
                      · have H := of_if_f hb H
                        refine c_skip ?_
                        refine x_qs ?_
                        refine c_seq ?_
                        refine c_reg ?_
                        refine ow_batch [.fa 54 2 3 fa54_2] rfl ?_
                        refine ow_r rfl (dstOk_lt rfl) (ry_box1 (off := 3) rfl rfl ty49 (boxIn (i := 3) rfl) rfl) ?_
                        refine ow_r rfl (dstOk_lt rfl) (ry_makeFunc rfl rfl) ?_
                        obtain ⟨y113, h114, H⟩ := of_bind H
                        refine ow_q rfl rfl (dstOk_lt rfl) (qy_call rfl fn80 rfl (fun w1 hw1 => lib_slices_ContainsFunc___int_int___impl_nodeOk_1_ok w1 (cs_1_0 := [.int .i64 p2]) (cs_1_1 := [.slice a22 p1.Nodes_.length c23, .int .i64 p1.Seen_]) h114 (rds_bor g45 w1 hw1) rfl (at_box (T := 3) 0 (boxIn (i := 2) rfl) rfl w1 hw1) (rdm_Timpl_Tree (x := p1) (c0 := [.slice a22 p1.Nodes_.length c23]) (c1 := [.int .i64 p1.Seen_]) (rds_bor g20 w1 hw1) rfl) (at_box (T := 38) 0 (boxIn (i := 1) rfl) rfl w1 hw1))) (fun _ _ => trivial) ?_
                        refine ow_batch [.p, .p] rfl ?_
                        refine ow_nil ?_
                        refine x_qs ?_
                        refine c_ret ?_
                        exact x_retR (rs := [.tmp 6]) (vs := [.bool (!y113)]) rfl ⟨rfl, trivial⟩ (fun w' hw' => by
                            obtain rfl := of_some H
                            exact ⟨rfl, hw'.ext⟩)
                    · generalize (u104 || ((e27.Stats_.Cells_.length : Int) != 0)) = t112 at key ⊢
                      cases t112
                      · refine ow_batch [.fa 54 5 7 fa54_5] rfl ?_
                        refine ow_r rfl (dstOk_lt rfl) (ry_box1 (off := 7) rfl rfl ty3 (boxIn (i := 3) rfl) rfl) ?_
                        refine ow_batch [.p] rfl ?_
                        refine ow_batch [.p] rfl ?_
                        exact OW.sub key ⟨rfl, rfl, rfl, rfl, trivial⟩
                      · refine ow_batch [.p, .p, .p, .p] rfl ?_
                        exact OW.sub key ⟨rfl, rfl, rfl, rfl, trivial⟩
                  · generalize u104 = t110 at key ⊢
                    cases t110
                    · refine ow_batch [.fa 54 4 5 fa54_4, .fa 52 1 1 fa52_1] rfl ?_
                      refine ow_r rfl (dstOk_lt rfl) (ry_box1 (off := 6) rfl rfl ty50 (boxIn (i := 3) rfl) rfl) ?_
                      refine ow_batch [.lenS 50 49 sl50, .p] rfl ?_
                      refine ow_batch [.p] rfl ?_
                      exact OW.sub key ⟨rfl, rfl, rfl, rfl, trivial⟩
                    · refine ow_batch [.p, .p, .p, .p, .p, .p] rfl ?_
                      exact OW.sub key ⟨rfl, rfl, rfl, rfl, trivial⟩
                · clear H
                  have H := hu108
                  clear hu108
                  generalize u99 = t107 at H key ⊢
                  cases t107
                  · have H := of_if_f rfl H
                    refine ow_batch [.fa 54 3 4 fa54_3] rfl ?_
                    refine ow_r rfl (dstOk_lt rfl) (ry_box1 (off := 4) rfl rfl ty3 (boxIn (i := 3) rfl) rfl) ?_
                    refine ow_batch [.p, .p] rfl ?_
                    obtain ⟨y105, h106, H⟩ := of_bind H
                    refine ow_q rfl rfl (dstOk_lt rfl) (qy_call rfl fn43 rfl (fun w1 hw1 => impl_within_ok w1  h106)) (fun _ _ => trivial) ?_
                    refine ow_batch [.p] rfl ?_
                    refine ow_batch [.p] rfl ?_
                    obtain rfl := of_some H
                    exact OW.sub key ⟨rfl, rfl, rfl, rfl, trivial⟩
                  · have H := of_if_t rfl H
                    refine ow_batch [.p, .p, .p, .p, .p, .p, .p] rfl ?_
                    obtain rfl := of_some H
                    exact OW.sub key ⟨rfl, rfl, rfl, rfl, trivial⟩
              · clear H
                have H := hu103
                clear hu103
                generalize ((y95 == 0) || ((e27.Kids_.length : Int) != y95)) = t102 at H key ⊢
                cases t102
                · have H := of_if_f rfl H
                  refine ow_batch [.fa 54 2 3 fa54_2] rfl ?_
                  refine ow_r rfl (dstOk_lt rfl) (ry_box1 (off := 3) rfl rfl ty49 (boxIn (i := 3) rfl) rfl) ?_
                  obtain ⟨y100, h101, H⟩ := of_bind H
                  refine ow_q rfl rfl (dstOk_lt rfl) (qy_call rfl fn79 rfl (fun w1 hw1 => impl_ascending_ok w1  h101 (rds_bor g45 w1 hw1))) (fun _ _ => trivial) ?_
                  refine ow_batch [.p] rfl ?_
                  refine ow_batch [.p] rfl ?_
                  obtain rfl := of_some H
                  exact OW.sub key ⟨rfl, rfl, rfl, rfl, rfl, trivial⟩
                · have H := of_if_t rfl H
                  refine ow_batch [.p, .p, .p, .p, .p] rfl ?_
                  obtain rfl := of_some H
                  exact OW.sub key ⟨rfl, rfl, rfl, rfl, rfl, trivial⟩
            · generalize (y95 == 0) = t98 at key ⊢
              cases t98
              · refine ow_batch [.fa 54 2 3 fa54_2] rfl ?_
                refine ow_r rfl (dstOk_lt rfl) (ry_box1 (off := 3) rfl rfl ty49 (boxIn (i := 3) rfl) rfl) ?_
                refine ow_batch [.lenS 49 3 sl49, .p, .p] rfl ?_
                refine ow_batch [.p] rfl ?_
                exact OW.sub key ⟨rfl, rfl, rfl, rfl, rfl, trivial⟩
              · refine ow_batch [.p, .p, .p, .p, .p, .p] rfl ?_
                exact OW.sub key ⟨rfl, rfl, rfl, rfl, rfl, trivial⟩
      · clear H
        have H := hu82
        clear hu82
        generalize u73 = t81 at H key ⊢
        cases t81
        · have H := of_if_f rfl H
          refine ow_r rfl (dstOk_lt rfl) (ry_box (off := 0) (ds := [.slice a14 p0.Attrs_.length c15, .slice a16 p0.Classes_.length c17]) rfl rfl ty34 (boxIn (i := 0) rfl) rfl rfl) ?_
          refine ow_batch [.fa 54 6 8 fa54_6] rfl ?_
          refine ow_r rfl (dstOk_lt rfl) (ry_box1 (off := 8) rfl rfl ty49 (boxIn (i := 3) rfl) rfl) ?_
          obtain ⟨y79, h80, H⟩ := of_bind H
          refine ow_q rfl rfl (dstOk_lt rfl) (qy_call rfl fn76 rfl (fun w1 hw1 => impl_AttrsOk_ok w1 (cs0 := [.slice a14 p0.Attrs_.length c15, .slice a16 p0.Classes_.length c17]) h80 (rdm_Timpl_Schema (x := p0) (c0 := [.slice a14 p0.Attrs_.length c15]) (c1 := [.slice a16 p0.Classes_.length c17]) (rds_bor g12 w1 hw1) (rds_bor g13 w1 hw1)) (rds_bor g49 w1 hw1))) (fun _ _ => trivial) ?_
          refine ow_batch [.p] rfl ?_
          refine ow_batch [.p] rfl ?_
          obtain rfl := of_some H
          exact OW.sub key ⟨rfl, rfl, rfl, rfl, rfl, trivial⟩
        · have H := of_if_t rfl H
          refine ow_batch [.p, .p, .p, .p, .p, .p] rfl ?_
          obtain rfl := of_some H
          exact OW.sub key ⟨rfl, rfl, rfl, rfl, rfl, trivial⟩
    · clear H
      have H := hu77
      clear hu77
      generalize u68 = t76 at H key ⊢
      cases t76
      · have H := of_if_f rfl H
        refine ow_r rfl (dstOk_lt rfl) (ry_box (off := 0) (ds := [.slice a14 p0.Attrs_.length c15, .slice a16 p0.Classes_.length c17]) rfl rfl ty34 (boxIn (i := 0) rfl) rfl rfl) ?_
        refine ow_batch [.fa 54 4 5 fa54_4] rfl ?_
        refine ow_r rfl (dstOk_lt rfl) (ry_box (off := 5) (ds := [.slice a59 e27.Stats_.Totals_.length c60, .slice a61 e27.Stats_.Cells_.length c62]) rfl rfl ty52 (boxIn (i := 3) rfl) rfl rfl) ?_
        obtain ⟨y74, h75, H⟩ := of_bind H
        refine ow_q rfl rfl (dstOk_lt rfl) (qy_call rfl fn53 rfl (fun w1 hw1 => impl_StatsOk_ok w1 (cs0 := [.slice a14 p0.Attrs_.length c15, .slice a16 p0.Classes_.length c17]) (cs1 := [.slice a59 e27.Stats_.Totals_.length c60, .slice a61 e27.Stats_.Cells_.length c62]) h75 (rdm_Timpl_Schema (x := p0) (c0 := [.slice a14 p0.Attrs_.length c15]) (c1 := [.slice a16 p0.Classes_.length c17]) (rds_bor g12 w1 hw1) (rds_bor g13 w1 hw1)) (rdm_Timpl_Stats (x := e27.Stats_) (c0 := [.slice a59 e27.Stats_.Totals_.length c60]) (c1 := [.slice a61 e27.Stats_.Cells_.length c62]) (rds_bor g57 w1 hw1) (rds_bor g58 w1 hw1)))) (fun _ _ => trivial) ?_
        refine ow_batch [.p] rfl ?_
        refine ow_batch [.p] rfl ?_
        obtain rfl := of_some H
        exact OW.sub key ⟨rfl, rfl, rfl, rfl, rfl, trivial⟩
      · have H := of_if_t rfl H
        refine ow_batch [.p, .p, .p, .p, .p, .p] rfl ?_
        obtain rfl := of_some H
        exact OW.sub key ⟨rfl, rfl, rfl, rfl, rfl, trivial⟩
  · clear H
    have H := hu72
    clear hu72
    generalize (!y66) = t71 at H key ⊢
    cases t71
    · have H := of_if_f rfl H
      refine ow_batch [.fa 54 9 11 fa54_9] rfl ?_
      refine ow_r rfl (dstOk_lt rfl) (ry_box1 (off := 11) rfl rfl ty3 (boxIn (i := 3) rfl) rfl) ?_
      refine ow_batch [.fa 38 1 1 fa38_1] rfl ?_
      refine ow_r rfl (dstOk_lt rfl) (ry_box1 (off := 1) rfl rfl ty3 (boxIn (i := 1) rfl) rfl) ?_
      obtain ⟨y69, h70, H⟩ := of_bind H
      refine ow_q rfl rfl (dstOk_lt rfl) (qy_call rfl fn43 rfl (fun w1 hw1 => impl_within_ok w1  h70)) (fun _ _ => trivial) ?_
      refine ow_batch [.p] rfl ?_
      refine ow_batch [.p] rfl ?_
      obtain rfl := of_some H
      exact OW.sub key ⟨rfl, rfl, rfl, rfl, rfl, trivial⟩
    · have H := of_if_t rfl H
      refine ow_batch [.p, .p, .p, .p, .p, .p, .p] rfl ?_
      obtain rfl := of_some H
      exact OW.sub key ⟨rfl, rfl, rfl, rfl, rfl, trivial⟩

set_option maxHeartbeats 4000000 in
set_option maxRecDepth 100000 in
theorem lib_slices_Index___int_int__ok (w : World) {p0 : List Int} {p1 : Int} {a_0 : Option Addr} {n_0 c_0 : Nat} {r : Int} (H : lib_slices_Index___int_int_ p0 p1 = some r)  (g0 : (eList (eVal (Value.int .i64) (fun _ => rfl)) 3).rd w [] p0 [.slice a_0 n_0 c_0]) :
    Calls Tryz.prog 82 #[.slice a_0 n_0 c_0, .int .i64 p1] w (fun en w' => en = .returned (.int .i64 r) ∧ Ext [] w w') := by
  obtain rfl := rd_n g0
  unfold lib_slices_Index___int_int_ at H
  refine f_enter (vs := [.slice a_0 p0.length c_0, .int .i64 p1]) Tryz.func82 rfl Tryz.ntmps82 rfl (St.init w []) ?_
  refine c_seq ?_
  refine c_reg ?_
  refine ow_batch [.p] rfl ?_
  refine ow_nil ?_
  refine x_qs ?_
  refine c_seq ?_
  refine c_seq ?_
  refine c_reg ?_
  refine ow_batch [.p, .lenS 49 3 sl49, .p] rfl ?_
  refine ow_nil ?_
  refine x_qs ?_
  refine c_block ?_
  refine CW.at (loopI1 (fun (i13 : Int) => St w [] []) (fun (i13 : Int) => [(0, .slice a_0 p0.length c_0), (1, .int .i64 p1), (7, .int .i64 (p0.length : Int)), (8, .int .i64 i13)]) (fun kk => fun (i13 : Int) => lib_slices_Index___int_int__L1 p0 p1 kk i13 = some r) (fun _ H => ?_) (fun k1 ihk1 i13 H => ?_) Fuel (0) (H)) (fun _ h => St.sel [] rfl rfl h) ⟨rfl, rfl, rfl, rfl,  trivial⟩
  · unfold lib_slices_Index___int_int__L1 at H
    exact absurd H (by simp)
  · unfold lib_slices_Index___int_int__L1 at H
    refine c_seq ?_
    refine c_reg ?_
    refine ow_batch [.p] rfl ?_
    refine ow_nil ?_
    refine x_qs ?_
    refine c_seq ?_
    refine c_if rfl (fun hb => ?_) (fun hb => ?_)
    · have H := of_if_t hb H
      refine c_skip ?_
      refine x_qs ?_
      refine c_seq ?_
      refine c_block ?_
      refine c_seq ?_
      refine c_reg ?_
      refine ow_batch [.p, .p] rfl ?_
      refine ow_nil ?_
      refine x_qs ?_
      refine c_seq ?_
      refine c_reg ?_
      refine ow_batch [.p, .p, .p] rfl ?_
      obtain ⟨e18, h19, H⟩ := of_bind H
      refine ow_ixE (e := eVal (Value.int .i64) (fun _ => rfl)) (xs := p0) (j := i13) rfl rfl rfl rfl rfl sl49 ty3 rfl (fun w1 hw1 => rds_bor g0 w1 hw1) h19 (by rw [Nat.mul_one]) ?_
      refine ow_r rfl (dstOk_lt rfl) (ry_load1 rfl rfl ty3 (at_elV (fun w1 hw1 => rds_bor g0 w1 hw1) h19)) ?_
      refine ow_batch [.p] rfl ?_
      refine ow_nil ?_
      refine x_qs ?_
      refine c_if rfl (fun hb => ?_) (fun hb => ?_)
      · have H := of_if_t hb H
        refine c_seq ?_
        refine c_reg ?_
        refine ow_batch [.p, .p] rfl ?_
        refine ow_nil ?_
        refine x_qs ?_
        refine c_ret ?_
        refine x_qb_ret ?_
        refine x_qs_ret ?_
        refine x_ql_ret ?_
        refine x_qb_ret ?_
        refine x_qs_ret ?_
        exact x_retR (rs := [.tmp 4]) (vs := [.int .i64 i13]) rfl ⟨rfl, trivial⟩ (fun w' hw' => by
            obtain rfl := of_some H
            exact ⟨rfl, hw'.ext⟩)
      · have H := of_if_f hb H
        refine c_skip ?_
        refine x_qb ?_
        refine x_qs ?_
        refine c_reg ?_
        refine ow_batch [.p, .p] rfl ?_
        refine ow_nil ?_
        exact x_ql (RW.at (ihk1 (IntKind.i64.wrap (i13 + 1)) (H)) (fun _ h => St.sel [] rfl rfl h) ⟨rfl, rfl, rfl, rfl, trivial⟩)
    · have H := of_if_f hb H
      refine c_exit ?_
      refine x_qs_exit ?_
      refine x_ql_exit ?_
      refine x_qb_here ?_
      refine x_qs ?_
      refine c_seq ?_
      refine c_reg ?_
      refine ow_batch [.p] rfl ?_
      refine ow_nil ?_
      refine x_qs ?_
      refine c_ret ?_
      exact x_retR (rs := [.tmp 4]) (vs := [.int .i64 (-1)]) rfl ⟨rfl, trivial⟩ (fun w' hw' => by
          obtain rfl := of_some H
          exact ⟨rfl, hw'.ext⟩)

set_option maxHeartbeats 4000000 in
set_option maxRecDepth 100000 in
theorem lib_slices_Contains___int_int__ok (w : World) {p0 : List Int} {p1 : Int} {a_0 : Option Addr} {n_0 c_0 : Nat} {r : Bool} (H : lib_slices_Contains___int_int_ p0 p1 = some r)  (g0 : (eList (eVal (Value.int .i64) (fun _ => rfl)) 3).rd w [] p0 [.slice a_0 n_0 c_0]) :
    Calls Tryz.prog 45 #[.slice a_0 n_0 c_0, .int .i64 p1] w (fun en w' => en = .returned (.bool r) ∧ Ext [] w w') := by
  obtain rfl := rd_n g0
  unfold lib_slices_Contains___int_int_ at H
  refine f_enter (vs := [.slice a_0 p0.length c_0, .int .i64 p1]) Tryz.func45 rfl Tryz.ntmps45 rfl (St.init w []) ?_
  refine c_seq ?_
  refine c_reg ?_
  refine ow_batch [.p] rfl ?_
  refine ow_nil ?_
  refine x_qs ?_
  refine c_seq ?_
  refine c_reg ?_
  refine ow_batch [.p, .p] rfl ?_
  obtain ⟨y10, h11, H⟩ := of_bind H
  refine ow_q rfl rfl (dstOk_lt rfl) (qy_call rfl fn82 rfl (fun w1 hw1 => lib_slices_Index___int_int__ok w1  h11 (rds_bor g0 w1 hw1))) (fun _ _ => trivial) ?_
  refine ow_batch [.p, .p] rfl ?_
  refine ow_nil ?_
  refine x_qs ?_
  refine c_ret ?_
  exact x_retR (rs := [.tmp 4]) (vs := [.bool (decide (y10 ≥ 0))]) rfl ⟨rfl, trivial⟩ (fun w' hw' => by
      obtain rfl := of_some H
      exact ⟨rfl, hw'.ext⟩)

set_option maxHeartbeats 4000000 in
set_option maxRecDepth 100000 in
theorem impl_TreeOk_ok (w : World) {p0 : Timpl_Schema} {p1 : Timpl_Tree} {cs0 : List Value} {cs1 : List Value} {r : Bool} (H : impl_TreeOk p0 p1 = some r)  (g0 : (eTimpl_Schema).rd w [] p0 cs0) (g1 : (eTimpl_Tree).rd w [] p1 cs1) :
    Calls Tryz.prog 21 #[.agg cs0.toArray, .agg cs1.toArray] w (fun en w' => en = .returned (.bool r) ∧ Ext [] w w') := by
  obtain ⟨c10, c11, rfl, g12, g13⟩ := rdo_Timpl_Schema g0
  obtain ⟨a14, c15, rfl⟩ := rd_sl1 g12
  obtain ⟨a16, c17, rfl⟩ := rd_sl1 g13
  obtain ⟨c18, c19, rfl, g20, g21⟩ := rdo_Timpl_Tree g1
  obtain ⟨a22, c23, rfl⟩ := rd_sl1 g20
  obtain rfl : c19 = [.int .i64 p1.Seen_] := g21
  unfold impl_TreeOk at H
  refine f_enter (vs := [.agg #[.slice a14 p0.Attrs_.length c15, .slice a16 p0.Classes_.length c17], .agg #[.slice a22 p1.Nodes_.length c23, .int .i64 p1.Seen_]]) Tryz.func21 rfl Tryz.ntmps21 rfl (St.init w []) ?_
  refine c_seq ?_
  refine c_reg ?_
  refine ow_box (cs := [.slice a14 p0.Attrs_.length c15, .slice a16 p0.Classes_.length c17]) rfl rfl rfl rfl rfl rfl (fun _ => kp) (fun b24 => ?_)
  refine ow_box (cs := [.slice a22 p1.Nodes_.length c23, .int .i64 p1.Seen_]) rfl rfl rfl rfl rfl rfl (fun _ => kp) (fun b25 => ?_)
  refine ow_batch [.p] rfl ?_
  refine ow_nil ?_
  refine x_qs ?_
  refine c_seq ?_
  refine c_seq ?_
  refine c_reg ?_
  refine ow_r rfl (dstOk_lt rfl) (ry_box (off := 0) (ds := [.slice a14 p0.Attrs_.length c15, .slice a16 p0.Classes_.length c17]) rfl rfl ty34 (boxIn (i := 0) rfl) rfl rfl) ?_
  obtain ⟨y26, h27, H⟩ := of_bind H
  refine ow_q rfl rfl (dstOk_lt rfl) (qy_call rfl fn42 rfl (fun w1 hw1 => impl_SchemaOk_ok w1 (cs0 := [.slice a14 p0.Attrs_.length c15, .slice a16 p0.Classes_.length c17]) h27 (rdm_Timpl_Schema (x := p0) (c0 := [.slice a14 p0.Attrs_.length c15]) (c1 := [.slice a16 p0.Classes_.length c17]) (rds_bor g12 w1 hw1) (rds_bor g13 w1 hw1)))) (fun _ _ => trivial) ?_
  refine ow_batch [.p, .p] rfl ?_
  obtain ⟨u28, hu32, H⟩ := of_bind H
  refine ow_cut [(17, .bool u28), (2, .pointer (some ⟨b24, 0, none⟩)), (3, .pointer (some ⟨b25, 0, none⟩))] 6 ?_ (fun key => OW.sub (R := [(2, .pointer (some ⟨b24, 0, none⟩)), (3, .pointer (some ⟨b25, 0, none⟩)), (11, .bool (!y26))]) ?_ ⟨rfl, rfl, rfl, trivial⟩)
  · refine ow_batch [.p] rfl ?_
    obtain ⟨u33, hu37, H⟩ := of_bind H
    refine ow_cut [(23, .bool u33), (2, .pointer (some ⟨b24, 0, none⟩)), (3, .pointer (some ⟨b25, 0, none⟩))] 5 ?_ (fun key => OW.sub (R := [(2, .pointer (some ⟨b24, 0, none⟩)), (3, .pointer (some ⟨b25, 0, none⟩)), (18, .bool u28)]) ?_ ⟨rfl, rfl, rfl, trivial⟩)
    · refine ow_nil ?_
      refine x_qs ?_
      refine c_if rfl (fun hb => ?_) (fun hb => ?_)
      · have H := of_if_t hb H
        refine c_seq ?_
        refine c_reg ?_
        refine ow_batch [.p] rfl ?_
        refine ow_nil ?_
        refine x_qs ?_
        refine c_ret ?_
        refine x_qs_ret ?_
        exact x_retR (rs := [.tmp 4]) (vs := [.bool false]) rfl ⟨rfl, trivial⟩ (fun w' hw' => by
            obtain rfl := of_some H
            exact ⟨rfl, hw'.ext⟩)
      · have H := of_if_f hb H
        refine c_skip ?_
        refine x_qs ?_
        refine c_seq ?_
        refine c_seq ?_
        refine c_reg ?_
        refine ow_batch [.fa 38 0 0 fa38_0] rfl ?_
        refine ow_r rfl (dstOk_lt rfl) (ry_box1 (off := 0) rfl rfl ty36 (boxIn (i := 1) rfl) rfl) ?_
        refine ow_batch [.lenS 36 54 sl36, .p] rfl ?_
        refine ow_nil ?_
        refine x_qs ?_
        refine c_block ?_
        refine CW.at (loopI1 (fun (i134 : Int) => St w [] [Res.box b24 34 [.slice a14 p0.Attrs_.length c15, .slice a16 p0.Classes_.length c17], Res.box b25 38 [.slice a22 p1.Nodes_.length c23, .int .i64 p1.Seen_]]) (fun (i134 : Int) => [(2, .pointer (some ⟨b24, 0, none⟩)), (3, .pointer (some ⟨b25, 0, none⟩)), (25, .slice a22 p1.Nodes_.length c23), (26, .int .i64 (p1.Nodes_.length : Int)), (27, .int .i64 i134)]) (fun kk => fun (i134 : Int) => impl_TreeOk_L1 p1 p0 kk i134 = some r) (fun _ H => ?_) (fun k1 ihk1 i134 H => ?_) Fuel (0) (H)) (fun _ h => St.sel [0, 1] rfl rfl h) ⟨rfl, rfl, rfl, rfl, rfl,  trivial⟩
        · unfold impl_TreeOk_L1 at H
          exact absurd H (by simp)
        · unfold impl_TreeOk_L1 at H
          refine c_seq ?_
          refine c_reg ?_
          refine ow_batch [.p] rfl ?_
          refine ow_nil ?_
          refine x_qs ?_
          refine c_seq ?_
          refine c_if rfl (fun hb => ?_) (fun hb => ?_)
          · have H := of_if_t hb H
            refine c_skip ?_
            refine x_qs ?_
            refine c_seq ?_
            refine c_block ?_
            refine c_seq ?_
            refine c_reg ?_
            refine ow_batch [.p] rfl ?_
            obtain ⟨e231, h232, H⟩ := of_bind H
            refine ow_ixB rfl rfl rfl rfl rfl sl36 ty54 rfl g20 h232 (fun q235 c236 hd233 hA234 => ?_)
            obtain ⟨c237, c238, c239, c240, c241, c242, c243, c244, c245, c246, rfl, g247, g248, g249, g250, g251, g252, g253, g254, g255, g256⟩ := rdo_Timpl_Node hd233
            obtain rfl : c237 = [.bool e231.Leaf_] := g247
            obtain rfl : c238 = [.int .i64 e231.Fork_.Attr_, .int .i64 e231.Fork_.At_] := g248
            obtain ⟨a257, c258, rfl⟩ := rd_sl1 g249
            obtain rfl : c240 = [.int .i64 e231.Miss_] := g250
            obtain ⟨c259, c260, rfl, g261, g262⟩ := rdo_Timpl_Stats g251
            obtain ⟨a263, c264, rfl⟩ := rd_sl1 g261
            obtain ⟨a265, c266, rfl⟩ := rd_sl1 g262
            obtain rfl : c242 = [.int .i64 e231.Since_] := g252
            obtain ⟨a267, c268, rfl⟩ := rd_sl1 g253
            obtain rfl : c244 = [.int .i64 e231.Depth_] := g254
            obtain rfl : c245 = [.int .i64 e231.Up_] := g255
            obtain rfl : c246 = [.int .i64 e231.Born_] := g256
            refine ow_r rfl (dstOk_lt rfl) (ry_load (cs := [.bool e231.Leaf_, .int .i64 e231.Fork_.Attr_, .int .i64 e231.Fork_.At_, .slice a257 e231.Kids_.length c258, .int .i64 e231.Miss_, .slice a263 e231.Stats_.Totals_.length c264, .slice a265 e231.Stats_.Cells_.length c266, .int .i64 e231.Since_, .slice a267 e231.Attrs_.length c268, .int .i64 e231.Depth_, .int .i64 e231.Up_, .int .i64 e231.Born_]) rfl rfl ty54 (at_bor bor hA234) rfl) ?_
            refine ow_alloc rfl rfl rfl rfl ty54 (fun _ => kp) (fun b269 => ?_)
            refine ow_batch [.p] rfl ?_
            refine ow_storeC (off := 0) [.bool e231.Leaf_, .int .i64 e231.Fork_.Attr_, .int .i64 e231.Fork_.At_, .slice a257 e231.Kids_.length c258, .int .i64 e231.Miss_, .slice a263 e231.Stats_.Totals_.length c264, .slice a265 e231.Stats_.Cells_.length c266, .int .i64 e231.Since_, .slice a267 e231.Attrs_.length c268, .int .i64 e231.Depth_, .int .i64 e231.Up_, .int .i64 e231.Born_] [_, _, _, _, _, _, _, _, _, _, _, _] (i := 2) rfl rfl rfl rfl rfl rfl ty54 rfl rfl (by intro u hu; simp only [List.mem_cons, List.not_mem_nil, or_false] at hu; rcases hu with rfl | rfl | rfl | rfl | rfl | rfl | rfl | rfl | rfl | rfl | rfl | rfl <;> rfl) rfl rfl rfl kp ?_
            refine ow_nil ?_
            refine x_qs ?_
            refine c_seq ?_
            refine c_seq ?_
            refine c_reg ?_
            refine ow_r rfl (dstOk_lt rfl) (ry_box (off := 0) (ds := [.slice a14 p0.Attrs_.length c15, .slice a16 p0.Classes_.length c17]) rfl rfl ty34 (boxIn (i := 0) rfl) rfl rfl) ?_
            refine ow_r rfl (dstOk_lt rfl) (ry_box (off := 0) (ds := [.slice a22 p1.Nodes_.length c23, .int .i64 p1.Seen_]) rfl rfl ty38 (boxIn (i := 1) rfl) rfl rfl) ?_
            refine ow_batch [.p] rfl ?_
            obtain ⟨y270, h271, H⟩ := of_bind H
            refine ow_q rfl rfl (dstOk_lt rfl) (qy_call rfl fn44 rfl (fun w1 hw1 => impl_nodeOk_ok w1 (cs0 := [.slice a14 p0.Attrs_.length c15, .slice a16 p0.Classes_.length c17]) (cs1 := [.slice a22 p1.Nodes_.length c23, .int .i64 p1.Seen_]) h271 (rdm_Timpl_Schema (x := p0) (c0 := [.slice a14 p0.Attrs_.length c15]) (c1 := [.slice a16 p0.Classes_.length c17]) (rds_bor g12 w1 hw1) (rds_bor g13 w1 hw1)) (rdm_Timpl_Tree (x := p1) (c0 := [.slice a22 p1.Nodes_.length c23]) (c1 := [.int .i64 p1.Seen_]) (rds_bor g20 w1 hw1) rfl))) (fun _ _ => trivial) ?_
            refine ow_batch [.p] rfl ?_
            refine ow_nil ?_
            refine x_qs ?_
            refine c_if rfl (fun hb => ?_) (fun hb => ?_)
            · have H := of_if_t hb H
              refine c_seq ?_
              refine c_reg ?_
              refine ow_batch [.p] rfl ?_
              refine ow_nil ?_
              refine x_qs ?_
              refine c_ret ?_
              refine x_qs_ret ?_
              refine x_qb_ret ?_
              refine x_qs_ret ?_
              refine x_ql_ret ?_
              refine x_qb_ret ?_
              refine x_qs_ret ?_
              exact x_retR (rs := [.tmp 4]) (vs := [.bool false]) rfl ⟨rfl, trivial⟩ (fun w' hw' => by
                  obtain rfl := of_some H
                  exact ⟨rfl, hw'.ext⟩)
            · have H := of_if_f hb H
              refine c_skip ?_
              refine x_qs ?_
              refine c_seq ?_
              refine c_seq ?_
              refine c_reg ?_
              refine ow_batch [.p, .p] rfl ?_
              refine ow_nil ?_
              refine x_qs ?_
              refine c_if rfl (fun hb => ?_) (fun hb => ?_)
              · have H := of_if_t hb H
                refine c_seq ?_
                refine c_seq ?_
                refine c_reg ?_
                refine ow_batch [.fa 54 8 10 fa54_8] rfl ?_
                refine ow_r rfl (dstOk_lt rfl) (ry_box1 (off := 10) rfl rfl ty3 (boxIn (i := 2) rfl) rfl) ?_
                refine ow_batch [.p, .p] rfl ?_
                refine ow_cut [(46, .bool ((e231.Up_ != (-1)) || (e231.Depth_ != 0))), (2, .pointer (some ⟨b24, 0, none⟩)), (3, .pointer (some ⟨b25, 0, none⟩)), (6, .pointer (some ⟨b269, 0, none⟩)), (25, .slice a22 p1.Nodes_.length c23), (26, .int .i64 (p1.Nodes_.length : Int)), (27, .int .i64 i134)] 4 ?_ (fun key => OW.sub (R := [(2, .pointer (some ⟨b24, 0, none⟩)), (3, .pointer (some ⟨b25, 0, none⟩)), (6, .pointer (some ⟨b269, 0, none⟩)), (25, .slice a22 p1.Nodes_.length c23), (26, .int .i64 (p1.Nodes_.length : Int)), (27, .int .i64 i134), (42, .bool (e231.Up_ != (-1)))]) ?_ ⟨rfl, rfl, rfl, rfl, rfl, rfl, rfl, trivial⟩)
                · refine ow_batch [.p] rfl ?_
                  refine ow_cut [(51, .bool (((e231.Up_ != (-1)) || (e231.Depth_ != 0)) || (e231.Born_ != 0))), (2, .pointer (some ⟨b24, 0, none⟩)), (3, .pointer (some ⟨b25, 0, none⟩)), (25, .slice a22 p1.Nodes_.length c23), (26, .int .i64 (p1.Nodes_.length : Int)), (27, .int .i64 i134)] 4 ?_ (fun key => OW.sub (R := [(2, .pointer (some ⟨b24, 0, none⟩)), (3, .pointer (some ⟨b25, 0, none⟩)), (6, .pointer (some ⟨b269, 0, none⟩)), (25, .slice a22 p1.Nodes_.length c23), (26, .int .i64 (p1.Nodes_.length : Int)), (27, .int .i64 i134), (47, .bool ((e231.Up_ != (-1)) || (e231.Depth_ != 0)))]) ?_ ⟨rfl, rfl, rfl, rfl, rfl, rfl, rfl, trivial⟩)
                  · refine ow_nil ?_
                    refine x_qs ?_
                    refine c_if rfl (fun hb => ?_) (fun hb => ?_)
                    · have H := of_if_t hb H
                      refine c_seq ?_
                      refine c_reg ?_
                      refine ow_batch [.p] rfl ?_
                      refine ow_nil ?_
                      refine x_qs ?_
                      refine c_ret ?_
                      refine x_qs_ret ?_
                      refine x_qs_ret ?_
                      refine x_qb_ret ?_
                      refine x_qs_ret ?_
                      refine x_ql_ret ?_
                      refine x_qb_ret ?_
                      refine x_qs_ret ?_
                      exact x_retR (rs := [.tmp 4]) (vs := [.bool false]) rfl ⟨rfl, trivial⟩ (fun w' hw' => by
                          obtain rfl := of_some H
                          exact ⟨rfl, hw'.ext⟩)
                    · have H := of_if_f hb H
                      refine c_skip ?_
                      refine x_qs ?_
                      refine c_exit ?_
                      refine x_qs_exit ?_
                      refine x_qb_here ?_
                      refine x_qs ?_
                      refine c_reg ?_
                      refine ow_batch [.p, .p] rfl ?_
                      refine ow_nil ?_
                      exact x_ql (RW.at (ihk1 (IntKind.i64.wrap (i134 + 1)) (H)) (fun _ h => St.sel [0, 1] rfl rfl h) ⟨rfl, rfl, rfl, rfl, rfl, trivial⟩)
                  · generalize ((e231.Up_ != (-1)) || (e231.Depth_ != 0)) = t275 at key ⊢
                    cases t275
                    · refine ow_batch [.fa 54 9 11 fa54_9] rfl ?_
                      refine ow_r rfl (dstOk_lt rfl) (ry_box1 (off := 11) rfl rfl ty3 (boxIn (i := 2) rfl) rfl) ?_
                      refine ow_batch [.p] rfl ?_
                      refine ow_batch [.p] rfl ?_
                      exact OW.sub key ⟨rfl, rfl, rfl, rfl, rfl, rfl, trivial⟩
                    · refine ow_batch [.p, .p, .p, .p] rfl ?_
                      exact OW.sub key ⟨rfl, rfl, rfl, rfl, rfl, rfl, trivial⟩
                · generalize (e231.Up_ != (-1)) = t273 at key ⊢
                  cases t273
                  · refine ow_batch [.fa 54 7 9 fa54_7] rfl ?_
                    refine ow_r rfl (dstOk_lt rfl) (ry_box1 (off := 9) rfl rfl ty3 (boxIn (i := 2) rfl) rfl) ?_
                    refine ow_batch [.p] rfl ?_
                    refine ow_batch [.p] rfl ?_
                    exact OW.sub key ⟨rfl, rfl, rfl, rfl, rfl, rfl, rfl, trivial⟩
                  · refine ow_batch [.p, .p, .p, .p] rfl ?_
                    exact OW.sub key ⟨rfl, rfl, rfl, rfl, rfl, rfl, rfl, trivial⟩
              · have H := of_if_f hb H
                refine c_skip ?_
                refine x_qs ?_
                refine c_seq ?_
                refine c_seq ?_
                refine c_reg ?_
                refine ow_batch [.fa 54 8 10 fa54_8] rfl ?_
                refine ow_r rfl (dstOk_lt rfl) (ry_box1 (off := 10) rfl rfl ty3 (boxIn (i := 2) rfl) rfl) ?_
                refine ow_batch [.p, .p] rfl ?_
                obtain ⟨y276, h277, H⟩ := of_bind H
                refine ow_q rfl rfl (dstOk_lt rfl) (qy_call rfl fn43 rfl (fun w1 hw1 => impl_within_ok w1  h277)) (fun _ _ => trivial) ?_
                refine ow_batch [.p] rfl ?_
                refine ow_nil ?_
                refine x_qs ?_
                refine c_if rfl (fun hb => ?_) (fun hb => ?_)
                · have H := of_if_t hb H
                  refine c_seq ?_
                  refine c_reg ?_
                  refine ow_batch [.p] rfl ?_
                  refine ow_nil ?_
                  refine x_qs ?_
                  refine c_ret ?_
                  refine x_qs_ret ?_
                  refine x_qb_ret ?_
                  refine x_qs_ret ?_
                  refine x_ql_ret ?_
                  refine x_qb_ret ?_
                  refine x_qs_ret ?_
                  exact x_retR (rs := [.tmp 4]) (vs := [.bool false]) rfl ⟨rfl, trivial⟩ (fun w' hw' => by
                      obtain rfl := of_some H
                      exact ⟨rfl, hw'.ext⟩)
                · have H := of_if_f hb H
                  refine c_skip ?_
                  refine x_qs ?_
                  refine c_seq ?_
                  refine c_reg ?_
                  refine ow_batch [.fa 38 0 0 fa38_0] rfl ?_
                  refine ow_r rfl (dstOk_lt rfl) (ry_box1 (off := 0) rfl rfl ty36 (boxIn (i := 1) rfl) rfl) ?_
                  refine ow_batch [.fa 54 8 10 fa54_8] rfl ?_
                  refine ow_r rfl (dstOk_lt rfl) (ry_box1 (off := 10) rfl rfl ty3 (boxIn (i := 2) rfl) rfl) ?_
                  obtain ⟨e278, h279, H⟩ := of_bind H
                  refine ow_ixB rfl rfl rfl rfl rfl sl36 ty54 rfl g20 h279 (fun q282 c283 hd280 hA281 => ?_)
                  obtain ⟨c284, c285, c286, c287, c288, c289, c290, c291, c292, c293, rfl, g294, g295, g296, g297, g298, g299, g300, g301, g302, g303⟩ := rdo_Timpl_Node hd280
                  obtain rfl : c284 = [.bool e278.Leaf_] := g294
                  obtain rfl : c285 = [.int .i64 e278.Fork_.Attr_, .int .i64 e278.Fork_.At_] := g295
                  obtain ⟨a304, c305, rfl⟩ := rd_sl1 g296
                  obtain rfl : c287 = [.int .i64 e278.Miss_] := g297
                  obtain ⟨c306, c307, rfl, g308, g309⟩ := rdo_Timpl_Stats g298
                  obtain ⟨a310, c311, rfl⟩ := rd_sl1 g308
                  obtain ⟨a312, c313, rfl⟩ := rd_sl1 g309
                  obtain rfl : c289 = [.int .i64 e278.Since_] := g299
                  obtain ⟨a314, c315, rfl⟩ := rd_sl1 g300
                  obtain rfl : c291 = [.int .i64 e278.Depth_] := g301
                  obtain rfl : c292 = [.int .i64 e278.Up_] := g302
                  obtain rfl : c293 = [.int .i64 e278.Born_] := g303
                  refine ow_r rfl (dstOk_lt rfl) (ry_load (cs := [.bool e278.Leaf_, .int .i64 e278.Fork_.Attr_, .int .i64 e278.Fork_.At_, .slice a304 e278.Kids_.length c305, .int .i64 e278.Miss_, .slice a310 e278.Stats_.Totals_.length c311, .slice a312 e278.Stats_.Cells_.length c313, .int .i64 e278.Since_, .slice a314 e278.Attrs_.length c315, .int .i64 e278.Depth_, .int .i64 e278.Up_, .int .i64 e278.Born_]) rfl rfl ty54 (at_bor bor hA281) rfl) ?_
                  refine ow_alloc rfl rfl rfl rfl ty54 (fun _ => kp) (fun b316 => ?_)
                  refine ow_storeC (off := 0) [.bool e278.Leaf_, .int .i64 e278.Fork_.Attr_, .int .i64 e278.Fork_.At_, .slice a304 e278.Kids_.length c305, .int .i64 e278.Miss_, .slice a310 e278.Stats_.Totals_.length c311, .slice a312 e278.Stats_.Cells_.length c313, .int .i64 e278.Since_, .slice a314 e278.Attrs_.length c315, .int .i64 e278.Depth_, .int .i64 e278.Up_, .int .i64 e278.Born_] [_, _, _, _, _, _, _, _, _, _, _, _] (i := 3) rfl rfl rfl rfl rfl rfl ty54 rfl rfl (by intro u hu; simp only [List.mem_cons, List.not_mem_nil, or_false] at hu; rcases hu with rfl | rfl | rfl | rfl | rfl | rfl | rfl | rfl | rfl | rfl | rfl | rfl <;> rfl) rfl rfl rfl kp ?_
                  refine ow_nil ?_
                  refine x_qs ?_
                  refine c_seq ?_
                  refine c_reg ?_
                  refine ow_batch [.fa 54 0 0 fa54_0] rfl ?_
                  refine ow_r rfl (dstOk_lt rfl) (ry_box1 (off := 0) rfl rfl ty4 (boxIn (i := 3) rfl) rfl) ?_
                  refine ow_batch [.p] rfl ?_
                  obtain ⟨u317, hu321, H⟩ := of_bind H
                  refine ow_cut [(72, .bool u317), (2, .pointer (some ⟨b24, 0, none⟩)), (3, .pointer (some ⟨b25, 0, none⟩)), (6, .pointer (some ⟨b269, 0, none⟩)), (7, .pointer (some ⟨b316, 0, none⟩)), (25, .slice a22 p1.Nodes_.length c23), (26, .int .i64 (p1.Nodes_.length : Int)), (27, .int .i64 i134)] 6 ?_ (fun key => OW.sub (R := [(2, .pointer (some ⟨b24, 0, none⟩)), (3, .pointer (some ⟨b25, 0, none⟩)), (5, .int .i64 i134), (6, .pointer (some ⟨b269, 0, none⟩)), (7, .pointer (some ⟨b316, 0, none⟩)), (25, .slice a22 p1.Nodes_.length c23), (26, .int .i64 (p1.Nodes_.length : Int)), (27, .int .i64 i134), (66, .bool e278.Leaf_)]) ?_ ⟨rfl, rfl, rfl, rfl, rfl, rfl, rfl, rfl, rfl, trivial⟩)
                  · refine ow_batch [.p] rfl ?_
                    refine ow_cut [(80, .bool (u317 || (e278.Depth_ != (IntKind.i64.wrap (e231.Depth_ - 1))))), (2, .pointer (some ⟨b24, 0, none⟩)), (3, .pointer (some ⟨b25, 0, none⟩)), (6, .pointer (some ⟨b269, 0, none⟩)), (7, .pointer (some ⟨b316, 0, none⟩)), (25, .slice a22 p1.Nodes_.length c23), (26, .int .i64 (p1.Nodes_.length : Int)), (27, .int .i64 i134)] 7 ?_ (fun key => OW.sub (R := [(2, .pointer (some ⟨b24, 0, none⟩)), (3, .pointer (some ⟨b25, 0, none⟩)), (6, .pointer (some ⟨b269, 0, none⟩)), (7, .pointer (some ⟨b316, 0, none⟩)), (25, .slice a22 p1.Nodes_.length c23), (26, .int .i64 (p1.Nodes_.length : Int)), (27, .int .i64 i134), (73, .bool u317)]) ?_ ⟨rfl, rfl, rfl, rfl, rfl, rfl, rfl, rfl, trivial⟩)
                    · refine ow_batch [.p] rfl ?_
                      refine ow_cut [(87, .bool ((u317 || (e278.Depth_ != (IntKind.i64.wrap (e231.Depth_ - 1)))) || (decide (e278.Born_ > e231.Born_)))), (2, .pointer (some ⟨b24, 0, none⟩)), (3, .pointer (some ⟨b25, 0, none⟩)), (25, .slice a22 p1.Nodes_.length c23), (26, .int .i64 (p1.Nodes_.length : Int)), (27, .int .i64 i134)] 6 ?_ (fun key => OW.sub (R := [(2, .pointer (some ⟨b24, 0, none⟩)), (3, .pointer (some ⟨b25, 0, none⟩)), (6, .pointer (some ⟨b269, 0, none⟩)), (7, .pointer (some ⟨b316, 0, none⟩)), (25, .slice a22 p1.Nodes_.length c23), (26, .int .i64 (p1.Nodes_.length : Int)), (27, .int .i64 i134), (81, .bool (u317 || (e278.Depth_ != (IntKind.i64.wrap (e231.Depth_ - 1)))))]) ?_ ⟨rfl, rfl, rfl, rfl, rfl, rfl, rfl, rfl, trivial⟩)
                      · refine ow_nil ?_
                        refine x_qs ?_
                        refine c_if rfl (fun hb => ?_) (fun hb => ?_)
                        · have H := of_if_t hb H
                          refine c_seq ?_
                          refine c_reg ?_
                          refine ow_batch [.p] rfl ?_
                          refine ow_nil ?_
                          refine x_qs ?_
                          refine c_ret ?_
                          refine x_qb_ret ?_
                          refine x_qs_ret ?_
                          refine x_ql_ret ?_
                          refine x_qb_ret ?_
                          refine x_qs_ret ?_
                          exact x_retR (rs := [.tmp 4]) (vs := [.bool false]) rfl ⟨rfl, trivial⟩ (fun w' hw' => by
                              obtain rfl := of_some H
                              exact ⟨rfl, hw'.ext⟩)
                        · have H := of_if_f hb H
                          refine c_skip ?_
                          refine x_qb ?_
                          refine x_qs ?_
                          refine c_reg ?_
                          refine ow_batch [.p, .p] rfl ?_
                          refine ow_nil ?_
                          exact x_ql (RW.at (ihk1 (IntKind.i64.wrap (i134 + 1)) (H)) (fun _ h => St.sel [0, 1] rfl rfl h) ⟨rfl, rfl, rfl, rfl, rfl, trivial⟩)
                      · generalize (u317 || (e278.Depth_ != (IntKind.i64.wrap (e231.Depth_ - 1)))) = t325 at key ⊢
                        cases t325
                        · refine ow_batch [.fa 54 9 11 fa54_9] rfl ?_
                          refine ow_r rfl (dstOk_lt rfl) (ry_box1 (off := 11) rfl rfl ty3 (boxIn (i := 3) rfl) rfl) ?_
                          refine ow_batch [.fa 54 9 11 fa54_9] rfl ?_
                          refine ow_r rfl (dstOk_lt rfl) (ry_box1 (off := 11) rfl rfl ty3 (boxIn (i := 2) rfl) rfl) ?_
                          refine ow_batch [.p] rfl ?_
                          refine ow_batch [.p] rfl ?_
                          exact OW.sub key ⟨rfl, rfl, rfl, rfl, rfl, rfl, trivial⟩
                        · refine ow_batch [.p, .p, .p, .p, .p, .p] rfl ?_
                          exact OW.sub key ⟨rfl, rfl, rfl, rfl, rfl, rfl, trivial⟩
                    · generalize u317 = t323 at key ⊢
                      cases t323
                      · refine ow_batch [.fa 54 7 9 fa54_7] rfl ?_
                        refine ow_r rfl (dstOk_lt rfl) (ry_box1 (off := 9) rfl rfl ty3 (boxIn (i := 3) rfl) rfl) ?_
                        refine ow_batch [.fa 54 7 9 fa54_7] rfl ?_
                        refine ow_r rfl (dstOk_lt rfl) (ry_box1 (off := 9) rfl rfl ty3 (boxIn (i := 2) rfl) rfl) ?_
                        refine ow_batch [.p, .p] rfl ?_
                        refine ow_batch [.p] rfl ?_
                        exact OW.sub key ⟨rfl, rfl, rfl, rfl, rfl, rfl, rfl, rfl, trivial⟩
                      · refine ow_batch [.p, .p, .p, .p, .p, .p, .p] rfl ?_
                        exact OW.sub key ⟨rfl, rfl, rfl, rfl, rfl, rfl, rfl, rfl, trivial⟩
                  · clear H
                    have H := hu321
                    clear hu321
                    generalize e278.Leaf_ = t320 at H key ⊢
                    cases t320
                    · have H := of_if_f rfl H
                      refine ow_batch [.fa 54 2 3 fa54_2] rfl ?_
                      refine ow_r rfl (dstOk_lt rfl) (ry_box1 (off := 3) rfl rfl ty49 (boxIn (i := 3) rfl) rfl) ?_
                      refine ow_batch [.p] rfl ?_
                      obtain ⟨y318, h319, H⟩ := of_bind H
                      refine ow_q rfl rfl (dstOk_lt rfl) (qy_call rfl fn45 rfl (fun w1 hw1 => lib_slices_Contains___int_int__ok w1  h319 (rds_bor g296 w1 hw1))) (fun _ _ => trivial) ?_
                      refine ow_batch [.p] rfl ?_
                      refine ow_batch [.p] rfl ?_
                      obtain rfl := of_some H
                      exact OW.sub key ⟨rfl, rfl, rfl, rfl, rfl, rfl, rfl, rfl, trivial⟩
                    · have H := of_if_t rfl H
                      refine ow_batch [.p, .p, .p, .p, .p, .p] rfl ?_
                      obtain rfl := of_some H
                      exact OW.sub key ⟨rfl, rfl, rfl, rfl, rfl, rfl, rfl, rfl, trivial⟩
          · have H := of_if_f hb H
            refine c_exit ?_
            refine x_qs_exit ?_
            refine x_ql_exit ?_
            refine x_qb_here ?_
            refine x_qs ?_
            refine c_seq ?_
            refine c_reg ?_
            refine ow_batch [.p] rfl ?_
            refine ow_nil ?_
            refine x_qs ?_
            refine c_ret ?_
            exact x_retR (rs := [.tmp 4]) (vs := [.bool true]) rfl ⟨rfl, trivial⟩ (fun w' hw' => by
                obtain rfl := of_some H
                exact ⟨rfl, hw'.ext⟩)
    · clear H
      have H := hu37
      clear hu37
      generalize u28 = t36 at H key ⊢
      cases t36
      · have H := of_if_f rfl H
        refine ow_batch [.fa 38 1 1 fa38_1] rfl ?_
        refine ow_r rfl (dstOk_lt rfl) (ry_box1 (off := 1) rfl rfl ty3 (boxIn (i := 1) rfl) rfl) ?_
        obtain ⟨y34, h35, H⟩ := of_bind H
        refine ow_q rfl rfl (dstOk_lt rfl) (qy_call rfl fn43 rfl (fun w1 hw1 => impl_within_ok w1  h35)) (fun _ _ => trivial) ?_
        refine ow_batch [.p] rfl ?_
        refine ow_batch [.p] rfl ?_
        obtain rfl := of_some H
        exact OW.sub key ⟨rfl, rfl, rfl, trivial⟩
      · have H := of_if_t rfl H
        refine ow_batch [.p, .p, .p, .p, .p] rfl ?_
        obtain rfl := of_some H
        exact OW.sub key ⟨rfl, rfl, rfl, trivial⟩
  · clear H
    have H := hu32
    clear hu32
    generalize (!y26) = t31 at H key ⊢
    cases t31
    · have H := of_if_f rfl H
      refine ow_batch [.fa 38 0 0 fa38_0] rfl ?_
      refine ow_r rfl (dstOk_lt rfl) (ry_box1 (off := 0) rfl rfl ty36 (boxIn (i := 1) rfl) rfl) ?_
      refine ow_batch [.lenS 36 54 sl36] rfl ?_
      obtain ⟨y29, h30, H⟩ := of_bind H
      refine ow_q rfl rfl (dstOk_lt rfl) (qy_call rfl fn43 rfl (fun w1 hw1 => impl_within_ok w1  h30)) (fun _ _ => trivial) ?_
      refine ow_batch [.p] rfl ?_
      refine ow_batch [.p] rfl ?_
      obtain rfl := of_some H
      exact OW.sub key ⟨rfl, rfl, rfl, trivial⟩
    · have H := of_if_t rfl H
      refine ow_batch [.p, .p, .p, .p, .p, .p] rfl ?_
      obtain rfl := of_some H
      exact OW.sub key ⟨rfl, rfl, rfl, trivial⟩

set_option maxHeartbeats 4000000 in
set_option maxRecDepth 100000 in
theorem impl_Digits_ok (w : World) {p0 : Int}  {r : List UInt8} (H : impl_Digits p0 = some r)  (gT : (ePow10 Tryz.prog).rd w [] () []) :
    Calls Tryz.prog 23 #[.int .i64 p0] w (fun en w' => en = .returned (vS r) ∧ Ext [] w w') := by
  unfold impl_Digits at H
  refine f_enter (vs := [.int .i64 p0]) Tryz.func23 rfl Tryz.ntmps23 rfl (St.init w []) ?_
  refine c_seq ?_
  refine c_reg ?_
  refine ow_batch [.p] rfl ?_
  refine ow_nil ?_
  refine x_qs ?_
  refine c_seq ?_
  refine c_reg ?_
  refine ow_batch [.p] rfl ?_
  obtain ⟨s10, h11, H⟩ := of_bind H
  refine ow_q rfl rfl (dstOk_lt rfl) (qy_call rfl fn52 rfl (fun w1 hw1 => itoa_ok Tryz.laysM171 w1 h11 (rds_bor gT w1 hw1))) (fun _ _ => trivial) ?_
  refine ow_batch [.p] rfl ?_
  refine ow_nil ?_
  refine x_qs ?_
  refine c_ret ?_
  exact x_retR (rs := [.tmp 2]) (vs := [vS s10]) rfl ⟨rfl, trivial⟩ (fun w' hw' => by
      obtain rfl := of_some H
      exact ⟨rfl, hw'.ext⟩)

set_option maxHeartbeats 4000000 in
set_option maxRecDepth 100000 in
theorem impl_active_ok (w : World) {p0 : Timpl_Node} {cs0 : List Value} {r : Bool} (H : impl_active p0 = some r)  (g0 : (eTimpl_Node).rd w [] p0 cs0) :
    Calls Tryz.prog 54 #[.agg cs0.toArray] w (fun en w' => en = .returned (.bool r) ∧ Ext [] w w') := by
  obtain ⟨c10, c11, c12, c13, c14, c15, c16, c17, c18, c19, rfl, g20, g21, g22, g23, g24, g25, g26, g27, g28, g29⟩ := rdo_Timpl_Node g0
  obtain rfl : c10 = [.bool p0.Leaf_] := g20
  obtain rfl : c11 = [.int .i64 p0.Fork_.Attr_, .int .i64 p0.Fork_.At_] := g21
  obtain ⟨a30, c31, rfl⟩ := rd_sl1 g22
  obtain rfl : c13 = [.int .i64 p0.Miss_] := g23
  obtain ⟨c32, c33, rfl, g34, g35⟩ := rdo_Timpl_Stats g24
  obtain ⟨a36, c37, rfl⟩ := rd_sl1 g34
  obtain ⟨a38, c39, rfl⟩ := rd_sl1 g35
  obtain rfl : c15 = [.int .i64 p0.Since_] := g25
  obtain ⟨a40, c41, rfl⟩ := rd_sl1 g26
  obtain rfl : c17 = [.int .i64 p0.Depth_] := g27
  obtain rfl : c18 = [.int .i64 p0.Up_] := g28
  obtain rfl : c19 = [.int .i64 p0.Born_] := g29
  unfold impl_active at H
  refine f_enter (vs := [.agg #[.bool p0.Leaf_, .int .i64 p0.Fork_.Attr_, .int .i64 p0.Fork_.At_, .slice a30 p0.Kids_.length c31, .int .i64 p0.Miss_, .slice a36 p0.Stats_.Totals_.length c37, .slice a38 p0.Stats_.Cells_.length c39, .int .i64 p0.Since_, .slice a40 p0.Attrs_.length c41, .int .i64 p0.Depth_, .int .i64 p0.Up_, .int .i64 p0.Born_]]) Tryz.func54 rfl Tryz.ntmps54 rfl (St.init w []) ?_
  refine c_seq ?_
  refine c_reg ?_
  refine ow_box (cs := [.bool p0.Leaf_, .int .i64 p0.Fork_.Attr_, .int .i64 p0.Fork_.At_, .slice a30 p0.Kids_.length c31, .int .i64 p0.Miss_, .slice a36 p0.Stats_.Totals_.length c37, .slice a38 p0.Stats_.Cells_.length c39, .int .i64 p0.Since_, .slice a40 p0.Attrs_.length c41, .int .i64 p0.Depth_, .int .i64 p0.Up_, .int .i64 p0.Born_]) rfl rfl rfl rfl rfl rfl (fun _ => kp) (fun b42 => ?_)
  refine ow_batch [.p] rfl ?_
  refine ow_nil ?_
  refine x_qs ?_
  refine c_seq ?_
  refine c_reg ?_
  refine ow_batch [.fa 54 0 0 fa54_0] rfl ?_
  refine ow_r rfl (dstOk_lt rfl) (ry_box1 (off := 0) rfl rfl ty4 (boxIn (i := 0) rfl) rfl) ?_
  refine ow_batch [.p] rfl ?_
  refine ow_cut [(11, .bool (p0.Leaf_ && (decide ((p0.Stats_.Cells_.length : Int) > 0)))), (2, .bool false)] 6 ?_ (fun key => OW.sub (R := [(1, .pointer (some ⟨b42, 0, none⟩)), (2, .bool false), (5, .bool p0.Leaf_)]) ?_ ⟨rfl, rfl, rfl, trivial⟩)
  · refine ow_batch [.p] rfl ?_
    refine ow_nil ?_
    refine x_qs ?_
    refine c_ret ?_
    exact x_retR (rs := [.tmp 2]) (vs := [.bool (p0.Leaf_ && (decide ((p0.Stats_.Cells_.length : Int) > 0)))]) rfl ⟨rfl, trivial⟩ (fun w' hw' => by
        obtain rfl := of_some H
        exact ⟨rfl, hw'.ext⟩)
  · generalize p0.Leaf_ = t44 at key ⊢
    cases t44
    · refine ow_batch [.p, .p, .p, .p, .p, .p] rfl ?_
      exact OW.sub key ⟨rfl, rfl, trivial⟩
    · refine ow_batch [.fa 54 4 5 fa54_4, .fa 52 1 1 fa52_1] rfl ?_
      refine ow_r rfl (dstOk_lt rfl) (ry_box1 (off := 6) rfl rfl ty50 (boxIn (i := 0) rfl) rfl) ?_
      refine ow_batch [.lenS 50 49 sl50, .p] rfl ?_
      refine ow_batch [.p] rfl ?_
      exact OW.sub key ⟨rfl, rfl, trivial⟩

set_option maxHeartbeats 4000000 in
set_option maxRecDepth 100000 in
theorem impl_numbersText_ok (w : World) {p0 : List Int} {p1 : List UInt8} {a_0 : Option Addr} {n_0 c_0 : Nat} {r : List UInt8} (H : impl_numbersText p0 p1 = some r)  (g0 : (eList (eVal (Value.int .i64) (fun _ => rfl)) 3).rd w [] p0 [.slice a_0 n_0 c_0]) (gT : (ePow10 Tryz.prog).rd w [] () []) :
    Calls Tryz.prog 92 #[.slice a_0 n_0 c_0, vS p1] w (fun en w' => en = .returned (vS r) ∧ Ext [] w w') := by
  obtain rfl := rd_n g0
  unfold impl_numbersText at H
  refine f_enter (vs := [.slice a_0 p0.length c_0, vS p1]) Tryz.func92 rfl Tryz.ntmps92 rfl (St.init w []) ?_
  refine c_seq ?_
  refine c_reg ?_
  refine ow_batch [.p] rfl ?_
  refine ow_nil ?_
  refine x_qs ?_
  refine c_seq ?_
  refine c_reg ?_
  refine ow_blit0 (e := eStr) rfl rfl rfl rfl sl23 ty9 (fun _ => kp) (fun b10 => ?_)
  refine ow_batch [.p] rfl ?_
  refine ow_nil ?_
  refine x_qs ?_
  refine c_seq ?_
  refine c_seq ?_
  refine c_reg ?_
  refine ow_batch [.p, .lenS 49 3 sl49, .p] rfl ?_
  refine ow_nil ?_
  refine x_qs ?_
  refine c_block ?_
  refine CW.at (loopI5 (fun (i28 : Int) (l29 : List (List UInt8)) (a30 : Option Addr) (c31 : Nat) (F32 : List Nat) => St w [] [Res.own (eList (eStr) 9) F32 l29 [.slice a30 l29.length c31]]) (fun (i28 : Int) (l29 : List (List UInt8)) (a30 : Option Addr) (c31 : Nat) (F32 : List Nat) => [(1, vS p1), (5, .slice a30 l29.length c31), (9, .slice a_0 p0.length c_0), (10, .int .i64 (p0.length : Int)), (11, .int .i64 i28)]) (fun kk => fun (i28 : Int) (l29 : List (List UInt8)) (a30 : Option Addr) (c31 : Nat) (F32 : List Nat) => a30.isNone = false ∧ impl_numbersText_L1 p0 p1 kk i28 l29 = some r) (fun _ _ _ _ _ H => ?_) (fun k1 ihk1 i28 l29 a30 c31 F32 ⟨hz33, H⟩ => ?_) Fuel (0) (([] : List (List UInt8))) ((some ⟨b10, 0, none⟩)) (0) ([b10]) (⟨rfl, H⟩)) (fun _ h => St.sel [0] rfl rfl h) ⟨rfl, rfl, rfl, rfl, rfl,  trivial⟩
  · unfold impl_numbersText_L1 at H
    exact absurd H (by simp)
  · unfold impl_numbersText_L1 at H
    refine c_seq ?_
    refine c_reg ?_
    refine ow_batch [.p] rfl ?_
    refine ow_nil ?_
    refine x_qs ?_
    refine c_seq ?_
    refine c_if rfl (fun hb => ?_) (fun hb => ?_)
    · have H := of_if_t hb H
      refine c_skip ?_
      refine x_qs ?_
      refine c_seq ?_
      refine c_block ?_
      refine c_seq ?_
      refine c_reg ?_
      obtain ⟨e51, h52, H⟩ := of_bind H
      refine ow_ixE (e := eVal (Value.int .i64) (fun _ => rfl)) (xs := p0) (j := i28) rfl rfl rfl rfl rfl sl49 ty3 rfl (fun w1 hw1 => rds_bor g0 w1 hw1) h52 (by rw [Nat.mul_one]) ?_
      refine ow_r rfl (dstOk_lt rfl) (ry_load1 rfl rfl ty3 (at_elV (fun w1 hw1 => rds_bor g0 w1 hw1) h52)) ?_
      refine ow_batch [.p] rfl ?_
      refine ow_nil ?_
      refine x_qs ?_
      refine c_reg ?_
      refine ow_batch [.p, .p] rfl ?_
      obtain ⟨y53, h54, H⟩ := of_bind H
      refine ow_q rfl rfl (dstOk_lt rfl) (qy_call rfl fn23 rfl (fun w1 hw1 => impl_Digits_ok w1  h54 (rds_bor gT w1 hw1))) (fun _ _ => trivial) ?_
      refine ow_blit (val := vS) (h1 := fun _ => rfl) [y53] [(0, [vS y53])] rfl rfl rfl rfl rfl sl23 ty9 rfl rfl rfl ⟨rfl, rfl, Nat.le_of_ble_eq_true rfl,  trivial⟩ rfl rfl (fun _ => kp) (fun b55 => ?_)
      obtain ⟨l56, h57, H⟩ := of_bind H
      refine ow_appR (r := 0) (ys := ([y53] : List (List UInt8))) rfl rfl rfl rfl rfl rfl sl23 ty9 rfl rfl rfl (fun w1 hw1 => rds_own (e := eList (eStr) 9) (r := 1) rfl w1 hw1) h57 (fun _ _ _ => kp) (fun a58 c59 F60 => ?_)
      refine ow_fact rfl (fun w1 hw1 => own_nn (i := 0) hw1 rfl (app_ne h57)) (fun hz61 => ?_)
      refine ow_batch [.p] rfl ?_
      refine ow_nil ?_
      refine x_qb ?_
      refine x_qs ?_
      refine c_reg ?_
      refine ow_batch [.p, .p] rfl ?_
      refine ow_nil ?_
      exact x_ql (RW.at (ihk1 (IntKind.i64.wrap (i28 + 1)) (l56) (a58) (c59) (F60) (⟨hz61, H⟩)) (fun _ h => St.sel [0] rfl rfl h) ⟨rfl, rfl, rfl, rfl, rfl, trivial⟩)
    · have H := of_if_f hb H
      refine c_exit ?_
      refine x_qs_exit ?_
      refine x_ql_exit ?_
      refine x_qb_here ?_
      refine x_qs ?_
      refine c_seq ?_
      refine c_reg ?_
      refine ow_batch [.p, .p] rfl ?_
      obtain ⟨s62, h63, H⟩ := of_bind H
      refine ow_q rfl rfl (dstOk_lt rfl) (qy_call rfl fn55 rfl (fun w1 hw1 => join_ok (T := 9) Tryz.lays156 Tryz.Builder_Extra_156 w1 h63 (rds_own (e := eList (eStr) 9) (r := 0) rfl w1 hw1))) (fun _ _ => trivial) ?_
      refine ow_batch [.p] rfl ?_
      refine ow_nil ?_
      refine x_qs ?_
      refine c_ret ?_
      exact x_retR (rs := [.tmp 4]) (vs := [vS s62]) rfl ⟨rfl, trivial⟩ (fun w' hw' => by
          obtain rfl := of_some H
          exact ⟨rfl, hw'.ext⟩)

set_option maxHeartbeats 4000000 in
set_option maxRecDepth 100000 in
theorem impl_TotalsText_ok (w : World) {p0 : List Int} {a_0 : Option Addr} {n_0 c_0 : Nat} {r : List UInt8} (H : impl_TotalsText p0 = some r)  (g0 : (eList (eVal (Value.int .i64) (fun _ => rfl)) 3).rd w [] p0 [.slice a_0 n_0 c_0]) (gT : (ePow10 Tryz.prog).rd w [] () []) :
    Calls Tryz.prog 56 #[.slice a_0 n_0 c_0] w (fun en w' => en = .returned (vS r) ∧ Ext [] w w') := by
  obtain rfl := rd_n g0
  unfold impl_TotalsText at H
  refine f_enter (vs := [.slice a_0 p0.length c_0]) Tryz.func56 rfl Tryz.ntmps56 rfl (St.init w []) ?_
  refine c_seq ?_
  refine c_reg ?_
  refine ow_batch [.p] rfl ?_
  refine ow_nil ?_
  refine x_qs ?_
  refine c_seq ?_
  refine c_reg ?_
  refine ow_batch [.p] rfl ?_
  obtain ⟨y10, h11, H⟩ := of_bind H
  refine ow_q rfl rfl (dstOk_lt rfl) (qy_call rfl fn92 rfl (fun w1 hw1 => impl_numbersText_ok w1  h11 (rds_bor g0 w1 hw1) (rds_bor gT w1 hw1))) (fun _ _ => trivial) ?_
  refine ow_batch [.p] rfl ?_
  refine ow_nil ?_
  refine x_qs ?_
  refine c_ret ?_
  exact x_retR (rs := [.tmp 2]) (vs := [vS y10]) rfl ⟨rfl, trivial⟩ (fun w' hw' => by
      obtain rfl := of_some H
      exact ⟨rfl, hw'.ext⟩)

set_option maxHeartbeats 4000000 in
set_option maxRecDepth 100000 in
theorem lib_slices_Max___int_int__ok (w : World) {p0 : List Int} {a_0 : Option Addr} {n_0 c_0 : Nat} {r : Int} (H : lib_slices_Max___int_int_ p0 = some r)  (g0 : (eList (eVal (Value.int .i64) (fun _ => rfl)) 3).rd w [] p0 [.slice a_0 n_0 c_0]) :
    Calls Tryz.prog 93 #[.slice a_0 n_0 c_0] w (fun en w' => en = .returned (.int .i64 r) ∧ Ext [] w w') := by
  obtain rfl := rd_n g0
  unfold lib_slices_Max___int_int_ at H
  refine f_enter (vs := [.slice a_0 p0.length c_0]) Tryz.func93 rfl Tryz.ntmps93 rfl (St.init w []) ?_
  refine c_seq ?_
  refine c_reg ?_
  refine ow_batch [.p] rfl ?_
  refine ow_nil ?_
  refine x_qs ?_
  refine c_seq ?_
  refine c_seq ?_
  refine c_reg ?_
  refine ow_batch [.p, .lenS 49 3 sl49, .p] rfl ?_
  refine ow_nil ?_
  refine x_qs ?_
  refine c_if rfl (fun hb => ?_) (fun hb => ?_)
  · have H := of_if_t hb H
    exact nomatch H
  · have H := of_if_f hb H
    refine c_skip ?_
    refine x_qs ?_
    refine c_seq ?_
    refine c_reg ?_
    refine ow_batch [.p] rfl ?_
    obtain ⟨e10, h11, H⟩ := of_bind H
    refine ow_ixE (e := eVal (Value.int .i64) (fun _ => rfl)) (xs := p0) (j := 0) rfl rfl rfl rfl rfl sl49 ty3 rfl (fun w1 hw1 => rds_bor g0 w1 hw1) h11 (by rw [Nat.mul_one]) ?_
    refine ow_r rfl (dstOk_lt rfl) (ry_load1 rfl rfl ty3 (at_elV (fun w1 hw1 => rds_bor g0 w1 hw1) h11)) ?_
    refine ow_batch [.p] rfl ?_
    refine ow_nil ?_
    refine x_qs ?_
    refine c_seq ?_
    refine c_seq ?_
    refine c_reg ?_
    refine ow_batch [.p] rfl ?_
    refine ow_nil ?_
    refine x_qs ?_
    refine c_block ?_
    refine CW.at (loopI2 (fun (i17 : Int) (i18 : Int) => St w [] []) (fun (i17 : Int) (i18 : Int) => [(0, .slice a_0 p0.length c_0), (3, .int .i64 i17), (4, .int .i64 i18)]) (fun kk => fun (i17 : Int) (i18 : Int) => lib_slices_Max___int_int__L1 p0 kk i17 i18 = some r) (fun _ _ H => ?_) (fun k1 ihk1 i17 i18 H => ?_) Fuel (e10) (1) (H)) (fun _ h => St.sel [] rfl rfl h) ⟨rfl, rfl, rfl,  trivial⟩
    · unfold lib_slices_Max___int_int__L1 at H
      exact absurd H (by simp)
    · unfold lib_slices_Max___int_int__L1 at H
      refine c_seq ?_
      refine c_seq ?_
      refine c_reg ?_
      refine ow_batch [.p, .p, .lenS 49 3 sl49, .p] rfl ?_
      refine ow_nil ?_
      refine x_qs ?_
      refine c_if rfl (fun hb => ?_) (fun hb => ?_)
      · have H := of_if_t hb H
        refine c_skip ?_
        refine x_qs ?_
        refine c_seq ?_
        refine c_block ?_
        refine c_reg ?_
        refine ow_batch [.p, .p, .p] rfl ?_
        obtain ⟨e23, h24, H⟩ := of_bind H
        refine ow_ixE (e := eVal (Value.int .i64) (fun _ => rfl)) (xs := p0) (j := i18) rfl rfl rfl rfl rfl sl49 ty3 rfl (fun w1 hw1 => rds_bor g0 w1 hw1) h24 (by rw [Nat.mul_one]) ?_
        refine ow_r rfl (dstOk_lt rfl) (ry_load1 rfl rfl ty3 (at_elV (fun w1 hw1 => rds_bor g0 w1 hw1) h24)) ?_
        refine ow_r rfl (dstOk_lt rfl) (ry_max rfl rfl rfl) ?_
        refine ow_batch [.p] rfl ?_
        refine ow_nil ?_
        refine x_qb ?_
        refine x_qs ?_
        refine c_reg ?_
        refine ow_batch [.p, .p, .p] rfl ?_
        refine ow_nil ?_
        exact x_ql (RW.at (ihk1 ((if i17 < e23 then e23 else i17)) (IntKind.i64.wrap (i18 + 1)) (H)) (fun _ h => St.sel [] rfl rfl h) ⟨rfl, rfl, rfl, trivial⟩)
      · have H := of_if_f hb H
        refine c_exit ?_
        refine x_qs_exit ?_
        refine x_ql_exit ?_
        refine x_qb_here ?_
        refine x_qs ?_
        refine c_seq ?_
        refine c_reg ?_
        refine ow_batch [.p, .p] rfl ?_
        refine ow_nil ?_
        refine x_qs ?_
        refine c_ret ?_
        exact x_retR (rs := [.tmp 2]) (vs := [.int .i64 i17]) rfl ⟨rfl, trivial⟩ (fun w' hw' => by
            obtain rfl := of_some H
            exact ⟨rfl, hw'.ext⟩)

set_option maxHeartbeats 4000000 in
set_option maxRecDepth 100000 in
theorem impl_TopOf_ok (w : World) {p0 : List Int} {a_0 : Option Addr} {n_0 c_0 : Nat} {r : Int} (H : impl_TopOf p0 = some r)  (g0 : (eList (eVal (Value.int .i64) (fun _ => rfl)) 3).rd w [] p0 [.slice a_0 n_0 c_0]) :
    Calls Tryz.prog 57 #[.slice a_0 n_0 c_0] w (fun en w' => en = .returned (.int .i64 r) ∧ Ext [] w w') := by
  obtain rfl := rd_n g0
  unfold impl_TopOf at H
  refine f_enter (vs := [.slice a_0 p0.length c_0]) Tryz.func57 rfl Tryz.ntmps57 rfl (St.init w []) ?_
  refine c_seq ?_
  refine c_reg ?_
  refine ow_batch [.p] rfl ?_
  refine ow_nil ?_
  refine x_qs ?_
  refine c_seq ?_
  refine c_seq ?_
  refine c_reg ?_
  refine ow_batch [.p, .lenS 49 3 sl49, .p] rfl ?_
  refine ow_nil ?_
  refine x_qs ?_
  refine c_if rfl (fun hb => ?_) (fun hb => ?_)
  · have H := of_if_t hb H
    refine c_seq ?_
    refine c_reg ?_
    refine ow_batch [.p] rfl ?_
    refine ow_nil ?_
    refine x_qs ?_
    refine c_ret ?_
    refine x_qs_ret ?_
    exact x_retR (rs := [.tmp 2]) (vs := [.int .i64 (-1)]) rfl ⟨rfl, trivial⟩ (fun w' hw' => by
        obtain rfl := of_some H
        exact ⟨rfl, hw'.ext⟩)
  · have H := of_if_f hb H
    refine c_skip ?_
    refine x_qs ?_
    refine c_seq ?_
    refine c_reg ?_
    refine ow_batch [.p, .p] rfl ?_
    obtain ⟨y10, h11, H⟩ := of_bind H
    refine ow_q rfl rfl (dstOk_lt rfl) (qy_call rfl fn93 rfl (fun w1 hw1 => lib_slices_Max___int_int__ok w1  h11 (rds_bor g0 w1 hw1))) (fun _ _ => trivial) ?_
    obtain ⟨y12, h13, H⟩ := of_bind H
    refine ow_q rfl rfl (dstOk_lt rfl) (qy_call rfl fn82 rfl (fun w1 hw1 => lib_slices_Index___int_int__ok w1  h13 (rds_bor g0 w1 hw1))) (fun _ _ => trivial) ?_
    refine ow_batch [.p] rfl ?_
    refine ow_nil ?_
    refine x_qs ?_
    refine c_ret ?_
    exact x_retR (rs := [.tmp 2]) (vs := [.int .i64 y12]) rfl ⟨rfl, trivial⟩ (fun w' hw' => by
        obtain rfl := of_some H
        exact ⟨rfl, hw'.ext⟩)

set_option maxHeartbeats 4000000 in
set_option maxRecDepth 100000 in
theorem lib_slices_Clone___string_string__ok (w : World) {M0 : List Nat} {p0 : List (List UInt8)} {a_0 : Option Addr} {n_0 c_0 : Nat} {r : List (List UInt8)} (H : lib_slices_Clone___string_string_ p0 = some r) (HS : St w M0 [] w) (g0 : (eList (eStr) 9).rd w M0 p0 [.slice a_0 n_0 c_0]) :
    Calls Tryz.prog 94 #[.slice a_0 n_0 c_0] w (fun en w' => ∃ v, en = .returned v ∧ ∃ (a0 : Option Addr), ∃ (n0 : Nat), ∃ (c0 : Nat), ∃ (F0 : List Nat), v = .slice a0 n0 c0 ∧ St w M0 [Res.own (eList (eStr) 9) F0 r [.slice a0 n0 c0]] w') := by
  obtain rfl := rd_n g0
  unfold lib_slices_Clone___string_string_ at H
  refine f_enter (vs := [.slice a_0 p0.length c_0]) Tryz.func94 rfl Tryz.ntmps94 rfl (HS) ?_
  refine c_seq ?_
  refine c_reg ?_
  refine ow_batch [.p] rfl ?_
  refine ow_nil ?_
  refine x_qs ?_
  refine c_seq ?_
  refine c_seq ?_
  refine c_reg ?_
  refine ow_batch [.p] rfl ?_
  refine ow_r rfl (dstOk_lt rfl) (ry_nilB rfl rfl sl23 rfl) ?_
  refine ow_nil ?_
  refine x_qs ?_
  refine c_if rfl (fun hb => ?_) (fun _ => ?_)
  · obtain rfl : p0 = [] := rd_isNone g0 hb
    have H : some ([] : List (List UInt8)) = some r := by simpa [app] using H
    refine c_seq ?_
    refine c_reg ?_
    refine ow_batch [.p] rfl ?_
    refine ow_nil ?_
    refine x_qs ?_
    refine c_ret ?_
    refine x_qs_ret ?_
    refine xw_st (fun _ h => St.pushNil (e := eStr) (T := 9) h) ?_
    exact x_retR (rs := [.tmp 2]) (vs := [.slice none 0 0]) rfl ⟨rfl, trivial⟩ (fun w' hw' => by
        obtain rfl := of_some H
        exact ⟨_, rfl, none, 0, 0, [], rfl, hw'.sel [0] rfl rfl⟩)
  · refine c_skip ?_
    refine x_qs ?_
    refine c_seq ?_
    refine c_reg ?_
    refine ow_blit0 (e := eStr) rfl rfl rfl rfl sl23 ty9 (fun _ => kp) (fun b10 => ?_)
    refine ow_batch [.p] rfl ?_
    obtain ⟨l11, h12, H⟩ := of_bind H
    refine ow_appR (r := 0) (ys := p0) rfl rfl rfl rfl rfl rfl sl23 ty9 rfl rfl rfl (fun w1 hw1 => rds_bor g0 w1 hw1) h12 (fun _ _ _ => kp) (fun a13 c14 F15 => ?_)
    refine ow_batch [.p] rfl ?_
    refine ow_nil ?_
    refine x_qs ?_
    refine c_ret ?_
    exact x_retR (rs := [.tmp 2]) (vs := [.slice a13 l11.length c14]) rfl ⟨rfl, trivial⟩ (fun w' hw' => by
        obtain rfl := of_some H
        exact ⟨_, rfl, a13, l11.length, c14, F15, rfl, hw'.sel [0] rfl rfl⟩)

set_option maxHeartbeats 4000000 in
set_option maxRecDepth 100000 in
theorem impl_ForkText_ok (w : World) {p0 : Timpl_Schema} {p1 : Timpl_Fork} {cs0 : List Value} {r : List UInt8} (H : impl_ForkText p0 p1 = some r)  (g0 : (eTimpl_Schema).rd w [] p0 cs0) (gT : (ePow10 Tryz.prog).rd w [] () []) :
    Calls Tryz.prog 59 #[.agg cs0.toArray, .agg #[.int .i64 p1.Attr_, .int .i64 p1.At_]] w (fun en w' => en = .returned (vS r) ∧ Ext [] w w') := by
  obtain ⟨c10, c11, rfl, g12, g13⟩ := rdo_Timpl_Schema g0
  obtain ⟨a14, c15, rfl⟩ := rd_sl1 g12
  obtain ⟨a16, c17, rfl⟩ := rd_sl1 g13
  unfold impl_ForkText at H
  refine f_enter (vs := [.agg #[.slice a14 p0.Attrs_.length c15, .slice a16 p0.Classes_.length c17], .agg #[.int .i64 p1.Attr_, .int .i64 p1.At_]]) Tryz.func59 rfl Tryz.ntmps59 rfl (St.init w []) ?_
  refine c_seq ?_
  refine c_reg ?_
  refine ow_box (cs := [.slice a14 p0.Attrs_.length c15, .slice a16 p0.Classes_.length c17]) rfl rfl rfl rfl rfl rfl (fun _ => kp) (fun b18 => ?_)
  refine ow_box (cs := [.int .i64 p1.Attr_, .int .i64 p1.At_]) rfl rfl rfl rfl rfl rfl (fun _ => kp) (fun b19 => ?_)
  refine ow_batch [.p] rfl ?_
  refine ow_nil ?_
  refine x_qs ?_
  refine c_seq ?_
  refine c_seq ?_
  refine c_reg ?_
  refine ow_r rfl (dstOk_lt rfl) (ry_box (off := 0) (ds := [.slice a14 p0.Attrs_.length c15, .slice a16 p0.Classes_.length c17]) rfl rfl ty34 (boxIn (i := 0) rfl) rfl rfl) ?_
  refine ow_r rfl (dstOk_lt rfl) (ry_box (off := 0) (ds := [.int .i64 p1.Attr_, .int .i64 p1.At_]) rfl rfl ty48 (boxIn (i := 1) rfl) rfl rfl) ?_
  obtain ⟨y20, h21, H⟩ := of_bind H
  refine ow_q rfl rfl (dstOk_lt rfl) (qy_call rfl fn58 rfl (fun w1 hw1 => impl_ForkOk_ok w1 (p1 := p1) (cs0 := [.slice a14 p0.Attrs_.length c15, .slice a16 p0.Classes_.length c17]) h21 (rdm_Timpl_Schema (x := p0) (c0 := [.slice a14 p0.Attrs_.length c15]) (c1 := [.slice a16 p0.Classes_.length c17]) (rds_bor g12 w1 hw1) (rds_bor g13 w1 hw1)))) (fun _ _ => trivial) ?_
  refine ow_batch [.p] rfl ?_
  refine ow_nil ?_
  refine x_qs ?_
  refine c_if rfl (fun hb => ?_) (fun hb => ?_)
  · have H := of_if_t hb H
    refine c_seq ?_
    refine c_reg ?_
    refine ow_batch [.p] rfl ?_
    refine ow_nil ?_
    refine x_qs ?_
    refine c_ret ?_
    refine x_qs_ret ?_
    exact x_retR (rs := [.tmp 4]) (vs := [vS ([] : List UInt8)]) rfl ⟨rfl, trivial⟩ (fun w' hw' => by
        obtain rfl := of_some H
        exact ⟨rfl, hw'.ext⟩)
  · have H := of_if_f hb H
    refine c_skip ?_
    refine x_qs ?_
    refine c_seq ?_
    refine c_reg ?_
    refine ow_batch [.fa 34 0 0 fa34_0] rfl ?_
    refine ow_r rfl (dstOk_lt rfl) (ry_box1 (off := 0) rfl rfl ty32 (boxIn (i := 0) rfl) rfl) ?_
    refine ow_batch [.fa 48 0 0 fa48_0] rfl ?_
    refine ow_r rfl (dstOk_lt rfl) (ry_box1 (off := 0) rfl rfl ty3 (boxIn (i := 1) rfl) rfl) ?_
    obtain ⟨e22, h23, H⟩ := of_bind H
    refine ow_ixB rfl rfl rfl rfl rfl sl32 ty83 rfl g12 h23 (fun q26 c27 hd24 hA25 => ?_)
    obtain ⟨c28, c29, c30, rfl, g31, g32, g33⟩ := rdo_Timpl_Attr hd24
    obtain rfl : c28 = [vS e22.Name_] := g31
    obtain ⟨a34, c35, rfl⟩ := rd_sl1 g32
    obtain ⟨a36, c37, rfl⟩ := rd_sl1 g33
    refine ow_r rfl (dstOk_lt rfl) (ry_load (cs := [vS e22.Name_, .slice a34 e22.Cuts_.length c35, .slice a36 e22.Values_.length c37]) rfl rfl ty83 (at_bor bor hA25) rfl) ?_
    refine ow_alloc rfl rfl rfl rfl ty83 (fun _ => kp) (fun b38 => ?_)
    refine ow_storeC (off := 0) [vS e22.Name_, .slice a34 e22.Cuts_.length c35, .slice a36 e22.Values_.length c37] [_, _, _] (i := 2) rfl rfl rfl rfl rfl rfl ty83 rfl rfl (by intro u hu; simp only [List.mem_cons, List.not_mem_nil, or_false] at hu; rcases hu with rfl | rfl | rfl <;> rfl) rfl rfl rfl kp ?_
    refine ow_nil ?_
    refine x_qs ?_
    refine c_seq ?_
    refine c_block ?_
    refine c_seq ?_
    refine c_reg ?_
    refine ow_batch [.fa 48 1 1 fa48_1] rfl ?_
    refine ow_r rfl (dstOk_lt rfl) (ry_box1 (off := 1) rfl rfl ty3 (boxIn (i := 1) rfl) rfl) ?_
    refine ow_batch [.p, .p] rfl ?_
    refine ow_nil ?_
    refine x_qs ?_
    refine c_if rfl (fun hb => ?_) (fun hb => ?_)
    · have H := of_if_t hb H
      refine c_seq ?_
      refine c_reg ?_
      refine ow_batch [.fa 83 0 0 fa83_0] rfl ?_
      refine ow_r rfl (dstOk_lt rfl) (ry_box1 (off := 0) rfl rfl ty9 (boxIn (i := 2) rfl) rfl) ?_
      obtain ⟨s39, h40, H⟩ := of_bind H
      refine ow_r rfl (dstOk_lt rfl) (ry_sadd rfl rfl rfl h40) ?_
      refine ow_batch [.p] rfl ?_
      refine ow_nil ?_
      refine x_qs ?_
      refine c_ret ?_
      refine x_qb_ret ?_
      refine x_qs_ret ?_
      exact x_retR (rs := [.tmp 4]) (vs := [vS s39]) rfl ⟨rfl, trivial⟩ (fun w' hw' => by
          obtain rfl := of_some H
          exact ⟨rfl, hw'.ext⟩)
    · have H := of_if_f hb H
      refine c_seq ?_
      refine c_reg ?_
      refine ow_batch [.fa 83 1 1 fa83_1] rfl ?_
      refine ow_r rfl (dstOk_lt rfl) (ry_box1 (off := 1) rfl rfl ty49 (boxIn (i := 2) rfl) rfl) ?_
      refine ow_batch [.lenS 49 3 sl49, .p, .p] rfl ?_
      refine ow_nil ?_
      refine x_qs ?_
      refine c_if rfl (fun hb => ?_) (fun hb => ?_)
      · have H := of_if_t hb H
        refine c_seq ?_
        refine c_regQ mixed (by kernel_rfl) ?_
        refine ow_batch [.fa 83 0 0 fa83_0] rfl ?_
        refine ow_r rfl (dstOk_lt rfl) (ry_box1 (off := 0) rfl rfl ty9 (boxIn (i := 2) rfl) rfl) ?_
        obtain ⟨s41, h42, H⟩ := of_bind H
        refine ow_r rfl (dstOk_lt rfl) (ry_sadd rfl rfl rfl h42) ?_
        refine ow_batch [.fa 83 1 1 fa83_1] rfl ?_
        refine ow_r rfl (dstOk_lt rfl) (ry_box1 (off := 1) rfl rfl ty49 (boxIn (i := 2) rfl) rfl) ?_
        refine ow_batch [.fa 48 1 1 fa48_1] rfl ?_
        refine ow_r rfl (dstOk_lt rfl) (ry_box1 (off := 1) rfl rfl ty3 (boxIn (i := 1) rfl) rfl) ?_
        obtain ⟨e43, h44, H⟩ := of_bind H
        refine ow_ixE (e := eVal (Value.int .i64) (fun _ => rfl)) (xs := e22.Cuts_) (j := p1.At_) rfl rfl rfl rfl rfl sl49 ty3 rfl (fun w1 hw1 => rds_bor g32 w1 hw1) h44 (by rw [Nat.mul_one]) ?_
        refine ow_r rfl (dstOk_lt rfl) (ry_load1 rfl rfl ty3 (at_elV (fun w1 hw1 => rds_bor g32 w1 hw1) h44)) ?_
        obtain ⟨y45, h46, H⟩ := of_bind H
        refine ow_q rfl rfl (dstOk_lt rfl) (qy_call rfl fn23 rfl (fun w1 hw1 => impl_Digits_ok w1  h46 (rds_bor gT w1 hw1))) (fun _ _ => trivial) ?_
        obtain ⟨s47, h48, H⟩ := of_bind H
        refine ow_r rfl (dstOk_lt rfl) (ry_sadd rfl rfl rfl h48) ?_
        refine ow_batch [.p] rfl ?_
        refine ow_nilQ ?_
        refine x_qs ?_
        refine c_ret ?_
        refine x_qb_ret ?_
        refine x_qs_ret ?_
        exact x_retR (rs := [.tmp 4]) (vs := [vS s47]) rfl ⟨rfl, trivial⟩ (fun w' hw' => by
            obtain rfl := of_some H
            exact ⟨rfl, hw'.ext⟩)
      · have H := of_if_f hb H
        refine c_skip ?_
        refine x_qb ?_
        refine x_qs ?_
        refine c_seq ?_
        obtain ⟨s62, h63, H⟩ := of_bind H
        obtain ⟨y64, h65, H⟩ := of_bind H
        obtain ⟨e73, h74, H⟩ := of_bind H
        refine c_regB 10 [(0, true), (1, true), (2, true), (3, true), (4, true), (6, true), (7, true), (5, false), (8, false), (9, false)] Br.done (St w [] [Res.box b18 34 [.slice a14 p0.Attrs_.length c15, .slice a16 p0.Classes_.length c17], Res.box b19 48 [.int .i64 p1.Attr_, .int .i64 p1.At_], Res.box b38 83 [vS e22.Name_, .slice a34 e22.Cuts_.length c35, .slice a36 e22.Values_.length c37]]) mixed (by kernel_rfl) (panicOk_qs panicOk_body) (fun _ h => St.mask [true, true, true] rfl h) ?_
        refine ow_batch [.fa 83 0 0 fa83_0] rfl ?_
        refine ow_rH rfl (dstOk_lt rfl) (ry_box1 (off := 0) rfl rfl ty9 (boxIn (i := 2) rfl) rfl) ?_
        refine ow_rH rfl (dstOk_lt rfl) (ry_sadd rfl rfl rfl h63) ?_
        refine ow_batch [.fa 83 2 2 fa83_2] rfl ?_
        refine ow_rH rfl (dstOk_lt rfl) (ry_box1 (off := 2) rfl rfl ty23 (boxIn (i := 2) rfl) rfl) ?_
        refine ow_batch [.fa 48 1 1 fa48_1] rfl ?_
        refine ow_rH rfl (dstOk_lt rfl) (ry_box1 (off := 1) rfl rfl ty3 (boxIn (i := 1) rfl) rfl) ?_
        refine ow_callS rfl fn94 rfl rfl rfl rfl (fun w1 hw1 => lib_slices_Clone___string_string__ok w1  h65 (hw1.carve [] rfl rfl) (rds_bor g33 w1 hw1)) (fun v66 w1 w2 hw1 hR68 => ?_)
        obtain ⟨a69, n70, c71, F72, rfl, hS67⟩ := hR68
        obtain rfl := own_nS (i := 0) hS67 rfl
        refine ⟨St w [] [_, _, _, _], hw1.comp [] rfl rfl hS67, (fun _ h => St.mask [true, true, true] rfl h), ?_⟩
        refine ow_ixEL (e := eStr) (xs := y64) (j := p1.At_) rfl rfl rfl rfl rfl rfl sl23 ty9 rfl (fun w1 hw1 => rds_own (e := eList (eStr) 9) (r := 3) rfl w1 hw1) h74 (by rw [Nat.mul_one]) ?_
        refine ow_rL rfl rfl (dstOk_lt rfl) (ry_load1 rfl rfl ty9 (at_elV (fun w1 hw1 => rds_own (e := eList (eStr) 9) (r := 3) rfl w1 hw1) h74)) ?_
        refine ow_nilH ?_
        refine x_done ?_
        obtain ⟨s75, h76, H⟩ := of_bind H
        refine ow_r rfl (dstOk_lt rfl) (ry_sadd rfl rfl rfl h76) ?_
        refine ow_batch [.p] rfl ?_
        refine ow_nil ?_
        refine x_qs ?_
        refine c_ret ?_
        exact x_retR (rs := [.tmp 4]) (vs := [vS s75]) rfl ⟨rfl, trivial⟩ (fun w' hw' => by
            obtain rfl := of_some H
            exact ⟨rfl, hw'.ext⟩)

set_option maxHeartbeats 4000000 in
set_option maxRecDepth 100000 in
theorem impl_NodeText_ok (w : World) {p0 : Timpl_Schema} {p1 : Timpl_Node} {cs0 : List Value} {cs1 : List Value} {r : List UInt8} (H : impl_NodeText p0 p1 = some r)  (g0 : (eTimpl_Schema).rd w [] p0 cs0) (g1 : (eTimpl_Node).rd w [] p1 cs1) (gT : (ePow10 Tryz.prog).rd w [] () []) :
    Calls Tryz.prog 24 #[.agg cs0.toArray, .agg cs1.toArray] w (fun en w' => en = .returned (vS r) ∧ Ext [] w w') := by
  obtain ⟨c10, c11, rfl, g12, g13⟩ := rdo_Timpl_Schema g0
  obtain ⟨a14, c15, rfl⟩ := rd_sl1 g12
  obtain ⟨a16, c17, rfl⟩ := rd_sl1 g13
  obtain ⟨c18, c19, c20, c21, c22, c23, c24, c25, c26, c27, rfl, g28, g29, g30, g31, g32, g33, g34, g35, g36, g37⟩ := rdo_Timpl_Node g1
  obtain rfl : c18 = [.bool p1.Leaf_] := g28
  obtain rfl : c19 = [.int .i64 p1.Fork_.Attr_, .int .i64 p1.Fork_.At_] := g29
  obtain ⟨a38, c39, rfl⟩ := rd_sl1 g30
  obtain rfl : c21 = [.int .i64 p1.Miss_] := g31
  obtain ⟨c40, c41, rfl, g42, g43⟩ := rdo_Timpl_Stats g32
  obtain ⟨a44, c45, rfl⟩ := rd_sl1 g42
  obtain ⟨a46, c47, rfl⟩ := rd_sl1 g43
  obtain rfl : c23 = [.int .i64 p1.Since_] := g33
  obtain ⟨a48, c49, rfl⟩ := rd_sl1 g34
  obtain rfl : c25 = [.int .i64 p1.Depth_] := g35
  obtain rfl : c26 = [.int .i64 p1.Up_] := g36
  obtain rfl : c27 = [.int .i64 p1.Born_] := g37
  unfold impl_NodeText at H
  refine f_enter (vs := [.agg #[.slice a14 p0.Attrs_.length c15, .slice a16 p0.Classes_.length c17], .agg #[.bool p1.Leaf_, .int .i64 p1.Fork_.Attr_, .int .i64 p1.Fork_.At_, .slice a38 p1.Kids_.length c39, .int .i64 p1.Miss_, .slice a44 p1.Stats_.Totals_.length c45, .slice a46 p1.Stats_.Cells_.length c47, .int .i64 p1.Since_, .slice a48 p1.Attrs_.length c49, .int .i64 p1.Depth_, .int .i64 p1.Up_, .int .i64 p1.Born_]]) Tryz.func24 rfl Tryz.ntmps24 rfl (St.init w []) ?_
  refine c_seq ?_
  refine c_reg ?_
  refine ow_box (cs := [.slice a14 p0.Attrs_.length c15, .slice a16 p0.Classes_.length c17]) rfl rfl rfl rfl rfl rfl (fun _ => kp) (fun b50 => ?_)
  refine ow_box (cs := [.bool p1.Leaf_, .int .i64 p1.Fork_.Attr_, .int .i64 p1.Fork_.At_, .slice a38 p1.Kids_.length c39, .int .i64 p1.Miss_, .slice a44 p1.Stats_.Totals_.length c45, .slice a46 p1.Stats_.Cells_.length c47, .int .i64 p1.Since_, .slice a48 p1.Attrs_.length c49, .int .i64 p1.Depth_, .int .i64 p1.Up_, .int .i64 p1.Born_]) rfl rfl rfl rfl rfl rfl (fun _ => kp) (fun b51 => ?_)
  refine ow_batch [.p] rfl ?_
  refine ow_nil ?_
  refine x_qs ?_
  refine c_seq ?_
  refine c_seq ?_
  refine c_reg ?_
  refine ow_batch [.fa 54 0 0 fa54_0] rfl ?_
  refine ow_r rfl (dstOk_lt rfl) (ry_box1 (off := 0) rfl rfl ty4 (boxIn (i := 1) rfl) rfl) ?_
  refine ow_nil ?_
  refine x_qs ?_
  refine c_if rfl (fun hb => ?_) (fun hb => ?_)
  · have H := of_if_t hb H
    refine c_seq ?_
    refine c_seq ?_
    refine c_reg ?_
    refine ow_r rfl (dstOk_lt rfl) (ry_box (off := 0) (ds := [.slice a14 p0.Attrs_.length c15, .slice a16 p0.Classes_.length c17]) rfl rfl ty34 (boxIn (i := 0) rfl) rfl rfl) ?_
    refine ow_batch [.fa 54 4 5 fa54_4] rfl ?_
    refine ow_r rfl (dstOk_lt rfl) (ry_box (off := 5) (ds := [.slice a44 p1.Stats_.Totals_.length c45, .slice a46 p1.Stats_.Cells_.length c47]) rfl rfl ty52 (boxIn (i := 1) rfl) rfl rfl) ?_
    obtain ⟨y52, h53, H⟩ := of_bind H
    refine ow_q rfl rfl (dstOk_lt rfl) (qy_call rfl fn53 rfl (fun w1 hw1 => impl_StatsOk_ok w1 (cs0 := [.slice a14 p0.Attrs_.length c15, .slice a16 p0.Classes_.length c17]) (cs1 := [.slice a44 p1.Stats_.Totals_.length c45, .slice a46 p1.Stats_.Cells_.length c47]) h53 (rdm_Timpl_Schema (x := p0) (c0 := [.slice a14 p0.Attrs_.length c15]) (c1 := [.slice a16 p0.Classes_.length c17]) (rds_bor g12 w1 hw1) (rds_bor g13 w1 hw1)) (rdm_Timpl_Stats (x := p1.Stats_) (c0 := [.slice a44 p1.Stats_.Totals_.length c45]) (c1 := [.slice a46 p1.Stats_.Cells_.length c47]) (rds_bor g42 w1 hw1) (rds_bor g43 w1 hw1)))) (fun _ _ => trivial) ?_
    refine ow_batch [.p] rfl ?_
    refine ow_nil ?_
    refine x_qs ?_
    refine c_if rfl (fun hb => ?_) (fun hb => ?_)
    · have H := of_if_t hb H
      refine c_seq ?_
      refine c_reg ?_
      refine ow_batch [.p] rfl ?_
      refine ow_nil ?_
      refine x_qs ?_
      refine c_ret ?_
      refine x_qs_ret ?_
      refine x_qs_ret ?_
      exact x_retR (rs := [.tmp 4]) (vs := [vS ([] : List UInt8)]) rfl ⟨rfl, trivial⟩ (fun w' hw' => by
          obtain rfl := of_some H
          exact ⟨rfl, hw'.ext⟩)
    · have H := of_if_f hb H
      refine c_skip ?_
      refine x_qs ?_
      refine c_seq ?_
      refine c_reg ?_
      refine ow_batch [.p] rfl ?_
      refine ow_nil ?_
      refine x_qs ?_
      refine c_join1 (fun (s56 : List UInt8) => St w [] [Res.box b50 34 [.slice a14 p0.Attrs_.length c15, .slice a16 p0.Classes_.length c17], Res.box b51 54 [.bool p1.Leaf_, .int .i64 p1.Fork_.Attr_, .int .i64 p1.Fork_.At_, .slice a38 p1.Kids_.length c39, .int .i64 p1.Miss_, .slice a44 p1.Stats_.Totals_.length c45, .slice a46 p1.Stats_.Cells_.length c47, .int .i64 p1.Since_, .slice a48 p1.Attrs_.length c49, .int .i64 p1.Depth_, .int .i64 p1.Up_, .int .i64 p1.Born_]]) (fun (s56 : List UInt8) => [(2, .pointer (some ⟨b50, 0, none⟩)), (3, .pointer (some ⟨b51, 0, none⟩)), (5, vS s56)]) (fun (s56 : List UInt8) => impl_NodeText_J1 p1 p0 s56 = some r) (fun s56 H => ?_) (fun J1 => ?_)
      · unfold impl_NodeText_J1 at H
        refine c_seq ?_
        refine c_regT 16 mixed (by kernel_rfl) ?_
        refine ow_batch [.p, .fa 54 4 5 fa54_4, .fa 52 0 0 fa52_0] rfl ?_
        refine ow_r rfl (dstOk_lt rfl) (ry_box1 (off := 5) rfl rfl ty49 (boxIn (i := 1) rfl) rfl) ?_
        obtain ⟨y57, h58, H⟩ := of_bind H
        refine ow_q rfl rfl (dstOk_lt rfl) (qy_call rfl fn56 rfl (fun w1 hw1 => impl_TotalsText_ok w1  h58 (rds_bor g42 w1 hw1) (rds_bor gT w1 hw1))) (fun _ _ => trivial) ?_
        refine ow_batch [.fa 34 1 1 fa34_1] rfl ?_
        refine ow_r rfl (dstOk_lt rfl) (ry_box1 (off := 1) rfl rfl ty23 (boxIn (i := 0) rfl) rfl) ?_
        refine ow_batch [.fa 54 4 5 fa54_4, .fa 52 0 0 fa52_0] rfl ?_
        refine ow_r rfl (dstOk_lt rfl) (ry_box1 (off := 5) rfl rfl ty49 (boxIn (i := 1) rfl) rfl) ?_
        obtain ⟨y59, h60, H⟩ := of_bind H
        refine ow_q rfl rfl (dstOk_lt rfl) (qy_call rfl fn57 rfl (fun w1 hw1 => impl_TopOf_ok w1  h60 (rds_bor g42 w1 hw1))) (fun _ _ => trivial) ?_
        obtain ⟨e61, h62, H⟩ := of_bind H
        refine ow_ixE (e := eStr) (xs := p0.Classes_) (j := y59) rfl rfl rfl rfl rfl sl23 ty9 rfl (fun w1 hw1 => rds_bor g13 w1 hw1) h62 (by rw [Nat.mul_one]) ?_
        refine ow_r rfl (dstOk_lt rfl) (ry_load1 rfl rfl ty9 (at_elV (fun w1 hw1 => rds_bor g13 w1 hw1) h62)) ?_
        refine ow_batch [.fa 54 5 7 fa54_5] rfl ?_
        refine ow_r rfl (dstOk_lt rfl) (ry_box1 (off := 7) rfl rfl ty3 (boxIn (i := 1) rfl) rfl) ?_
        obtain ⟨y63, h64, H⟩ := of_bind H
        refine ow_q rfl rfl (dstOk_lt rfl) (qy_call rfl fn23 rfl (fun w1 hw1 => impl_Digits_ok w1  h64 (rds_bor gT w1 hw1))) (fun _ _ => trivial) ?_
        refine ow_nilQ ?_
        refine ow_blit (val := vS) (h1 := fun _ => rfl) [s56, y57, e61, ([115, 105, 110, 99, 101] : List UInt8), y63] [(0, [vS s56]), (1, [vS y57]), (2, [vS e61]), (3, [vS ([115, 105, 110, 99, 101] : List UInt8)]), (4, [vS y63])] rfl rfl rfl rfl rfl sl23 ty9 rfl rfl rfl ⟨rfl, rfl, Nat.le_of_ble_eq_true rfl, rfl, rfl, Nat.le_of_ble_eq_true rfl, rfl, rfl, Nat.le_of_ble_eq_true rfl, rfl, rfl, Nat.le_of_ble_eq_true rfl, rfl, rfl, Nat.le_of_ble_eq_true rfl,  trivial⟩ rfl rfl (fun _ => kp) (fun b65 => ?_)
        obtain ⟨s66, h67, H⟩ := of_bind H
        refine ow_q rfl rfl (dstOk_lt rfl) (qy_call rfl fn55 rfl (fun w1 hw1 => join_ok (T := 9) Tryz.lays156 Tryz.Builder_Extra_156 w1 h67 (rds_own (e := eList (eStr) 9) (r := 2) rfl w1 hw1))) (fun _ _ => trivial) ?_
        refine ow_batch [.p] rfl ?_
        refine ow_nil ?_
        refine x_qs ?_
        refine c_ret ?_
        refine x_qs_ret ?_
        exact x_retR (rs := [.tmp 4]) (vs := [vS s66]) rfl ⟨rfl, trivial⟩ (fun w' hw' => by
            obtain rfl := of_some H
            exact ⟨rfl, hw'.ext⟩)
      · refine c_seq ?_
        refine c_reg ?_
        refine ow_r rfl (dstOk_lt rfl) (ry_box (off := 0) (ds := [.bool p1.Leaf_, .int .i64 p1.Fork_.Attr_, .int .i64 p1.Fork_.At_, .slice a38 p1.Kids_.length c39, .int .i64 p1.Miss_, .slice a44 p1.Stats_.Totals_.length c45, .slice a46 p1.Stats_.Cells_.length c47, .int .i64 p1.Since_, .slice a48 p1.Attrs_.length c49, .int .i64 p1.Depth_, .int .i64 p1.Up_, .int .i64 p1.Born_]) rfl rfl ty54 (boxIn (i := 1) rfl) rfl rfl) ?_
        obtain ⟨y68, h69, H⟩ := of_bind H
        refine ow_q rfl rfl (dstOk_lt rfl) (qy_call rfl fn54 rfl (fun w1 hw1 => impl_active_ok w1 (cs0 := [.bool p1.Leaf_, .int .i64 p1.Fork_.Attr_, .int .i64 p1.Fork_.At_, .slice a38 p1.Kids_.length c39, .int .i64 p1.Miss_, .slice a44 p1.Stats_.Totals_.length c45, .slice a46 p1.Stats_.Cells_.length c47, .int .i64 p1.Since_, .slice a48 p1.Attrs_.length c49, .int .i64 p1.Depth_, .int .i64 p1.Up_, .int .i64 p1.Born_]) h69 (rdm_Timpl_Node (x := p1) (c0 := [.bool p1.Leaf_]) (c1 := [.int .i64 p1.Fork_.Attr_, .int .i64 p1.Fork_.At_]) (c2 := [.slice a38 p1.Kids_.length c39]) (c3 := [.int .i64 p1.Miss_]) (c4 := [.slice a44 p1.Stats_.Totals_.length c45, .slice a46 p1.Stats_.Cells_.length c47]) (c5 := [.int .i64 p1.Since_]) (c6 := [.slice a48 p1.Attrs_.length c49]) (c7 := [.int .i64 p1.Depth_]) (c8 := [.int .i64 p1.Up_]) (c9 := [.int .i64 p1.Born_]) rfl rfl (rds_bor g30 w1 hw1) rfl (rdm_Timpl_Stats (x := p1.Stats_) (c0 := [.slice a44 p1.Stats_.Totals_.length c45]) (c1 := [.slice a46 p1.Stats_.Cells_.length c47]) (rds_bor g42 w1 hw1) (rds_bor g43 w1 hw1)) rfl (rds_bor g34 w1 hw1) rfl rfl rfl))) (fun _ _ => trivial) ?_
        refine ow_nil ?_
        refine x_qs ?_
        refine c_if rfl (fun hb => ?_) (fun hb => ?_)
        · have H := of_if_t hb H
          refine c_reg ?_
          refine ow_batch [.p] rfl ?_
          refine ow_nil ?_
          exact XW.at (J1 (([108, 101, 97, 102] : List UInt8)) (H)) (fun _ h => St.sel [0, 1] rfl rfl h) ⟨rfl, rfl, rfl, trivial⟩
        · have H := of_if_f hb H
          refine c_skip ?_
          exact XW.at (J1 (([116, 104, 105, 110] : List UInt8)) (H)) (fun _ h => St.sel [0, 1] rfl rfl h) ⟨rfl, rfl, rfl, trivial⟩
  · have H := of_if_f hb H
    refine c_skip ?_
    refine x_qs ?_
    refine c_seq ?_
    refine c_seq ?_
    refine c_reg ?_
    refine ow_r rfl (dstOk_lt rfl) (ry_box (off := 0) (ds := [.slice a14 p0.Attrs_.length c15, .slice a16 p0.Classes_.length c17]) rfl rfl ty34 (boxIn (i := 0) rfl) rfl rfl) ?_
    refine ow_batch [.fa 54 1 1 fa54_1] rfl ?_
    refine ow_r rfl (dstOk_lt rfl) (ry_box (off := 1) (ds := [.int .i64 p1.Fork_.Attr_, .int .i64 p1.Fork_.At_]) rfl rfl ty48 (boxIn (i := 1) rfl) rfl rfl) ?_
    obtain ⟨y70, h71, H⟩ := of_bind H
    refine ow_q rfl rfl (dstOk_lt rfl) (qy_call rfl fn58 rfl (fun w1 hw1 => impl_ForkOk_ok w1 (p1 := p1.Fork_) (cs0 := [.slice a14 p0.Attrs_.length c15, .slice a16 p0.Classes_.length c17]) h71 (rdm_Timpl_Schema (x := p0) (c0 := [.slice a14 p0.Attrs_.length c15]) (c1 := [.slice a16 p0.Classes_.length c17]) (rds_bor g12 w1 hw1) (rds_bor g13 w1 hw1)))) (fun _ _ => trivial) ?_
    refine ow_batch [.p] rfl ?_
    refine ow_nil ?_
    refine x_qs ?_
    refine c_if rfl (fun hb => ?_) (fun hb => ?_)
    · have H := of_if_t hb H
      refine c_seq ?_
      refine c_reg ?_
      refine ow_batch [.p] rfl ?_
      refine ow_nil ?_
      refine x_qs ?_
      refine c_ret ?_
      refine x_qs_ret ?_
      exact x_retR (rs := [.tmp 4]) (vs := [vS ([] : List UInt8)]) rfl ⟨rfl, trivial⟩ (fun w' hw' => by
          obtain rfl := of_some H
          exact ⟨rfl, hw'.ext⟩)
    · have H := of_if_f hb H
      refine c_skip ?_
      refine x_qs ?_
      refine c_seq ?_
      refine c_regT 7 mixed (by kernel_rfl) ?_
      refine ow_r rfl (dstOk_lt rfl) (ry_box (off := 0) (ds := [.slice a14 p0.Attrs_.length c15, .slice a16 p0.Classes_.length c17]) rfl rfl ty34 (boxIn (i := 0) rfl) rfl rfl) ?_
      refine ow_batch [.fa 54 1 1 fa54_1] rfl ?_
      refine ow_r rfl (dstOk_lt rfl) (ry_box (off := 1) (ds := [.int .i64 p1.Fork_.Attr_, .int .i64 p1.Fork_.At_]) rfl rfl ty48 (boxIn (i := 1) rfl) rfl rfl) ?_
      obtain ⟨y72, h73, H⟩ := of_bind H
      refine ow_q rfl rfl (dstOk_lt rfl) (qy_call rfl fn59 rfl (fun w1 hw1 => impl_ForkText_ok w1 (p1 := p1.Fork_) (cs0 := [.slice a14 p0.Attrs_.length c15, .slice a16 p0.Classes_.length c17]) h73 (rdm_Timpl_Schema (x := p0) (c0 := [.slice a14 p0.Attrs_.length c15]) (c1 := [.slice a16 p0.Classes_.length c17]) (rds_bor g12 w1 hw1) (rds_bor g13 w1 hw1)) (rds_bor gT w1 hw1))) (fun _ _ => trivial) ?_
      refine ow_batch [.fa 54 3 4 fa54_3] rfl ?_
      refine ow_r rfl (dstOk_lt rfl) (ry_box1 (off := 4) rfl rfl ty3 (boxIn (i := 1) rfl) rfl) ?_
      obtain ⟨y74, h75, H⟩ := of_bind H
      refine ow_q rfl rfl (dstOk_lt rfl) (qy_call rfl fn23 rfl (fun w1 hw1 => impl_Digits_ok w1  h75 (rds_bor gT w1 hw1))) (fun _ _ => trivial) ?_
      refine ow_nilQ ?_
      refine ow_blit (val := vS) (h1 := fun _ => rfl) [y72, ([109, 105, 115, 115] : List UInt8), y74] [(0, [vS y72]), (1, [vS ([109, 105, 115, 115] : List UInt8)]), (2, [vS y74])] rfl rfl rfl rfl rfl sl23 ty9 rfl rfl rfl ⟨rfl, rfl, Nat.le_of_ble_eq_true rfl, rfl, rfl, Nat.le_of_ble_eq_true rfl, rfl, rfl, Nat.le_of_ble_eq_true rfl,  trivial⟩ rfl rfl (fun _ => kp) (fun b76 => ?_)
      refine ow_batch [.p] rfl ?_
      refine ow_nil ?_
      refine x_qs ?_
      refine c_seq ?_
      refine c_seq ?_
      refine c_reg ?_
      refine ow_batch [.fa 54 2 3 fa54_2] rfl ?_
      refine ow_r rfl (dstOk_lt rfl) (ry_box1 (off := 3) rfl rfl ty49 (boxIn (i := 1) rfl) rfl) ?_
      refine ow_batch [.lenS 49 3 sl49, .p] rfl ?_
      refine ow_nil ?_
      refine x_qs ?_
      refine c_block ?_
      refine CW.at (loopI5 (fun (i94 : Int) (l95 : List (List UInt8)) (a96 : Option Addr) (c97 : Nat) (F98 : List Nat) => St w [] [Res.own (eList (eStr) 9) F98 l95 [.slice a96 l95.length c97]]) (fun (i94 : Int) (l95 : List (List UInt8)) (a96 : Option Addr) (c97 : Nat) (F98 : List Nat) => [(6, .slice a96 l95.length c97), (50, .slice a38 p1.Kids_.length c39), (51, .int .i64 (p1.Kids_.length : Int)), (52, .int .i64 i94)]) (fun kk => fun (i94 : Int) (l95 : List (List UInt8)) (a96 : Option Addr) (c97 : Nat) (F98 : List Nat) => a96.isNone = false ∧ impl_NodeText_L1 p1 kk i94 l95 = some r) (fun _ _ _ _ _ H => ?_) (fun k1 ihk1 i94 l95 a96 c97 F98 ⟨hz99, H⟩ => ?_) Fuel (0) (([y72, ([109, 105, 115, 115] : List UInt8), y74] : List (List UInt8))) ((some ⟨b76, 0, none⟩)) (3) ([b76]) (⟨rfl, H⟩)) (fun _ h => St.sel [2] rfl rfl h) ⟨rfl, rfl, rfl, rfl,  trivial⟩
      · unfold impl_NodeText_L1 at H
        exact absurd H (by simp)
      · unfold impl_NodeText_L1 at H
        refine c_seq ?_
        refine c_reg ?_
        refine ow_batch [.p] rfl ?_
        refine ow_nil ?_
        refine x_qs ?_
        refine c_seq ?_
        refine c_if rfl (fun hb => ?_) (fun hb => ?_)
        · have H := of_if_t hb H
          refine c_skip ?_
          refine x_qs ?_
          refine c_seq ?_
          refine c_block ?_
          refine c_seq ?_
          refine c_reg ?_
          obtain ⟨e117, h118, H⟩ := of_bind H
          refine ow_ixE (e := eVal (Value.int .i64) (fun _ => rfl)) (xs := p1.Kids_) (j := i94) rfl rfl rfl rfl rfl sl49 ty3 rfl (fun w1 hw1 => rds_bor g30 w1 hw1) h118 (by rw [Nat.mul_one]) ?_
          refine ow_r rfl (dstOk_lt rfl) (ry_load1 rfl rfl ty3 (at_elV (fun w1 hw1 => rds_bor g30 w1 hw1) h118)) ?_
          refine ow_batch [.p] rfl ?_
          refine ow_nil ?_
          refine x_qs ?_
          refine c_reg ?_
          refine ow_batch [.p, .p] rfl ?_
          obtain ⟨y119, h120, H⟩ := of_bind H
          refine ow_q rfl rfl (dstOk_lt rfl) (qy_call rfl fn23 rfl (fun w1 hw1 => impl_Digits_ok w1  h120 (rds_bor gT w1 hw1))) (fun _ _ => trivial) ?_
          refine ow_blit (val := vS) (h1 := fun _ => rfl) [y119] [(0, [vS y119])] rfl rfl rfl rfl rfl sl23 ty9 rfl rfl rfl ⟨rfl, rfl, Nat.le_of_ble_eq_true rfl,  trivial⟩ rfl rfl (fun _ => kp) (fun b121 => ?_)
          obtain ⟨l122, h123, H⟩ := of_bind H
          refine ow_appR (r := 0) (ys := ([y119] : List (List UInt8))) rfl rfl rfl rfl rfl rfl sl23 ty9 rfl rfl rfl (fun w1 hw1 => rds_own (e := eList (eStr) 9) (r := 1) rfl w1 hw1) h123 (fun _ _ _ => kp) (fun a124 c125 F126 => ?_)
          refine ow_fact rfl (fun w1 hw1 => own_nn (i := 0) hw1 rfl (app_ne h123)) (fun hz127 => ?_)
          refine ow_batch [.p] rfl ?_
          refine ow_nil ?_
          refine x_qb ?_
          refine x_qs ?_
          refine c_reg ?_
          refine ow_batch [.p, .p] rfl ?_
          refine ow_nil ?_
          exact x_ql (RW.at (ihk1 (IntKind.i64.wrap (i94 + 1)) (l122) (a124) (c125) (F126) (⟨hz127, H⟩)) (fun _ h => St.sel [0] rfl rfl h) ⟨rfl, rfl, rfl, rfl, trivial⟩)
        · have H := of_if_f hb H
          refine c_exit ?_
          refine x_qs_exit ?_
          refine x_ql_exit ?_
          refine x_qb_here ?_
          refine x_qs ?_
          refine c_seq ?_
          refine c_reg ?_
          refine ow_batch [.p] rfl ?_
          obtain ⟨s128, h129, H⟩ := of_bind H
          refine ow_q rfl rfl (dstOk_lt rfl) (qy_call rfl fn55 rfl (fun w1 hw1 => join_ok (T := 9) Tryz.lays156 Tryz.Builder_Extra_156 w1 h129 (rds_own (e := eList (eStr) 9) (r := 0) rfl w1 hw1))) (fun _ _ => trivial) ?_
          refine ow_batch [.p] rfl ?_
          refine ow_nil ?_
          refine x_qs ?_
          refine c_ret ?_
          exact x_retR (rs := [.tmp 4]) (vs := [vS s128]) rfl ⟨rfl, trivial⟩ (fun w' hw' => by
              obtain rfl := of_some H
              exact ⟨rfl, hw'.ext⟩)

set_option maxHeartbeats 4000000 in
set_option maxRecDepth 100000 in
theorem impl_TreeText_ok (w : World) {p0 : Timpl_Schema} {p1 : Timpl_Tree} {cs0 : List Value} {cs1 : List Value} {r : List UInt8} (H : impl_TreeText p0 p1 = some r)  (g0 : (eTimpl_Schema).rd w [] p0 cs0) (g1 : (eTimpl_Tree).rd w [] p1 cs1) (gT : (ePow10 Tryz.prog).rd w [] () []) :
    Calls Tryz.prog 9 #[.agg cs0.toArray, .agg cs1.toArray] w (fun en w' => en = .returned (vS r) ∧ Ext [] w w') := by
  obtain ⟨c10, c11, rfl, g12, g13⟩ := rdo_Timpl_Schema g0
  obtain ⟨a14, c15, rfl⟩ := rd_sl1 g12
  obtain ⟨a16, c17, rfl⟩ := rd_sl1 g13
  obtain ⟨c18, c19, rfl, g20, g21⟩ := rdo_Timpl_Tree g1
  obtain ⟨a22, c23, rfl⟩ := rd_sl1 g20
  obtain rfl : c19 = [.int .i64 p1.Seen_] := g21
  unfold impl_TreeText at H
  refine f_enter (vs := [.agg #[.slice a14 p0.Attrs_.length c15, .slice a16 p0.Classes_.length c17], .agg #[.slice a22 p1.Nodes_.length c23, .int .i64 p1.Seen_]]) Tryz.func9 rfl Tryz.ntmps9 rfl (St.init w []) ?_
  refine c_seq ?_
  refine c_reg ?_
  refine ow_box (cs := [.slice a14 p0.Attrs_.length c15, .slice a16 p0.Classes_.length c17]) rfl rfl rfl rfl rfl rfl (fun _ => kp) (fun b24 => ?_)
  refine ow_box (cs := [.slice a22 p1.Nodes_.length c23, .int .i64 p1.Seen_]) rfl rfl rfl rfl rfl rfl (fun _ => kp) (fun b25 => ?_)
  refine ow_batch [.p] rfl ?_
  refine ow_nil ?_
  refine x_qs ?_
  refine c_seq ?_
  refine c_seq ?_
  refine c_reg ?_
  refine ow_r rfl (dstOk_lt rfl) (ry_box (off := 0) (ds := [.slice a14 p0.Attrs_.length c15, .slice a16 p0.Classes_.length c17]) rfl rfl ty34 (boxIn (i := 0) rfl) rfl rfl) ?_
  refine ow_r rfl (dstOk_lt rfl) (ry_box (off := 0) (ds := [.slice a22 p1.Nodes_.length c23, .int .i64 p1.Seen_]) rfl rfl ty38 (boxIn (i := 1) rfl) rfl rfl) ?_
  obtain ⟨y26, h27, H⟩ := of_bind H
  refine ow_q rfl rfl (dstOk_lt rfl) (qy_call rfl fn21 rfl (fun w1 hw1 => impl_TreeOk_ok w1 (cs0 := [.slice a14 p0.Attrs_.length c15, .slice a16 p0.Classes_.length c17]) (cs1 := [.slice a22 p1.Nodes_.length c23, .int .i64 p1.Seen_]) h27 (rdm_Timpl_Schema (x := p0) (c0 := [.slice a14 p0.Attrs_.length c15]) (c1 := [.slice a16 p0.Classes_.length c17]) (rds_bor g12 w1 hw1) (rds_bor g13 w1 hw1)) (rdm_Timpl_Tree (x := p1) (c0 := [.slice a22 p1.Nodes_.length c23]) (c1 := [.int .i64 p1.Seen_]) (rds_bor g20 w1 hw1) rfl))) (fun _ _ => trivial) ?_
  refine ow_batch [.p] rfl ?_
  refine ow_nil ?_
  refine x_qs ?_
  refine c_if rfl (fun hb => ?_) (fun hb => ?_)
  · have H := of_if_t hb H
    refine c_seq ?_
    refine c_reg ?_
    refine ow_batch [.p] rfl ?_
    refine ow_nil ?_
    refine x_qs ?_
    refine c_ret ?_
    refine x_qs_ret ?_
    exact x_retR (rs := [.tmp 4]) (vs := [vS ([] : List UInt8)]) rfl ⟨rfl, trivial⟩ (fun w' hw' => by
        obtain rfl := of_some H
        exact ⟨rfl, hw'.ext⟩)
  · have H := of_if_f hb H
    refine c_skip ?_
    refine x_qs ?_
    refine c_seq ?_
    refine c_reg ?_
    refine ow_batch [.p] rfl ?_
    refine ow_nil ?_
    refine x_qs ?_
    refine c_seq ?_
    refine c_seq ?_
    refine c_reg ?_
    refine ow_batch [.fa 38 0 0 fa38_0] rfl ?_
    refine ow_r rfl (dstOk_lt rfl) (ry_box1 (off := 0) rfl rfl ty36 (boxIn (i := 1) rfl) rfl) ?_
    refine ow_batch [.lenS 36 54 sl36, .p] rfl ?_
    refine ow_nil ?_
    refine x_qs ?_
    refine c_block ?_
    refine CW.at (loopI2 (fun (i85 : Int) (s86 : List UInt8) => St w [] [Res.box b24 34 [.slice a14 p0.Attrs_.length c15, .slice a16 p0.Classes_.length c17]]) (fun (i85 : Int) (s86 : List UInt8) => [(2, .pointer (some ⟨b24, 0, none⟩)), (5, vS s86), (13, .slice a22 p1.Nodes_.length c23), (14, .int .i64 (p1.Nodes_.length : Int)), (15, .int .i64 i85)]) (fun kk => fun (i85 : Int) (s86 : List UInt8) => impl_TreeText_L1 p1 p0 kk i85 s86 = some r) (fun _ _ H => ?_) (fun k1 ihk1 i85 s86 H => ?_) Fuel (0) (([] : List UInt8)) (H)) (fun _ h => St.sel [0] rfl rfl h) ⟨rfl, rfl, rfl, rfl, rfl,  trivial⟩
    · unfold impl_TreeText_L1 at H
      exact absurd H (by simp)
    · unfold impl_TreeText_L1 at H
      refine c_seq ?_
      refine c_reg ?_
      refine ow_batch [.p] rfl ?_
      refine ow_nil ?_
      refine x_qs ?_
      refine c_seq ?_
      refine c_if rfl (fun hb => ?_) (fun hb => ?_)
      · have H := of_if_t hb H
        refine c_skip ?_
        refine x_qs ?_
        refine c_seq ?_
        refine c_block ?_
        refine c_seq ?_
        refine c_reg ?_
        refine ow_batch [.p] rfl ?_
        obtain ⟨e144, h145, H⟩ := of_bind H
        refine ow_ixB rfl rfl rfl rfl rfl sl36 ty54 rfl g20 h145 (fun q148 c149 hd146 hA147 => ?_)
        obtain ⟨c150, c151, c152, c153, c154, c155, c156, c157, c158, c159, rfl, g160, g161, g162, g163, g164, g165, g166, g167, g168, g169⟩ := rdo_Timpl_Node hd146
        obtain rfl : c150 = [.bool e144.Leaf_] := g160
        obtain rfl : c151 = [.int .i64 e144.Fork_.Attr_, .int .i64 e144.Fork_.At_] := g161
        obtain ⟨a170, c171, rfl⟩ := rd_sl1 g162
        obtain rfl : c153 = [.int .i64 e144.Miss_] := g163
        obtain ⟨c172, c173, rfl, g174, g175⟩ := rdo_Timpl_Stats g164
        obtain ⟨a176, c177, rfl⟩ := rd_sl1 g174
        obtain ⟨a178, c179, rfl⟩ := rd_sl1 g175
        obtain rfl : c155 = [.int .i64 e144.Since_] := g165
        obtain ⟨a180, c181, rfl⟩ := rd_sl1 g166
        obtain rfl : c157 = [.int .i64 e144.Depth_] := g167
        obtain rfl : c158 = [.int .i64 e144.Up_] := g168
        obtain rfl : c159 = [.int .i64 e144.Born_] := g169
        refine ow_r rfl (dstOk_lt rfl) (ry_load (cs := [.bool e144.Leaf_, .int .i64 e144.Fork_.Attr_, .int .i64 e144.Fork_.At_, .slice a170 e144.Kids_.length c171, .int .i64 e144.Miss_, .slice a176 e144.Stats_.Totals_.length c177, .slice a178 e144.Stats_.Cells_.length c179, .int .i64 e144.Since_, .slice a180 e144.Attrs_.length c181, .int .i64 e144.Depth_, .int .i64 e144.Up_, .int .i64 e144.Born_]) rfl rfl ty54 (at_bor bor hA147) rfl) ?_
        refine ow_alloc rfl rfl rfl rfl ty54 (fun _ => kp) (fun b182 => ?_)
        refine ow_batch [.p] rfl ?_
        refine ow_storeC (off := 0) [.bool e144.Leaf_, .int .i64 e144.Fork_.Attr_, .int .i64 e144.Fork_.At_, .slice a170 e144.Kids_.length c171, .int .i64 e144.Miss_, .slice a176 e144.Stats_.Totals_.length c177, .slice a178 e144.Stats_.Cells_.length c179, .int .i64 e144.Since_, .slice a180 e144.Attrs_.length c181, .int .i64 e144.Depth_, .int .i64 e144.Up_, .int .i64 e144.Born_] [_, _, _, _, _, _, _, _, _, _, _, _] (i := 1) rfl rfl rfl rfl rfl rfl ty54 rfl rfl (by intro u hu; simp only [List.mem_cons, List.not_mem_nil, or_false] at hu; rcases hu with rfl | rfl | rfl | rfl | rfl | rfl | rfl | rfl | rfl | rfl | rfl | rfl <;> rfl) rfl rfl rfl kp ?_
        refine ow_nil ?_
        refine x_qs ?_
        refine c_regQ mixed (by kernel_rfl) ?_
        refine ow_batch [.p, .fa 54 7 9 fa54_7] rfl ?_
        refine ow_r rfl (dstOk_lt rfl) (ry_box1 (off := 9) rfl rfl ty3 (boxIn (i := 1) rfl) rfl) ?_
        obtain ⟨s183, h184, H⟩ := of_bind H
        refine ow_q rfl rfl (dstOk_lt rfl) (qy_call rfl fn22 rfl (fun w1 _ => repeat_ok Tryz.lays105 Tryz.Builder_Extra_105 w1 h184)) (fun _ _ => trivial) ?_
        refine ow_batch [.p] rfl ?_
        obtain ⟨y185, h186, H⟩ := of_bind H
        refine ow_q rfl rfl (dstOk_lt rfl) (qy_call rfl fn23 rfl (fun w1 hw1 => impl_Digits_ok w1  h186 (rds_bor gT w1 hw1))) (fun _ _ => trivial) ?_
        obtain ⟨s187, h188, H⟩ := of_bind H
        refine ow_r rfl (dstOk_lt rfl) (ry_sadd rfl rfl rfl h188) ?_
        obtain ⟨s189, h190, H⟩ := of_bind H
        refine ow_r rfl (dstOk_lt rfl) (ry_sadd rfl rfl rfl h190) ?_
        refine ow_r rfl (dstOk_lt rfl) (ry_box (off := 0) (ds := [.slice a14 p0.Attrs_.length c15, .slice a16 p0.Classes_.length c17]) rfl rfl ty34 (boxIn (i := 0) rfl) rfl rfl) ?_
        refine ow_r rfl (dstOk_lt rfl) (ry_box (off := 0) (ds := [.bool e144.Leaf_, .int .i64 e144.Fork_.Attr_, .int .i64 e144.Fork_.At_, .slice a170 e144.Kids_.length c171, .int .i64 e144.Miss_, .slice a176 e144.Stats_.Totals_.length c177, .slice a178 e144.Stats_.Cells_.length c179, .int .i64 e144.Since_, .slice a180 e144.Attrs_.length c181, .int .i64 e144.Depth_, .int .i64 e144.Up_, .int .i64 e144.Born_]) rfl rfl ty54 (boxIn (i := 1) rfl) rfl rfl) ?_
        obtain ⟨y191, h192, H⟩ := of_bind H
        refine ow_q rfl rfl (dstOk_lt rfl) (qy_call rfl fn24 rfl (fun w1 hw1 => impl_NodeText_ok w1 (cs0 := [.slice a14 p0.Attrs_.length c15, .slice a16 p0.Classes_.length c17]) (cs1 := [.bool e144.Leaf_, .int .i64 e144.Fork_.Attr_, .int .i64 e144.Fork_.At_, .slice a170 e144.Kids_.length c171, .int .i64 e144.Miss_, .slice a176 e144.Stats_.Totals_.length c177, .slice a178 e144.Stats_.Cells_.length c179, .int .i64 e144.Since_, .slice a180 e144.Attrs_.length c181, .int .i64 e144.Depth_, .int .i64 e144.Up_, .int .i64 e144.Born_]) h192 (rdm_Timpl_Schema (x := p0) (c0 := [.slice a14 p0.Attrs_.length c15]) (c1 := [.slice a16 p0.Classes_.length c17]) (rds_bor g12 w1 hw1) (rds_bor g13 w1 hw1)) (rdm_Timpl_Node (x := e144) (c0 := [.bool e144.Leaf_]) (c1 := [.int .i64 e144.Fork_.Attr_, .int .i64 e144.Fork_.At_]) (c2 := [.slice a170 e144.Kids_.length c171]) (c3 := [.int .i64 e144.Miss_]) (c4 := [.slice a176 e144.Stats_.Totals_.length c177, .slice a178 e144.Stats_.Cells_.length c179]) (c5 := [.int .i64 e144.Since_]) (c6 := [.slice a180 e144.Attrs_.length c181]) (c7 := [.int .i64 e144.Depth_]) (c8 := [.int .i64 e144.Up_]) (c9 := [.int .i64 e144.Born_]) rfl rfl (rds_bor g162 w1 hw1) rfl (rdm_Timpl_Stats (x := e144.Stats_) (c0 := [.slice a176 e144.Stats_.Totals_.length c177]) (c1 := [.slice a178 e144.Stats_.Cells_.length c179]) (rds_bor g174 w1 hw1) (rds_bor g175 w1 hw1)) rfl (rds_bor g166 w1 hw1) rfl rfl rfl) (rds_bor gT w1 hw1))) (fun _ _ => trivial) ?_
        obtain ⟨s193, h194, H⟩ := of_bind H
        refine ow_r rfl (dstOk_lt rfl) (ry_sadd rfl rfl rfl h194) ?_
        obtain ⟨s195, h196, H⟩ := of_bind H
        refine ow_r rfl (dstOk_lt rfl) (ry_sadd rfl rfl rfl h196) ?_
        obtain ⟨s197, h198, H⟩ := of_bind H
        refine ow_r rfl (dstOk_lt rfl) (ry_sadd rfl rfl rfl h198) ?_
        refine ow_batch [.p] rfl ?_
        refine ow_nilQ ?_
        refine x_qb ?_
        refine x_qs ?_
        refine c_reg ?_
        refine ow_batch [.p, .p] rfl ?_
        refine ow_nil ?_
        exact x_ql (RW.at (ihk1 (IntKind.i64.wrap (i85 + 1)) (s197) (H)) (fun _ h => St.sel [0] rfl rfl h) ⟨rfl, rfl, rfl, rfl, rfl, trivial⟩)
      · have H := of_if_f hb H
        refine c_exit ?_
        refine x_qs_exit ?_
        refine x_ql_exit ?_
        refine x_qb_here ?_
        refine x_qs ?_
        refine c_seq ?_
        refine c_reg ?_
        refine ow_batch [.p, .p] rfl ?_
        refine ow_nil ?_
        refine x_qs ?_
        refine c_ret ?_
        exact x_retR (rs := [.tmp 4]) (vs := [vS s86]) rfl ⟨rfl, trivial⟩ (fun w' hw' => by
            obtain rfl := of_some H
            exact ⟨rfl, hw'.ext⟩)

set_option maxHeartbeats 4000000 in
set_option maxRecDepth 100000 in
theorem laws_eqIntS_ok (w : World) {p0 : List Int} {p1 : List Int} {a_0 : Option Addr} {n_0 c_0 : Nat} {a_1 : Option Addr} {n_1 c_1 : Nat} {r : Bool} (H : laws_eqIntS p0 p1 = some r)  (g0 : (eList (eVal (Value.int .i64) (fun _ => rfl)) 3).rd w [] p0 [.slice a_0 n_0 c_0]) (g1 : (eList (eVal (Value.int .i64) (fun _ => rfl)) 3).rd w [] p1 [.slice a_1 n_1 c_1]) :
    Calls Tryz.prog 95 #[.slice a_0 n_0 c_0, .slice a_1 n_1 c_1] w (fun en w' => en = .returned (.bool r) ∧ Ext [] w w') := by
  obtain rfl := rd_n g0
  obtain rfl := rd_n g1
  unfold laws_eqIntS at H
  refine f_enter (vs := [.slice a_0 p0.length c_0, .slice a_1 p1.length c_1]) Tryz.func95 rfl Tryz.ntmps95 rfl (St.init w []) ?_
  refine c_seq ?_
  refine c_reg ?_
  refine ow_batch [.p] rfl ?_
  refine ow_nil ?_
  refine x_qs ?_
  refine c_seq ?_
  refine c_seq ?_
  refine c_reg ?_
  refine ow_batch [.p, .lenS 49 3 sl49, .p, .lenS 49 3 sl49, .p] rfl ?_
  refine ow_nil ?_
  refine x_qs ?_
  refine c_if rfl (fun hb => ?_) (fun hb => ?_)
  · have H := of_if_t hb H
    refine c_seq ?_
    refine c_reg ?_
    refine ow_batch [.p] rfl ?_
    refine ow_nil ?_
    refine x_qs ?_
    refine c_ret ?_
    refine x_qs_ret ?_
    exact x_retR (rs := [.tmp 4]) (vs := [.bool false]) rfl ⟨rfl, trivial⟩ (fun w' hw' => by
        obtain rfl := of_some H
        exact ⟨rfl, hw'.ext⟩)
  · have H := of_if_f hb H
    refine c_skip ?_
    refine x_qs ?_
    refine c_seq ?_
    refine c_seq ?_
    refine c_reg ?_
    refine ow_batch [.p] rfl ?_
    refine ow_nil ?_
    refine x_qs ?_
    refine c_block ?_
    refine CW.at (loopI1 (fun (i15 : Int) => St w [] []) (fun (i15 : Int) => [(0, .slice a_0 p0.length c_0), (1, .slice a_1 p1.length c_1), (5, .int .i64 i15)]) (fun kk => fun (i15 : Int) => laws_eqIntS_L1 p0 p1 kk i15 = some r) (fun _ H => ?_) (fun k1 ihk1 i15 H => ?_) Fuel (0) (H)) (fun _ h => St.sel [] rfl rfl h) ⟨rfl, rfl, rfl,  trivial⟩
    · unfold laws_eqIntS_L1 at H
      exact absurd H (by simp)
    · unfold laws_eqIntS_L1 at H
      refine c_seq ?_
      refine c_seq ?_
      refine c_reg ?_
      refine ow_batch [.p, .p, .lenS 49 3 sl49, .p] rfl ?_
      refine ow_nil ?_
      refine x_qs ?_
      refine c_if rfl (fun hb => ?_) (fun hb => ?_)
      · have H := of_if_t hb H
        refine c_skip ?_
        refine x_qs ?_
        refine c_seq ?_
        refine c_block ?_
        refine c_seq ?_
        refine c_regQ mixed (by kernel_rfl) ?_
        refine ow_batch [.p, .p] rfl ?_
        obtain ⟨e21, h22, H⟩ := of_bind H
        refine ow_ixE (e := eVal (Value.int .i64) (fun _ => rfl)) (xs := p0) (j := i15) rfl rfl rfl rfl rfl sl49 ty3 rfl (fun w1 hw1 => rds_bor g0 w1 hw1) h22 (by rw [Nat.mul_one]) ?_
        refine ow_r rfl (dstOk_lt rfl) (ry_load1 rfl rfl ty3 (at_elV (fun w1 hw1 => rds_bor g0 w1 hw1) h22)) ?_
        refine ow_batch [.p, .p] rfl ?_
        obtain ⟨e23, h24, H⟩ := of_bind H
        refine ow_ixE (e := eVal (Value.int .i64) (fun _ => rfl)) (xs := p1) (j := i15) rfl rfl rfl rfl rfl sl49 ty3 rfl (fun w1 hw1 => rds_bor g1 w1 hw1) h24 (by rw [Nat.mul_one]) ?_
        refine ow_r rfl (dstOk_lt rfl) (ry_load1 rfl rfl ty3 (at_elV (fun w1 hw1 => rds_bor g1 w1 hw1) h24)) ?_
        refine ow_batch [.p] rfl ?_
        refine ow_nilQ ?_
        refine x_qs ?_
        refine c_if rfl (fun hb => ?_) (fun hb => ?_)
        · have H := of_if_t hb H
          refine c_seq ?_
          refine c_reg ?_
          refine ow_batch [.p] rfl ?_
          refine ow_nil ?_
          refine x_qs ?_
          refine c_ret ?_
          refine x_qb_ret ?_
          refine x_qs_ret ?_
          refine x_ql_ret ?_
          refine x_qb_ret ?_
          refine x_qs_ret ?_
          exact x_retR (rs := [.tmp 4]) (vs := [.bool false]) rfl ⟨rfl, trivial⟩ (fun w' hw' => by
              obtain rfl := of_some H
              exact ⟨rfl, hw'.ext⟩)
        · have H := of_if_f hb H
          refine c_skip ?_
          refine x_qb ?_
          refine x_qs ?_
          refine c_reg ?_
          refine ow_batch [.p, .p, .p] rfl ?_
          refine ow_nil ?_
          exact x_ql (RW.at (ihk1 (IntKind.i64.wrap (i15 + 1)) (H)) (fun _ h => St.sel [] rfl rfl h) ⟨rfl, rfl, rfl, trivial⟩)
      · have H := of_if_f hb H
        refine c_exit ?_
        refine x_qs_exit ?_
        refine x_ql_exit ?_
        refine x_qb_here ?_
        refine x_qs ?_
        refine c_seq ?_
        refine c_reg ?_
        refine ow_batch [.p] rfl ?_
        refine ow_nil ?_
        refine x_qs ?_
        refine c_ret ?_
        exact x_retR (rs := [.tmp 4]) (vs := [.bool true]) rfl ⟨rfl, trivial⟩ (fun w' hw' => by
            obtain rfl := of_some H
            exact ⟨rfl, hw'.ext⟩)

set_option maxHeartbeats 4000000 in
set_option maxRecDepth 100000 in
theorem laws_eqStringS_ok (w : World) {p0 : List (List UInt8)} {p1 : List (List UInt8)} {a_0 : Option Addr} {n_0 c_0 : Nat} {a_1 : Option Addr} {n_1 c_1 : Nat} {r : Bool} (H : laws_eqStringS p0 p1 = some r)  (g0 : (eList (eStr) 9).rd w [] p0 [.slice a_0 n_0 c_0]) (g1 : (eList (eStr) 9).rd w [] p1 [.slice a_1 n_1 c_1]) :
    Calls Tryz.prog 26 #[.slice a_0 n_0 c_0, .slice a_1 n_1 c_1] w (fun en w' => en = .returned (.bool r) ∧ Ext [] w w') := by
  obtain rfl := rd_n g0
  obtain rfl := rd_n g1
  unfold laws_eqStringS at H
  refine f_enter (vs := [.slice a_0 p0.length c_0, .slice a_1 p1.length c_1]) Tryz.func26 rfl Tryz.ntmps26 rfl (St.init w []) ?_
  refine c_seq ?_
  refine c_reg ?_
  refine ow_batch [.p] rfl ?_
  refine ow_nil ?_
  refine x_qs ?_
  refine c_seq ?_
  refine c_seq ?_
  refine c_reg ?_
  refine ow_batch [.p, .lenS 23 9 sl23, .p, .lenS 23 9 sl23, .p] rfl ?_
  refine ow_nil ?_
  refine x_qs ?_
  refine c_if rfl (fun hb => ?_) (fun hb => ?_)
  · have H := of_if_t hb H
    refine c_seq ?_
    refine c_reg ?_
    refine ow_batch [.p] rfl ?_
    refine ow_nil ?_
    refine x_qs ?_
    refine c_ret ?_
    refine x_qs_ret ?_
    exact x_retR (rs := [.tmp 4]) (vs := [.bool false]) rfl ⟨rfl, trivial⟩ (fun w' hw' => by
        obtain rfl := of_some H
        exact ⟨rfl, hw'.ext⟩)
  · have H := of_if_f hb H
    refine c_skip ?_
    refine x_qs ?_
    refine c_seq ?_
    refine c_seq ?_
    refine c_reg ?_
    refine ow_batch [.p] rfl ?_
    refine ow_nil ?_
    refine x_qs ?_
    refine c_block ?_
    refine CW.at (loopI1 (fun (i15 : Int) => St w [] []) (fun (i15 : Int) => [(0, .slice a_0 p0.length c_0), (1, .slice a_1 p1.length c_1), (5, .int .i64 i15)]) (fun kk => fun (i15 : Int) => laws_eqStringS_L1 p0 p1 kk i15 = some r) (fun _ H => ?_) (fun k1 ihk1 i15 H => ?_) Fuel (0) (H)) (fun _ h => St.sel [] rfl rfl h) ⟨rfl, rfl, rfl,  trivial⟩
    · unfold laws_eqStringS_L1 at H
      exact absurd H (by simp)
    · unfold laws_eqStringS_L1 at H
      refine c_seq ?_
      refine c_seq ?_
      refine c_reg ?_
      refine ow_batch [.p, .p, .lenS 23 9 sl23, .p] rfl ?_
      refine ow_nil ?_
      refine x_qs ?_
      refine c_if rfl (fun hb => ?_) (fun hb => ?_)
      · have H := of_if_t hb H
        refine c_skip ?_
        refine x_qs ?_
        refine c_seq ?_
        refine c_block ?_
        refine c_seq ?_
        refine c_regQ mixed (by kernel_rfl) ?_
        refine ow_batch [.p, .p] rfl ?_
        obtain ⟨e21, h22, H⟩ := of_bind H
        refine ow_ixE (e := eStr) (xs := p0) (j := i15) rfl rfl rfl rfl rfl sl23 ty9 rfl (fun w1 hw1 => rds_bor g0 w1 hw1) h22 (by rw [Nat.mul_one]) ?_
        refine ow_r rfl (dstOk_lt rfl) (ry_load1 rfl rfl ty9 (at_elV (fun w1 hw1 => rds_bor g0 w1 hw1) h22)) ?_
        refine ow_batch [.p, .p] rfl ?_
        obtain ⟨e23, h24, H⟩ := of_bind H
        refine ow_ixE (e := eStr) (xs := p1) (j := i15) rfl rfl rfl rfl rfl sl23 ty9 rfl (fun w1 hw1 => rds_bor g1 w1 hw1) h24 (by rw [Nat.mul_one]) ?_
        refine ow_r rfl (dstOk_lt rfl) (ry_load1 rfl rfl ty9 (at_elV (fun w1 hw1 => rds_bor g1 w1 hw1) h24)) ?_
        refine ow_batch [.p] rfl ?_
        refine ow_nilQ ?_
        refine x_qs ?_
        refine c_if rfl (fun hb => ?_) (fun hb => ?_)
        · have H := of_if_t hb H
          refine c_seq ?_
          refine c_reg ?_
          refine ow_batch [.p] rfl ?_
          refine ow_nil ?_
          refine x_qs ?_
          refine c_ret ?_
          refine x_qb_ret ?_
          refine x_qs_ret ?_
          refine x_ql_ret ?_
          refine x_qb_ret ?_
          refine x_qs_ret ?_
          exact x_retR (rs := [.tmp 4]) (vs := [.bool false]) rfl ⟨rfl, trivial⟩ (fun w' hw' => by
              obtain rfl := of_some H
              exact ⟨rfl, hw'.ext⟩)
        · have H := of_if_f hb H
          refine c_skip ?_
          refine x_qb ?_
          refine x_qs ?_
          refine c_reg ?_
          refine ow_batch [.p, .p, .p] rfl ?_
          refine ow_nil ?_
          exact x_ql (RW.at (ihk1 (IntKind.i64.wrap (i15 + 1)) (H)) (fun _ h => St.sel [] rfl rfl h) ⟨rfl, rfl, rfl, trivial⟩)
      · have H := of_if_f hb H
        refine c_exit ?_
        refine x_qs_exit ?_
        refine x_ql_exit ?_
        refine x_qb_here ?_
        refine x_qs ?_
        refine c_seq ?_
        refine c_reg ?_
        refine ow_batch [.p] rfl ?_
        refine ow_nil ?_
        refine x_qs ?_
        refine c_ret ?_
        exact x_retR (rs := [.tmp 4]) (vs := [.bool true]) rfl ⟨rfl, trivial⟩ (fun w' hw' => by
            obtain rfl := of_some H
            exact ⟨rfl, hw'.ext⟩)

set_option maxHeartbeats 4000000 in
set_option maxRecDepth 100000 in
theorem laws_eqAttr_ok (w : World) {p0 : Timpl_Attr} {p1 : Timpl_Attr} {cs0 : List Value} {cs1 : List Value} {r : Bool} (H : laws_eqAttr p0 p1 = some r)  (g0 : (eTimpl_Attr).rd w [] p0 cs0) (g1 : (eTimpl_Attr).rd w [] p1 cs1) :
    Calls Tryz.prog 60 #[.agg cs0.toArray, .agg cs1.toArray] w (fun en w' => en = .returned (.bool r) ∧ Ext [] w w') := by
  obtain ⟨c10, c11, c12, rfl, g13, g14, g15⟩ := rdo_Timpl_Attr g0
  obtain rfl : c10 = [vS p0.Name_] := g13
  obtain ⟨a16, c17, rfl⟩ := rd_sl1 g14
  obtain ⟨a18, c19, rfl⟩ := rd_sl1 g15
  obtain ⟨c20, c21, c22, rfl, g23, g24, g25⟩ := rdo_Timpl_Attr g1
  obtain rfl : c20 = [vS p1.Name_] := g23
  obtain ⟨a26, c27, rfl⟩ := rd_sl1 g24
  obtain ⟨a28, c29, rfl⟩ := rd_sl1 g25
  unfold laws_eqAttr at H
  refine f_enter (vs := [.agg #[vS p0.Name_, .slice a16 p0.Cuts_.length c17, .slice a18 p0.Values_.length c19], .agg #[vS p1.Name_, .slice a26 p1.Cuts_.length c27, .slice a28 p1.Values_.length c29]]) Tryz.func60 rfl Tryz.ntmps60 rfl (St.init w []) ?_
  refine c_seq ?_
  refine c_reg ?_
  refine ow_box (cs := [vS p0.Name_, .slice a16 p0.Cuts_.length c17, .slice a18 p0.Values_.length c19]) rfl rfl rfl rfl rfl rfl (fun _ => kp) (fun b30 => ?_)
  refine ow_box (cs := [vS p1.Name_, .slice a26 p1.Cuts_.length c27, .slice a28 p1.Values_.length c29]) rfl rfl rfl rfl rfl rfl (fun _ => kp) (fun b31 => ?_)
  refine ow_batch [.p] rfl ?_
  refine ow_nil ?_
  refine x_qs ?_
  refine c_seq ?_
  refine c_seq ?_
  refine c_reg ?_
  refine ow_batch [.fa 83 0 0 fa83_0] rfl ?_
  refine ow_r rfl (dstOk_lt rfl) (ry_box1 (off := 0) rfl rfl ty9 (boxIn (i := 0) rfl) rfl) ?_
  refine ow_batch [.fa 83 0 0 fa83_0] rfl ?_
  refine ow_r rfl (dstOk_lt rfl) (ry_box1 (off := 0) rfl rfl ty9 (boxIn (i := 1) rfl) rfl) ?_
  refine ow_batch [.p] rfl ?_
  refine ow_nil ?_
  refine x_qs ?_
  refine c_if rfl (fun hb => ?_) (fun hb => ?_)
  · have H := of_if_t hb H
    refine c_seq ?_
    refine c_reg ?_
    refine ow_batch [.p] rfl ?_
    refine ow_nil ?_
    refine x_qs ?_
    refine c_ret ?_
    refine x_qs_ret ?_
    exact x_retR (rs := [.tmp 4]) (vs := [.bool false]) rfl ⟨rfl, trivial⟩ (fun w' hw' => by
        obtain rfl := of_some H
        exact ⟨rfl, hw'.ext⟩)
  · have H := of_if_f hb H
    refine c_skip ?_
    refine x_qs ?_
    refine c_seq ?_
    refine c_seq ?_
    refine c_reg ?_
    refine ow_batch [.fa 83 1 1 fa83_1] rfl ?_
    refine ow_r rfl (dstOk_lt rfl) (ry_box1 (off := 1) rfl rfl ty49 (boxIn (i := 0) rfl) rfl) ?_
    refine ow_batch [.fa 83 1 1 fa83_1] rfl ?_
    refine ow_r rfl (dstOk_lt rfl) (ry_box1 (off := 1) rfl rfl ty49 (boxIn (i := 1) rfl) rfl) ?_
    obtain ⟨y32, h33, H⟩ := of_bind H
    refine ow_q rfl rfl (dstOk_lt rfl) (qy_call rfl fn95 rfl (fun w1 hw1 => laws_eqIntS_ok w1  h33 (rds_bor g14 w1 hw1) (rds_bor g24 w1 hw1))) (fun _ _ => trivial) ?_
    refine ow_batch [.p] rfl ?_
    refine ow_nil ?_
    refine x_qs ?_
    refine c_if rfl (fun hb => ?_) (fun hb => ?_)
    · have H := of_if_t hb H
      refine c_seq ?_
      refine c_reg ?_
      refine ow_batch [.p] rfl ?_
      refine ow_nil ?_
      refine x_qs ?_
      refine c_ret ?_
      refine x_qs_ret ?_
      exact x_retR (rs := [.tmp 4]) (vs := [.bool false]) rfl ⟨rfl, trivial⟩ (fun w' hw' => by
          obtain rfl := of_some H
          exact ⟨rfl, hw'.ext⟩)
    · have H := of_if_f hb H
      refine c_skip ?_
      refine x_qs ?_
      refine c_seq ?_
      refine c_seq ?_
      refine c_reg ?_
      refine ow_batch [.fa 83 2 2 fa83_2] rfl ?_
      refine ow_r rfl (dstOk_lt rfl) (ry_box1 (off := 2) rfl rfl ty23 (boxIn (i := 0) rfl) rfl) ?_
      refine ow_batch [.fa 83 2 2 fa83_2] rfl ?_
      refine ow_r rfl (dstOk_lt rfl) (ry_box1 (off := 2) rfl rfl ty23 (boxIn (i := 1) rfl) rfl) ?_
      obtain ⟨y34, h35, H⟩ := of_bind H
      refine ow_q rfl rfl (dstOk_lt rfl) (qy_call rfl fn26 rfl (fun w1 hw1 => laws_eqStringS_ok w1  h35 (rds_bor g15 w1 hw1) (rds_bor g25 w1 hw1))) (fun _ _ => trivial) ?_
      refine ow_batch [.p] rfl ?_
      refine ow_nil ?_
      refine x_qs ?_
      refine c_if rfl (fun hb => ?_) (fun hb => ?_)
      · have H := of_if_t hb H
        refine c_seq ?_
        refine c_reg ?_
        refine ow_batch [.p] rfl ?_
        refine ow_nil ?_
        refine x_qs ?_
        refine c_ret ?_
        refine x_qs_ret ?_
        exact x_retR (rs := [.tmp 4]) (vs := [.bool false]) rfl ⟨rfl, trivial⟩ (fun w' hw' => by
            obtain rfl := of_some H
            exact ⟨rfl, hw'.ext⟩)
      · have H := of_if_f hb H
        refine c_skip ?_
        refine x_qs ?_
        refine c_seq ?_
        refine c_reg ?_
        refine ow_batch [.p] rfl ?_
        refine ow_nil ?_
        refine x_qs ?_
        refine c_ret ?_
        exact x_retR (rs := [.tmp 4]) (vs := [.bool true]) rfl ⟨rfl, trivial⟩ (fun w' hw' => by
            obtain rfl := of_some H
            exact ⟨rfl, hw'.ext⟩)

set_option maxHeartbeats 4000000 in
set_option maxRecDepth 100000 in
theorem laws_eqAttrS_ok (w : World) {p0 : List Timpl_Attr} {p1 : List Timpl_Attr} {a_0 : Option Addr} {n_0 c_0 : Nat} {a_1 : Option Addr} {n_1 c_1 : Nat} {r : Bool} (H : laws_eqAttrS p0 p1 = some r)  (g0 : (eList (eTimpl_Attr) 83).rd w [] p0 [.slice a_0 n_0 c_0]) (g1 : (eList (eTimpl_Attr) 83).rd w [] p1 [.slice a_1 n_1 c_1]) :
    Calls Tryz.prog 25 #[.slice a_0 n_0 c_0, .slice a_1 n_1 c_1] w (fun en w' => en = .returned (.bool r) ∧ Ext [] w w') := by
  obtain rfl := rd_n g0
  obtain rfl := rd_n g1
  unfold laws_eqAttrS at H
  refine f_enter (vs := [.slice a_0 p0.length c_0, .slice a_1 p1.length c_1]) Tryz.func25 rfl Tryz.ntmps25 rfl (St.init w []) ?_
  refine c_seq ?_
  refine c_reg ?_
  refine ow_batch [.p] rfl ?_
  refine ow_nil ?_
  refine x_qs ?_
  refine c_seq ?_
  refine c_seq ?_
  refine c_reg ?_
  refine ow_batch [.p, .lenS 32 83 sl32, .p, .lenS 32 83 sl32, .p] rfl ?_
  refine ow_nil ?_
  refine x_qs ?_
  refine c_if rfl (fun hb => ?_) (fun hb => ?_)
  · have H := of_if_t hb H
    refine c_seq ?_
    refine c_reg ?_
    refine ow_batch [.p] rfl ?_
    refine ow_nil ?_
    refine x_qs ?_
    refine c_ret ?_
    refine x_qs_ret ?_
    exact x_retR (rs := [.tmp 4]) (vs := [.bool false]) rfl ⟨rfl, trivial⟩ (fun w' hw' => by
        obtain rfl := of_some H
        exact ⟨rfl, hw'.ext⟩)
  · have H := of_if_f hb H
    refine c_skip ?_
    refine x_qs ?_
    refine c_seq ?_
    refine c_seq ?_
    refine c_reg ?_
    refine ow_batch [.p] rfl ?_
    refine ow_nil ?_
    refine x_qs ?_
    refine c_block ?_
    refine CW.at (loopI1 (fun (i45 : Int) => St w [] []) (fun (i45 : Int) => [(0, .slice a_0 p0.length c_0), (1, .slice a_1 p1.length c_1), (5, .int .i64 i45)]) (fun kk => fun (i45 : Int) => laws_eqAttrS_L1 p0 p1 kk i45 = some r) (fun _ H => ?_) (fun k1 ihk1 i45 H => ?_) Fuel (0) (H)) (fun _ h => St.sel [] rfl rfl h) ⟨rfl, rfl, rfl,  trivial⟩
    · unfold laws_eqAttrS_L1 at H
      exact absurd H (by simp)
    · unfold laws_eqAttrS_L1 at H
      refine c_seq ?_
      refine c_seq ?_
      refine c_reg ?_
      refine ow_batch [.p, .p, .lenS 32 83 sl32, .p] rfl ?_
      refine ow_nil ?_
      refine x_qs ?_
      refine c_if rfl (fun hb => ?_) (fun hb => ?_)
      · have H := of_if_t hb H
        refine c_skip ?_
        refine x_qs ?_
        refine c_seq ?_
        refine c_block ?_
        refine c_seq ?_
        refine c_regQ mixed (by kernel_rfl) ?_
        refine ow_batch [.p, .p] rfl ?_
        obtain ⟨e81, h82, H⟩ := of_bind H
        refine ow_ixB rfl rfl rfl rfl rfl sl32 ty83 rfl g0 h82 (fun q85 c86 hd83 hA84 => ?_)
        obtain ⟨c87, c88, c89, rfl, g90, g91, g92⟩ := rdo_Timpl_Attr hd83
        obtain rfl : c87 = [vS e81.Name_] := g90
        obtain ⟨a93, c94, rfl⟩ := rd_sl1 g91
        obtain ⟨a95, c96, rfl⟩ := rd_sl1 g92
        refine ow_r rfl (dstOk_lt rfl) (ry_load (cs := [vS e81.Name_, .slice a93 e81.Cuts_.length c94, .slice a95 e81.Values_.length c96]) rfl rfl ty83 (at_bor bor hA84) rfl) ?_
        refine ow_batch [.p, .p] rfl ?_
        obtain ⟨e97, h98, H⟩ := of_bind H
        refine ow_ixB rfl rfl rfl rfl rfl sl32 ty83 rfl g1 h98 (fun q101 c102 hd99 hA100 => ?_)
        obtain ⟨c103, c104, c105, rfl, g106, g107, g108⟩ := rdo_Timpl_Attr hd99
        obtain rfl : c103 = [vS e97.Name_] := g106
        obtain ⟨a109, c110, rfl⟩ := rd_sl1 g107
        obtain ⟨a111, c112, rfl⟩ := rd_sl1 g108
        refine ow_r rfl (dstOk_lt rfl) (ry_load (cs := [vS e97.Name_, .slice a109 e97.Cuts_.length c110, .slice a111 e97.Values_.length c112]) rfl rfl ty83 (at_bor bor hA100) rfl) ?_
        obtain ⟨y113, h114, H⟩ := of_bind H
        refine ow_q rfl rfl (dstOk_lt rfl) (qy_call rfl fn60 rfl (fun w1 hw1 => laws_eqAttr_ok w1 (cs0 := [vS e81.Name_, .slice a93 e81.Cuts_.length c94, .slice a95 e81.Values_.length c96]) (cs1 := [vS e97.Name_, .slice a109 e97.Cuts_.length c110, .slice a111 e97.Values_.length c112]) h114 (rdm_Timpl_Attr (x := e81) (c0 := [vS e81.Name_]) (c1 := [.slice a93 e81.Cuts_.length c94]) (c2 := [.slice a95 e81.Values_.length c96]) rfl (rds_bor g91 w1 hw1) (rds_bor g92 w1 hw1)) (rdm_Timpl_Attr (x := e97) (c0 := [vS e97.Name_]) (c1 := [.slice a109 e97.Cuts_.length c110]) (c2 := [.slice a111 e97.Values_.length c112]) rfl (rds_bor g107 w1 hw1) (rds_bor g108 w1 hw1)))) (fun _ _ => trivial) ?_
        refine ow_batch [.p] rfl ?_
        refine ow_nilQ ?_
        refine x_qs ?_
        refine c_if rfl (fun hb => ?_) (fun hb => ?_)
        · have H := of_if_t hb H
          refine c_seq ?_
          refine c_reg ?_
          refine ow_batch [.p] rfl ?_
          refine ow_nil ?_
          refine x_qs ?_
          refine c_ret ?_
          refine x_qb_ret ?_
          refine x_qs_ret ?_
          refine x_ql_ret ?_
          refine x_qb_ret ?_
          refine x_qs_ret ?_
          exact x_retR (rs := [.tmp 4]) (vs := [.bool false]) rfl ⟨rfl, trivial⟩ (fun w' hw' => by
              obtain rfl := of_some H
              exact ⟨rfl, hw'.ext⟩)
        · have H := of_if_f hb H
          refine c_skip ?_
          refine x_qb ?_
          refine x_qs ?_
          refine c_reg ?_
          refine ow_batch [.p, .p, .p] rfl ?_
          refine ow_nil ?_
          exact x_ql (RW.at (ihk1 (IntKind.i64.wrap (i45 + 1)) (H)) (fun _ h => St.sel [] rfl rfl h) ⟨rfl, rfl, rfl, trivial⟩)
      · have H := of_if_f hb H
        refine c_exit ?_
        refine x_qs_exit ?_
        refine x_ql_exit ?_
        refine x_qb_here ?_
        refine x_qs ?_
        refine c_seq ?_
        refine c_reg ?_
        refine ow_batch [.p] rfl ?_
        refine ow_nil ?_
        refine x_qs ?_
        refine c_ret ?_
        exact x_retR (rs := [.tmp 4]) (vs := [.bool true]) rfl ⟨rfl, trivial⟩ (fun w' hw' => by
            obtain rfl := of_some H
            exact ⟨rfl, hw'.ext⟩)

set_option maxHeartbeats 4000000 in
set_option maxRecDepth 100000 in
theorem laws_eqSchema_ok (w : World) {p0 : Timpl_Schema} {p1 : Timpl_Schema} {cs0 : List Value} {cs1 : List Value} {r : Bool} (H : laws_eqSchema p0 p1 = some r)  (g0 : (eTimpl_Schema).rd w [] p0 cs0) (g1 : (eTimpl_Schema).rd w [] p1 cs1) :
    Calls Tryz.prog 10 #[.agg cs0.toArray, .agg cs1.toArray] w (fun en w' => en = .returned (.bool r) ∧ Ext [] w w') := by
  obtain ⟨c10, c11, rfl, g12, g13⟩ := rdo_Timpl_Schema g0
  obtain ⟨a14, c15, rfl⟩ := rd_sl1 g12
  obtain ⟨a16, c17, rfl⟩ := rd_sl1 g13
  obtain ⟨c18, c19, rfl, g20, g21⟩ := rdo_Timpl_Schema g1
  obtain ⟨a22, c23, rfl⟩ := rd_sl1 g20
  obtain ⟨a24, c25, rfl⟩ := rd_sl1 g21
  unfold laws_eqSchema at H
  refine f_enter (vs := [.agg #[.slice a14 p0.Attrs_.length c15, .slice a16 p0.Classes_.length c17], .agg #[.slice a22 p1.Attrs_.length c23, .slice a24 p1.Classes_.length c25]]) Tryz.func10 rfl Tryz.ntmps10 rfl (St.init w []) ?_
  refine c_seq ?_
  refine c_reg ?_
  refine ow_box (cs := [.slice a14 p0.Attrs_.length c15, .slice a16 p0.Classes_.length c17]) rfl rfl rfl rfl rfl rfl (fun _ => kp) (fun b26 => ?_)
  refine ow_box (cs := [.slice a22 p1.Attrs_.length c23, .slice a24 p1.Classes_.length c25]) rfl rfl rfl rfl rfl rfl (fun _ => kp) (fun b27 => ?_)
  refine ow_batch [.p] rfl ?_
  refine ow_nil ?_
  refine x_qs ?_
  refine c_seq ?_
  refine c_seq ?_
  refine c_reg ?_
  refine ow_batch [.fa 34 0 0 fa34_0] rfl ?_
  refine ow_r rfl (dstOk_lt rfl) (ry_box1 (off := 0) rfl rfl ty32 (boxIn (i := 0) rfl) rfl) ?_
  refine ow_batch [.fa 34 0 0 fa34_0] rfl ?_
  refine ow_r rfl (dstOk_lt rfl) (ry_box1 (off := 0) rfl rfl ty32 (boxIn (i := 1) rfl) rfl) ?_
  obtain ⟨y28, h29, H⟩ := of_bind H
  refine ow_q rfl rfl (dstOk_lt rfl) (qy_call rfl fn25 rfl (fun w1 hw1 => laws_eqAttrS_ok w1  h29 (rds_bor g12 w1 hw1) (rds_bor g20 w1 hw1))) (fun _ _ => trivial) ?_
  refine ow_batch [.p] rfl ?_
  refine ow_nil ?_
  refine x_qs ?_
  refine c_if rfl (fun hb => ?_) (fun hb => ?_)
  · have H := of_if_t hb H
    refine c_seq ?_
    refine c_reg ?_
    refine ow_batch [.p] rfl ?_
    refine ow_nil ?_
    refine x_qs ?_
    refine c_ret ?_
    refine x_qs_ret ?_
    exact x_retR (rs := [.tmp 4]) (vs := [.bool false]) rfl ⟨rfl, trivial⟩ (fun w' hw' => by
        obtain rfl := of_some H
        exact ⟨rfl, hw'.ext⟩)
  · have H := of_if_f hb H
    refine c_skip ?_
    refine x_qs ?_
    refine c_seq ?_
    refine c_seq ?_
    refine c_reg ?_
    refine ow_batch [.fa 34 1 1 fa34_1] rfl ?_
    refine ow_r rfl (dstOk_lt rfl) (ry_box1 (off := 1) rfl rfl ty23 (boxIn (i := 0) rfl) rfl) ?_
    refine ow_batch [.fa 34 1 1 fa34_1] rfl ?_
    refine ow_r rfl (dstOk_lt rfl) (ry_box1 (off := 1) rfl rfl ty23 (boxIn (i := 1) rfl) rfl) ?_
    obtain ⟨y30, h31, H⟩ := of_bind H
    refine ow_q rfl rfl (dstOk_lt rfl) (qy_call rfl fn26 rfl (fun w1 hw1 => laws_eqStringS_ok w1  h31 (rds_bor g13 w1 hw1) (rds_bor g21 w1 hw1))) (fun _ _ => trivial) ?_
    refine ow_batch [.p] rfl ?_
    refine ow_nil ?_
    refine x_qs ?_
    refine c_if rfl (fun hb => ?_) (fun hb => ?_)
    · have H := of_if_t hb H
      refine c_seq ?_
      refine c_reg ?_
      refine ow_batch [.p] rfl ?_
      refine ow_nil ?_
      refine x_qs ?_
      refine c_ret ?_
      refine x_qs_ret ?_
      exact x_retR (rs := [.tmp 4]) (vs := [.bool false]) rfl ⟨rfl, trivial⟩ (fun w' hw' => by
          obtain rfl := of_some H
          exact ⟨rfl, hw'.ext⟩)
    · have H := of_if_f hb H
      refine c_skip ?_
      refine x_qs ?_
      refine c_seq ?_
      refine c_reg ?_
      refine ow_batch [.p] rfl ?_
      refine ow_nil ?_
      refine x_qs ?_
      refine c_ret ?_
      exact x_retR (rs := [.tmp 4]) (vs := [.bool true]) rfl ⟨rfl, trivial⟩ (fun w' hw' => by
          obtain rfl := of_some H
          exact ⟨rfl, hw'.ext⟩)

set_option maxHeartbeats 4000000 in
set_option maxRecDepth 100000 in
theorem laws_eqFork_ok (w : World) {p0 : Timpl_Fork} {p1 : Timpl_Fork}  {r : Bool} (H : laws_eqFork p0 p1 = some r)   :
    Calls Tryz.prog 96 #[.agg #[.int .i64 p0.Attr_, .int .i64 p0.At_], .agg #[.int .i64 p1.Attr_, .int .i64 p1.At_]] w (fun en w' => en = .returned (.bool r) ∧ Ext [] w w') := by
  unfold laws_eqFork at H
  refine f_enter (vs := [.agg #[.int .i64 p0.Attr_, .int .i64 p0.At_], .agg #[.int .i64 p1.Attr_, .int .i64 p1.At_]]) Tryz.func96 rfl Tryz.ntmps96 rfl (St.init w []) ?_
  refine c_seq ?_
  refine c_reg ?_
  refine ow_box (cs := [.int .i64 p0.Attr_, .int .i64 p0.At_]) rfl rfl rfl rfl rfl rfl (fun _ => kp) (fun b10 => ?_)
  refine ow_box (cs := [.int .i64 p1.Attr_, .int .i64 p1.At_]) rfl rfl rfl rfl rfl rfl (fun _ => kp) (fun b11 => ?_)
  refine ow_batch [.p] rfl ?_
  refine ow_nil ?_
  refine x_qs ?_
  refine c_seq ?_
  refine c_seq ?_
  refine c_reg ?_
  refine ow_batch [.fa 48 0 0 fa48_0] rfl ?_
  refine ow_r rfl (dstOk_lt rfl) (ry_box1 (off := 0) rfl rfl ty3 (boxIn (i := 0) rfl) rfl) ?_
  refine ow_batch [.fa 48 0 0 fa48_0] rfl ?_
  refine ow_r rfl (dstOk_lt rfl) (ry_box1 (off := 0) rfl rfl ty3 (boxIn (i := 1) rfl) rfl) ?_
  refine ow_batch [.p] rfl ?_
  refine ow_nil ?_
  refine x_qs ?_
  refine c_if rfl (fun hb => ?_) (fun hb => ?_)
  · have H := of_if_t hb H
    refine c_seq ?_
    refine c_reg ?_
    refine ow_batch [.p] rfl ?_
    refine ow_nil ?_
    refine x_qs ?_
    refine c_ret ?_
    refine x_qs_ret ?_
    exact x_retR (rs := [.tmp 4]) (vs := [.bool false]) rfl ⟨rfl, trivial⟩ (fun w' hw' => by
        obtain rfl := of_some H
        exact ⟨rfl, hw'.ext⟩)
  · have H := of_if_f hb H
    refine c_skip ?_
    refine x_qs ?_
    refine c_seq ?_
    refine c_seq ?_
    refine c_reg ?_
    refine ow_batch [.fa 48 1 1 fa48_1] rfl ?_
    refine ow_r rfl (dstOk_lt rfl) (ry_box1 (off := 1) rfl rfl ty3 (boxIn (i := 0) rfl) rfl) ?_
    refine ow_batch [.fa 48 1 1 fa48_1] rfl ?_
    refine ow_r rfl (dstOk_lt rfl) (ry_box1 (off := 1) rfl rfl ty3 (boxIn (i := 1) rfl) rfl) ?_
    refine ow_batch [.p] rfl ?_
    refine ow_nil ?_
    refine x_qs ?_
    refine c_if rfl (fun hb => ?_) (fun hb => ?_)
    · have H := of_if_t hb H
      refine c_seq ?_
      refine c_reg ?_
      refine ow_batch [.p] rfl ?_
      refine ow_nil ?_
      refine x_qs ?_
      refine c_ret ?_
      refine x_qs_ret ?_
      exact x_retR (rs := [.tmp 4]) (vs := [.bool false]) rfl ⟨rfl, trivial⟩ (fun w' hw' => by
          obtain rfl := of_some H
          exact ⟨rfl, hw'.ext⟩)
    · have H := of_if_f hb H
      refine c_skip ?_
      refine x_qs ?_
      refine c_seq ?_
      refine c_reg ?_
      refine ow_batch [.p] rfl ?_
      refine ow_nil ?_
      refine x_qs ?_
      refine c_ret ?_
      exact x_retR (rs := [.tmp 4]) (vs := [.bool true]) rfl ⟨rfl, trivial⟩ (fun w' hw' => by
          obtain rfl := of_some H
          exact ⟨rfl, hw'.ext⟩)

set_option maxHeartbeats 4000000 in
set_option maxRecDepth 100000 in
theorem laws_eqIntSS_ok (w : World) {p0 : List (List Int)} {p1 : List (List Int)} {a_0 : Option Addr} {n_0 c_0 : Nat} {a_1 : Option Addr} {n_1 c_1 : Nat} {r : Bool} (H : laws_eqIntSS p0 p1 = some r)  (g0 : (eList (eList (eVal (Value.int .i64) (fun _ => rfl)) 3) 49).rd w [] p0 [.slice a_0 n_0 c_0]) (g1 : (eList (eList (eVal (Value.int .i64) (fun _ => rfl)) 3) 49).rd w [] p1 [.slice a_1 n_1 c_1]) :
    Calls Tryz.prog 109 #[.slice a_0 n_0 c_0, .slice a_1 n_1 c_1] w (fun en w' => en = .returned (.bool r) ∧ Ext [] w w') := by
  obtain rfl := rd_n g0
  obtain rfl := rd_n g1
  unfold laws_eqIntSS at H
  refine f_enter (vs := [.slice a_0 p0.length c_0, .slice a_1 p1.length c_1]) Tryz.func109 rfl Tryz.ntmps109 rfl (St.init w []) ?_
  refine c_seq ?_
  refine c_reg ?_
  refine ow_batch [.p] rfl ?_
  refine ow_nil ?_
  refine x_qs ?_
  refine c_seq ?_
  refine c_seq ?_
  refine c_reg ?_
  refine ow_batch [.p, .lenS 50 49 sl50, .p, .lenS 50 49 sl50, .p] rfl ?_
  refine ow_nil ?_
  refine x_qs ?_
  refine c_if rfl (fun hb => ?_) (fun hb => ?_)
  · have H := of_if_t hb H
    refine c_seq ?_
    refine c_reg ?_
    refine ow_batch [.p] rfl ?_
    refine ow_nil ?_
    refine x_qs ?_
    refine c_ret ?_
    refine x_qs_ret ?_
    exact x_retR (rs := [.tmp 4]) (vs := [.bool false]) rfl ⟨rfl, trivial⟩ (fun w' hw' => by
        obtain rfl := of_some H
        exact ⟨rfl, hw'.ext⟩)
  · have H := of_if_f hb H
    refine c_skip ?_
    refine x_qs ?_
    refine c_seq ?_
    refine c_seq ?_
    refine c_reg ?_
    refine ow_batch [.p] rfl ?_
    refine ow_nil ?_
    refine x_qs ?_
    refine c_block ?_
    refine CW.at (loopI1 (fun (i29 : Int) => St w [] []) (fun (i29 : Int) => [(0, .slice a_0 p0.length c_0), (1, .slice a_1 p1.length c_1), (5, .int .i64 i29)]) (fun kk => fun (i29 : Int) => laws_eqIntSS_L1 p0 p1 kk i29 = some r) (fun _ H => ?_) (fun k1 ihk1 i29 H => ?_) Fuel (0) (H)) (fun _ h => St.sel [] rfl rfl h) ⟨rfl, rfl, rfl,  trivial⟩
    · unfold laws_eqIntSS_L1 at H
      exact absurd H (by simp)
    · unfold laws_eqIntSS_L1 at H
      refine c_seq ?_
      refine c_seq ?_
      refine c_reg ?_
      refine ow_batch [.p, .p, .lenS 50 49 sl50, .p] rfl ?_
      refine ow_nil ?_
      refine x_qs ?_
      refine c_if rfl (fun hb => ?_) (fun hb => ?_)
      · have H := of_if_t hb H
        refine c_skip ?_
        refine x_qs ?_
        refine c_seq ?_
        refine c_block ?_
        refine c_seq ?_
        refine c_regQ mixed (by kernel_rfl) ?_
        refine ow_batch [.p, .p] rfl ?_
        obtain ⟨e49, h50, H⟩ := of_bind H
        refine ow_ixB rfl rfl rfl rfl rfl sl50 ty49 rfl g0 h50 (fun q53 c54 hd51 hA52 => ?_)
        obtain ⟨a55, c56, rfl⟩ := rd_sl1 hd51
        refine ow_r rfl (dstOk_lt rfl) (ry_load1 rfl rfl ty49 (at_bor bor hA52)) ?_
        refine ow_batch [.p, .p] rfl ?_
        obtain ⟨e57, h58, H⟩ := of_bind H
        refine ow_ixB rfl rfl rfl rfl rfl sl50 ty49 rfl g1 h58 (fun q61 c62 hd59 hA60 => ?_)
        obtain ⟨a63, c64, rfl⟩ := rd_sl1 hd59
        refine ow_r rfl (dstOk_lt rfl) (ry_load1 rfl rfl ty49 (at_bor bor hA60)) ?_
        obtain ⟨y65, h66, H⟩ := of_bind H
        refine ow_q rfl rfl (dstOk_lt rfl) (qy_call rfl fn95 rfl (fun w1 hw1 => laws_eqIntS_ok w1  h66 (rds_bor hd51 w1 hw1) (rds_bor hd59 w1 hw1))) (fun _ _ => trivial) ?_
        refine ow_batch [.p] rfl ?_
        refine ow_nilQ ?_
        refine x_qs ?_
        refine c_if rfl (fun hb => ?_) (fun hb => ?_)
        · have H := of_if_t hb H
          refine c_seq ?_
          refine c_reg ?_
          refine ow_batch [.p] rfl ?_
          refine ow_nil ?_
          refine x_qs ?_
          refine c_ret ?_
          refine x_qb_ret ?_
          refine x_qs_ret ?_
          refine x_ql_ret ?_
          refine x_qb_ret ?_
          refine x_qs_ret ?_
          exact x_retR (rs := [.tmp 4]) (vs := [.bool false]) rfl ⟨rfl, trivial⟩ (fun w' hw' => by
              obtain rfl := of_some H
              exact ⟨rfl, hw'.ext⟩)
        · have H := of_if_f hb H
          refine c_skip ?_
          refine x_qb ?_
          refine x_qs ?_
          refine c_reg ?_
          refine ow_batch [.p, .p, .p] rfl ?_
          refine ow_nil ?_
          exact x_ql (RW.at (ihk1 (IntKind.i64.wrap (i29 + 1)) (H)) (fun _ h => St.sel [] rfl rfl h) ⟨rfl, rfl, rfl, trivial⟩)
      · have H := of_if_f hb H
        refine c_exit ?_
        refine x_qs_exit ?_
        refine x_ql_exit ?_
        refine x_qb_here ?_
        refine x_qs ?_
        refine c_seq ?_
        refine c_reg ?_
        refine ow_batch [.p] rfl ?_
        refine ow_nil ?_
        refine x_qs ?_
        refine c_ret ?_
        exact x_retR (rs := [.tmp 4]) (vs := [.bool true]) rfl ⟨rfl, trivial⟩ (fun w' hw' => by
            obtain rfl := of_some H
            exact ⟨rfl, hw'.ext⟩)

set_option maxHeartbeats 4000000 in
set_option maxRecDepth 100000 in
theorem laws_eqStats_ok (w : World) {p0 : Timpl_Stats} {p1 : Timpl_Stats} {cs0 : List Value} {cs1 : List Value} {r : Bool} (H : laws_eqStats p0 p1 = some r)  (g0 : (eTimpl_Stats).rd w [] p0 cs0) (g1 : (eTimpl_Stats).rd w [] p1 cs1) :
    Calls Tryz.prog 97 #[.agg cs0.toArray, .agg cs1.toArray] w (fun en w' => en = .returned (.bool r) ∧ Ext [] w w') := by
  obtain ⟨c10, c11, rfl, g12, g13⟩ := rdo_Timpl_Stats g0
  obtain ⟨a14, c15, rfl⟩ := rd_sl1 g12
  obtain ⟨a16, c17, rfl⟩ := rd_sl1 g13
  obtain ⟨c18, c19, rfl, g20, g21⟩ := rdo_Timpl_Stats g1
  obtain ⟨a22, c23, rfl⟩ := rd_sl1 g20
  obtain ⟨a24, c25, rfl⟩ := rd_sl1 g21
  unfold laws_eqStats at H
  refine f_enter (vs := [.agg #[.slice a14 p0.Totals_.length c15, .slice a16 p0.Cells_.length c17], .agg #[.slice a22 p1.Totals_.length c23, .slice a24 p1.Cells_.length c25]]) Tryz.func97 rfl Tryz.ntmps97 rfl (St.init w []) ?_
  refine c_seq ?_
  refine c_reg ?_
  refine ow_box (cs := [.slice a14 p0.Totals_.length c15, .slice a16 p0.Cells_.length c17]) rfl rfl rfl rfl rfl rfl (fun _ => kp) (fun b26 => ?_)
  refine ow_box (cs := [.slice a22 p1.Totals_.length c23, .slice a24 p1.Cells_.length c25]) rfl rfl rfl rfl rfl rfl (fun _ => kp) (fun b27 => ?_)
  refine ow_batch [.p] rfl ?_
  refine ow_nil ?_
  refine x_qs ?_
  refine c_seq ?_
  refine c_seq ?_
  refine c_reg ?_
  refine ow_batch [.fa 52 0 0 fa52_0] rfl ?_
  refine ow_r rfl (dstOk_lt rfl) (ry_box1 (off := 0) rfl rfl ty49 (boxIn (i := 0) rfl) rfl) ?_
  refine ow_batch [.fa 52 0 0 fa52_0] rfl ?_
  refine ow_r rfl (dstOk_lt rfl) (ry_box1 (off := 0) rfl rfl ty49 (boxIn (i := 1) rfl) rfl) ?_
  obtain ⟨y28, h29, H⟩ := of_bind H
  refine ow_q rfl rfl (dstOk_lt rfl) (qy_call rfl fn95 rfl (fun w1 hw1 => laws_eqIntS_ok w1  h29 (rds_bor g12 w1 hw1) (rds_bor g20 w1 hw1))) (fun _ _ => trivial) ?_
  refine ow_batch [.p] rfl ?_
  refine ow_nil ?_
  refine x_qs ?_
  refine c_if rfl (fun hb => ?_) (fun hb => ?_)
  · have H := of_if_t hb H
    refine c_seq ?_
    refine c_reg ?_
    refine ow_batch [.p] rfl ?_
    refine ow_nil ?_
    refine x_qs ?_
    refine c_ret ?_
    refine x_qs_ret ?_
    exact x_retR (rs := [.tmp 4]) (vs := [.bool false]) rfl ⟨rfl, trivial⟩ (fun w' hw' => by
        obtain rfl := of_some H
        exact ⟨rfl, hw'.ext⟩)
  · have H := of_if_f hb H
    refine c_skip ?_
    refine x_qs ?_
    refine c_seq ?_
    refine c_seq ?_
    refine c_reg ?_
    refine ow_batch [.fa 52 1 1 fa52_1] rfl ?_
    refine ow_r rfl (dstOk_lt rfl) (ry_box1 (off := 1) rfl rfl ty50 (boxIn (i := 0) rfl) rfl) ?_
    refine ow_batch [.fa 52 1 1 fa52_1] rfl ?_
    refine ow_r rfl (dstOk_lt rfl) (ry_box1 (off := 1) rfl rfl ty50 (boxIn (i := 1) rfl) rfl) ?_
    obtain ⟨y30, h31, H⟩ := of_bind H
    refine ow_q rfl rfl (dstOk_lt rfl) (qy_call rfl fn109 rfl (fun w1 hw1 => laws_eqIntSS_ok w1  h31 (rds_bor g13 w1 hw1) (rds_bor g21 w1 hw1))) (fun _ _ => trivial) ?_
    refine ow_batch [.p] rfl ?_
    refine ow_nil ?_
    refine x_qs ?_
    refine c_if rfl (fun hb => ?_) (fun hb => ?_)
    · have H := of_if_t hb H
      refine c_seq ?_
      refine c_reg ?_
      refine ow_batch [.p] rfl ?_
      refine ow_nil ?_
      refine x_qs ?_
      refine c_ret ?_
      refine x_qs_ret ?_
      exact x_retR (rs := [.tmp 4]) (vs := [.bool false]) rfl ⟨rfl, trivial⟩ (fun w' hw' => by
          obtain rfl := of_some H
          exact ⟨rfl, hw'.ext⟩)
    · have H := of_if_f hb H
      refine c_skip ?_
      refine x_qs ?_
      refine c_seq ?_
      refine c_reg ?_
      refine ow_batch [.p] rfl ?_
      refine ow_nil ?_
      refine x_qs ?_
      refine c_ret ?_
      exact x_retR (rs := [.tmp 4]) (vs := [.bool true]) rfl ⟨rfl, trivial⟩ (fun w' hw' => by
          obtain rfl := of_some H
          exact ⟨rfl, hw'.ext⟩)

set_option maxHeartbeats 4000000 in
set_option maxRecDepth 100000 in
theorem laws_eqNode_ok (w : World) {p0 : Timpl_Node} {p1 : Timpl_Node} {cs0 : List Value} {cs1 : List Value} {r : Bool} (H : laws_eqNode p0 p1 = some r)  (g0 : (eTimpl_Node).rd w [] p0 cs0) (g1 : (eTimpl_Node).rd w [] p1 cs1) :
    Calls Tryz.prog 61 #[.agg cs0.toArray, .agg cs1.toArray] w (fun en w' => en = .returned (.bool r) ∧ Ext [] w w') := by
  obtain ⟨c10, c11, c12, c13, c14, c15, c16, c17, c18, c19, rfl, g20, g21, g22, g23, g24, g25, g26, g27, g28, g29⟩ := rdo_Timpl_Node g0
  obtain rfl : c10 = [.bool p0.Leaf_] := g20
  obtain rfl : c11 = [.int .i64 p0.Fork_.Attr_, .int .i64 p0.Fork_.At_] := g21
  obtain ⟨a30, c31, rfl⟩ := rd_sl1 g22
  obtain rfl : c13 = [.int .i64 p0.Miss_] := g23
  obtain ⟨c32, c33, rfl, g34, g35⟩ := rdo_Timpl_Stats g24
  obtain ⟨a36, c37, rfl⟩ := rd_sl1 g34
  obtain ⟨a38, c39, rfl⟩ := rd_sl1 g35
  obtain rfl : c15 = [.int .i64 p0.Since_] := g25
  obtain ⟨a40, c41, rfl⟩ := rd_sl1 g26
  obtain rfl : c17 = [.int .i64 p0.Depth_] := g27
  obtain rfl : c18 = [.int .i64 p0.Up_] := g28
  obtain rfl : c19 = [.int .i64 p0.Born_] := g29
  obtain ⟨c42, c43, c44, c45, c46, c47, c48, c49, c50, c51, rfl, g52, g53, g54, g55, g56, g57, g58, g59, g60, g61⟩ := rdo_Timpl_Node g1
  obtain rfl : c42 = [.bool p1.Leaf_] := g52
  obtain rfl : c43 = [.int .i64 p1.Fork_.Attr_, .int .i64 p1.Fork_.At_] := g53
  obtain ⟨a62, c63, rfl⟩ := rd_sl1 g54
  obtain rfl : c45 = [.int .i64 p1.Miss_] := g55
  obtain ⟨c64, c65, rfl, g66, g67⟩ := rdo_Timpl_Stats g56
  obtain ⟨a68, c69, rfl⟩ := rd_sl1 g66
  obtain ⟨a70, c71, rfl⟩ := rd_sl1 g67
  obtain rfl : c47 = [.int .i64 p1.Since_] := g57
  obtain ⟨a72, c73, rfl⟩ := rd_sl1 g58
  obtain rfl : c49 = [.int .i64 p1.Depth_] := g59
  obtain rfl : c50 = [.int .i64 p1.Up_] := g60
  obtain rfl : c51 = [.int .i64 p1.Born_] := g61
  unfold laws_eqNode at H
  refine f_enter (vs := [.agg #[.bool p0.Leaf_, .int .i64 p0.Fork_.Attr_, .int .i64 p0.Fork_.At_, .slice a30 p0.Kids_.length c31, .int .i64 p0.Miss_, .slice a36 p0.Stats_.Totals_.length c37, .slice a38 p0.Stats_.Cells_.length c39, .int .i64 p0.Since_, .slice a40 p0.Attrs_.length c41, .int .i64 p0.Depth_, .int .i64 p0.Up_, .int .i64 p0.Born_], .agg #[.bool p1.Leaf_, .int .i64 p1.Fork_.Attr_, .int .i64 p1.Fork_.At_, .slice a62 p1.Kids_.length c63, .int .i64 p1.Miss_, .slice a68 p1.Stats_.Totals_.length c69, .slice a70 p1.Stats_.Cells_.length c71, .int .i64 p1.Since_, .slice a72 p1.Attrs_.length c73, .int .i64 p1.Depth_, .int .i64 p1.Up_, .int .i64 p1.Born_]]) Tryz.func61 rfl Tryz.ntmps61 rfl (St.init w []) ?_
  refine c_seq ?_
  refine c_reg ?_
  refine ow_box (cs := [.bool p0.Leaf_, .int .i64 p0.Fork_.Attr_, .int .i64 p0.Fork_.At_, .slice a30 p0.Kids_.length c31, .int .i64 p0.Miss_, .slice a36 p0.Stats_.Totals_.length c37, .slice a38 p0.Stats_.Cells_.length c39, .int .i64 p0.Since_, .slice a40 p0.Attrs_.length c41, .int .i64 p0.Depth_, .int .i64 p0.Up_, .int .i64 p0.Born_]) rfl rfl rfl rfl rfl rfl (fun _ => kp) (fun b74 => ?_)
  refine ow_box (cs := [.bool p1.Leaf_, .int .i64 p1.Fork_.Attr_, .int .i64 p1.Fork_.At_, .slice a62 p1.Kids_.length c63, .int .i64 p1.Miss_, .slice a68 p1.Stats_.Totals_.length c69, .slice a70 p1.Stats_.Cells_.length c71, .int .i64 p1.Since_, .slice a72 p1.Attrs_.length c73, .int .i64 p1.Depth_, .int .i64 p1.Up_, .int .i64 p1.Born_]) rfl rfl rfl rfl rfl rfl (fun _ => kp) (fun b75 => ?_)
  refine ow_batch [.p] rfl ?_
  refine ow_nil ?_
  refine x_qs ?_
  refine c_seq ?_
  refine c_seq ?_
  refine c_reg ?_
  refine ow_batch [.fa 54 0 0 fa54_0] rfl ?_
  refine ow_r rfl (dstOk_lt rfl) (ry_box1 (off := 0) rfl rfl ty4 (boxIn (i := 0) rfl) rfl) ?_
  refine ow_batch [.fa 54 0 0 fa54_0] rfl ?_
  refine ow_r rfl (dstOk_lt rfl) (ry_box1 (off := 0) rfl rfl ty4 (boxIn (i := 1) rfl) rfl) ?_
  refine ow_r rfl (dstOk_lt rfl) (ry_bneq rfl rfl rfl bl4) ?_
  refine ow_nil ?_
  refine x_qs ?_
  refine c_if rfl (fun hb => ?_) (fun hb => ?_)
  · have H := of_if_t hb H
    refine c_seq ?_
    refine c_reg ?_
    refine ow_batch [.p] rfl ?_
    refine ow_nil ?_
    refine x_qs ?_
    refine c_ret ?_
    refine x_qs_ret ?_
    exact x_retR (rs := [.tmp 4]) (vs := [.bool false]) rfl ⟨rfl, trivial⟩ (fun w' hw' => by
        obtain rfl := of_some H
        exact ⟨rfl, hw'.ext⟩)
  · have H := of_if_f hb H
    refine c_skip ?_
    refine x_qs ?_
    refine c_seq ?_
    refine c_seq ?_
    refine c_reg ?_
    refine ow_batch [.fa 54 1 1 fa54_1] rfl ?_
    refine ow_r rfl (dstOk_lt rfl) (ry_box (off := 1) (ds := [.int .i64 p0.Fork_.Attr_, .int .i64 p0.Fork_.At_]) rfl rfl ty48 (boxIn (i := 0) rfl) rfl rfl) ?_
    refine ow_batch [.fa 54 1 1 fa54_1] rfl ?_
    refine ow_r rfl (dstOk_lt rfl) (ry_box (off := 1) (ds := [.int .i64 p1.Fork_.Attr_, .int .i64 p1.Fork_.At_]) rfl rfl ty48 (boxIn (i := 1) rfl) rfl rfl) ?_
    obtain ⟨y76, h77, H⟩ := of_bind H
    refine ow_q rfl rfl (dstOk_lt rfl) (qy_call rfl fn96 rfl (fun w1 hw1 => laws_eqFork_ok w1 (p0 := p0.Fork_) (p1 := p1.Fork_) h77)) (fun _ _ => trivial) ?_
    refine ow_batch [.p] rfl ?_
    refine ow_nil ?_
    refine x_qs ?_
    refine c_if rfl (fun hb => ?_) (fun hb => ?_)
    · have H := of_if_t hb H
      refine c_seq ?_
      refine c_reg ?_
      refine ow_batch [.p] rfl ?_
      refine ow_nil ?_
      refine x_qs ?_
      refine c_ret ?_
      refine x_qs_ret ?_
      exact x_retR (rs := [.tmp 4]) (vs := [.bool false]) rfl ⟨rfl, trivial⟩ (fun w' hw' => by
          obtain rfl := of_some H
          exact ⟨rfl, hw'.ext⟩)
    · have H := of_if_f hb H
      refine c_skip ?_
      refine x_qs ?_
      refine c_seq ?_
      refine c_seq ?_
      refine c_reg ?_
      refine ow_batch [.fa 54 2 3 fa54_2] rfl ?_
      refine ow_r rfl (dstOk_lt rfl) (ry_box1 (off := 3) rfl rfl ty49 (boxIn (i := 0) rfl) rfl) ?_
      refine ow_batch [.fa 54 2 3 fa54_2] rfl ?_
      refine ow_r rfl (dstOk_lt rfl) (ry_box1 (off := 3) rfl rfl ty49 (boxIn (i := 1) rfl) rfl) ?_
      obtain ⟨y78, h79, H⟩ := of_bind H
      refine ow_q rfl rfl (dstOk_lt rfl) (qy_call rfl fn95 rfl (fun w1 hw1 => laws_eqIntS_ok w1  h79 (rds_bor g22 w1 hw1) (rds_bor g54 w1 hw1))) (fun _ _ => trivial) ?_
      refine ow_batch [.p] rfl ?_
      refine ow_nil ?_
      refine x_qs ?_
      refine c_if rfl (fun hb => ?_) (fun hb => ?_)
      · have H := of_if_t hb H
        refine c_seq ?_
        refine c_reg ?_
        refine ow_batch [.p] rfl ?_
        refine ow_nil ?_
        refine x_qs ?_
        refine c_ret ?_
        refine x_qs_ret ?_
        exact x_retR (rs := [.tmp 4]) (vs := [.bool false]) rfl ⟨rfl, trivial⟩ (fun w' hw' => by
            obtain rfl := of_some H
            exact ⟨rfl, hw'.ext⟩)
      · have H := of_if_f hb H
        refine c_skip ?_
        refine x_qs ?_
        refine c_seq ?_
        refine c_seq ?_
        refine c_reg ?_
        refine ow_batch [.fa 54 3 4 fa54_3] rfl ?_
        refine ow_r rfl (dstOk_lt rfl) (ry_box1 (off := 4) rfl rfl ty3 (boxIn (i := 0) rfl) rfl) ?_
        refine ow_batch [.fa 54 3 4 fa54_3] rfl ?_
        refine ow_r rfl (dstOk_lt rfl) (ry_box1 (off := 4) rfl rfl ty3 (boxIn (i := 1) rfl) rfl) ?_
        refine ow_batch [.p] rfl ?_
        refine ow_nil ?_
        refine x_qs ?_
        refine c_if rfl (fun hb => ?_) (fun hb => ?_)
        · have H := of_if_t hb H
          refine c_seq ?_
          refine c_reg ?_
          refine ow_batch [.p] rfl ?_
          refine ow_nil ?_
          refine x_qs ?_
          refine c_ret ?_
          refine x_qs_ret ?_
          exact x_retR (rs := [.tmp 4]) (vs := [.bool false]) rfl ⟨rfl, trivial⟩ (fun w' hw' => by
              obtain rfl := of_some H
              exact ⟨rfl, hw'.ext⟩)
        · have H := of_if_f hb H
          refine c_skip ?_
          refine x_qs ?_
          refine c_seq ?_
          refine c_seq ?_
          refine c_reg ?_
          refine ow_batch [.fa 54 4 5 fa54_4] rfl ?_
          refine ow_r rfl (dstOk_lt rfl) (ry_box (off := 5) (ds := [.slice a36 p0.Stats_.Totals_.length c37, .slice a38 p0.Stats_.Cells_.length c39]) rfl rfl ty52 (boxIn (i := 0) rfl) rfl rfl) ?_
          refine ow_batch [.fa 54 4 5 fa54_4] rfl ?_
          refine ow_r rfl (dstOk_lt rfl) (ry_box (off := 5) (ds := [.slice a68 p1.Stats_.Totals_.length c69, .slice a70 p1.Stats_.Cells_.length c71]) rfl rfl ty52 (boxIn (i := 1) rfl) rfl rfl) ?_
          obtain ⟨y80, h81, H⟩ := of_bind H
          refine ow_q rfl rfl (dstOk_lt rfl) (qy_call rfl fn97 rfl (fun w1 hw1 => laws_eqStats_ok w1 (cs0 := [.slice a36 p0.Stats_.Totals_.length c37, .slice a38 p0.Stats_.Cells_.length c39]) (cs1 := [.slice a68 p1.Stats_.Totals_.length c69, .slice a70 p1.Stats_.Cells_.length c71]) h81 (rdm_Timpl_Stats (x := p0.Stats_) (c0 := [.slice a36 p0.Stats_.Totals_.length c37]) (c1 := [.slice a38 p0.Stats_.Cells_.length c39]) (rds_bor g34 w1 hw1) (rds_bor g35 w1 hw1)) (rdm_Timpl_Stats (x := p1.Stats_) (c0 := [.slice a68 p1.Stats_.Totals_.length c69]) (c1 := [.slice a70 p1.Stats_.Cells_.length c71]) (rds_bor g66 w1 hw1) (rds_bor g67 w1 hw1)))) (fun _ _ => trivial) ?_
          refine ow_batch [.p] rfl ?_
          refine ow_nil ?_
          refine x_qs ?_
          refine c_if rfl (fun hb => ?_) (fun hb => ?_)
          · have H := of_if_t hb H
            refine c_seq ?_
            refine c_reg ?_
            refine ow_batch [.p] rfl ?_
            refine ow_nil ?_
            refine x_qs ?_
            refine c_ret ?_
            refine x_qs_ret ?_
            exact x_retR (rs := [.tmp 4]) (vs := [.bool false]) rfl ⟨rfl, trivial⟩ (fun w' hw' => by
                obtain rfl := of_some H
                exact ⟨rfl, hw'.ext⟩)
          · have H := of_if_f hb H
            refine c_skip ?_
            refine x_qs ?_
            refine c_seq ?_
            refine c_seq ?_
            refine c_reg ?_
            refine ow_batch [.fa 54 5 7 fa54_5] rfl ?_
            refine ow_r rfl (dstOk_lt rfl) (ry_box1 (off := 7) rfl rfl ty3 (boxIn (i := 0) rfl) rfl) ?_
            refine ow_batch [.fa 54 5 7 fa54_5] rfl ?_
            refine ow_r rfl (dstOk_lt rfl) (ry_box1 (off := 7) rfl rfl ty3 (boxIn (i := 1) rfl) rfl) ?_
            refine ow_batch [.p] rfl ?_
            refine ow_nil ?_
            refine x_qs ?_
            refine c_if rfl (fun hb => ?_) (fun hb => ?_)
            · have H := of_if_t hb H
              refine c_seq ?_
              refine c_reg ?_
              refine ow_batch [.p] rfl ?_
              refine ow_nil ?_
              refine x_qs ?_
              refine c_ret ?_
              refine x_qs_ret ?_
              exact x_retR (rs := [.tmp 4]) (vs := [.bool false]) rfl ⟨rfl, trivial⟩ (fun w' hw' => by
                  obtain rfl := of_some H
                  exact ⟨rfl, hw'.ext⟩)
            · have H := of_if_f hb H
              refine c_skip ?_
              refine x_qs ?_
              refine c_seq ?_
              refine c_seq ?_
              refine c_reg ?_
              refine ow_batch [.fa 54 6 8 fa54_6] rfl ?_
              refine ow_r rfl (dstOk_lt rfl) (ry_box1 (off := 8) rfl rfl ty49 (boxIn (i := 0) rfl) rfl) ?_
              refine ow_batch [.fa 54 6 8 fa54_6] rfl ?_
              refine ow_r rfl (dstOk_lt rfl) (ry_box1 (off := 8) rfl rfl ty49 (boxIn (i := 1) rfl) rfl) ?_
              obtain ⟨y82, h83, H⟩ := of_bind H
              refine ow_q rfl rfl (dstOk_lt rfl) (qy_call rfl fn95 rfl (fun w1 hw1 => laws_eqIntS_ok w1  h83 (rds_bor g26 w1 hw1) (rds_bor g58 w1 hw1))) (fun _ _ => trivial) ?_
              refine ow_batch [.p] rfl ?_
              refine ow_nil ?_
              refine x_qs ?_
              refine c_if rfl (fun hb => ?_) (fun hb => ?_)
              · have H := of_if_t hb H
                refine c_seq ?_
                refine c_reg ?_
                refine ow_batch [.p] rfl ?_
                refine ow_nil ?_
                refine x_qs ?_
                refine c_ret ?_
                refine x_qs_ret ?_
                exact x_retR (rs := [.tmp 4]) (vs := [.bool false]) rfl ⟨rfl, trivial⟩ (fun w' hw' => by
                    obtain rfl := of_some H
                    exact ⟨rfl, hw'.ext⟩)
              · have H := of_if_f hb H
                refine c_skip ?_
                refine x_qs ?_
                refine c_seq ?_
                refine c_seq ?_
                refine c_reg ?_
                refine ow_batch [.fa 54 7 9 fa54_7] rfl ?_
                refine ow_r rfl (dstOk_lt rfl) (ry_box1 (off := 9) rfl rfl ty3 (boxIn (i := 0) rfl) rfl) ?_
                refine ow_batch [.fa 54 7 9 fa54_7] rfl ?_
                refine ow_r rfl (dstOk_lt rfl) (ry_box1 (off := 9) rfl rfl ty3 (boxIn (i := 1) rfl) rfl) ?_
                refine ow_batch [.p] rfl ?_
                refine ow_nil ?_
                refine x_qs ?_
                refine c_if rfl (fun hb => ?_) (fun hb => ?_)
                · have H := of_if_t hb H
                  refine c_seq ?_
                  refine c_reg ?_
                  refine ow_batch [.p] rfl ?_
                  refine ow_nil ?_
                  refine x_qs ?_
                  refine c_ret ?_
                  refine x_qs_ret ?_
                  exact x_retR (rs := [.tmp 4]) (vs := [.bool false]) rfl ⟨rfl, trivial⟩ (fun w' hw' => by
                      obtain rfl := of_some H
                      exact ⟨rfl, hw'.ext⟩)
                · have H := of_if_f hb H
                  refine c_skip ?_
                  refine x_qs ?_
                  refine c_seq ?_
                  refine c_seq ?_
                  refine c_reg ?_
                  refine ow_batch [.fa 54 8 10 fa54_8] rfl ?_
                  refine ow_r rfl (dstOk_lt rfl) (ry_box1 (off := 10) rfl rfl ty3 (boxIn (i := 0) rfl) rfl) ?_
                  refine ow_batch [.fa 54 8 10 fa54_8] rfl ?_
                  refine ow_r rfl (dstOk_lt rfl) (ry_box1 (off := 10) rfl rfl ty3 (boxIn (i := 1) rfl) rfl) ?_
                  refine ow_batch [.p] rfl ?_
                  refine ow_nil ?_
                  refine x_qs ?_
                  refine c_if rfl (fun hb => ?_) (fun hb => ?_)
                  · have H := of_if_t hb H
                    refine c_seq ?_
                    refine c_reg ?_
                    refine ow_batch [.p] rfl ?_
                    refine ow_nil ?_
                    refine x_qs ?_
                    refine c_ret ?_
                    refine x_qs_ret ?_
                    exact x_retR (rs := [.tmp 4]) (vs := [.bool false]) rfl ⟨rfl, trivial⟩ (fun w' hw' => by
                        obtain rfl := of_some H
                        exact ⟨rfl, hw'.ext⟩)
                  · have H := of_if_f hb H
                    refine c_skip ?_
                    refine x_qs ?_
                    refine c_seq ?_
                    refine c_seq ?_
                    refine c_reg ?_
                    refine ow_batch [.fa 54 9 11 fa54_9] rfl ?_
                    refine ow_r rfl (dstOk_lt rfl) (ry_box1 (off := 11) rfl rfl ty3 (boxIn (i := 0) rfl) rfl) ?_
                    refine ow_batch [.fa 54 9 11 fa54_9] rfl ?_
                    refine ow_r rfl (dstOk_lt rfl) (ry_box1 (off := 11) rfl rfl ty3 (boxIn (i := 1) rfl) rfl) ?_
                    refine ow_batch [.p] rfl ?_
                    refine ow_nil ?_
                    refine x_qs ?_
                    refine c_if rfl (fun hb => ?_) (fun hb => ?_)
                    · have H := of_if_t hb H
                      refine c_seq ?_
                      refine c_reg ?_
                      refine ow_batch [.p] rfl ?_
                      refine ow_nil ?_
                      refine x_qs ?_
                      refine c_ret ?_
                      refine x_qs_ret ?_
                      exact x_retR (rs := [.tmp 4]) (vs := [.bool false]) rfl ⟨rfl, trivial⟩ (fun w' hw' => by
                          obtain rfl := of_some H
                          exact ⟨rfl, hw'.ext⟩)
                    · have H := of_if_f hb H
                      refine c_skip ?_
                      refine x_qs ?_
                      refine c_seq ?_
                      refine c_reg ?_
                      refine ow_batch [.p] rfl ?_
                      refine ow_nil ?_
                      refine x_qs ?_
                      refine c_ret ?_
                      exact x_retR (rs := [.tmp 4]) (vs := [.bool true]) rfl ⟨rfl, trivial⟩ (fun w' hw' => by
                          obtain rfl := of_some H
                          exact ⟨rfl, hw'.ext⟩)

set_option maxHeartbeats 4000000 in
set_option maxRecDepth 100000 in
theorem laws_eqNodeS_ok (w : World) {p0 : List Timpl_Node} {p1 : List Timpl_Node} {a_0 : Option Addr} {n_0 c_0 : Nat} {a_1 : Option Addr} {n_1 c_1 : Nat} {r : Bool} (H : laws_eqNodeS p0 p1 = some r)  (g0 : (eList (eTimpl_Node) 54).rd w [] p0 [.slice a_0 n_0 c_0]) (g1 : (eList (eTimpl_Node) 54).rd w [] p1 [.slice a_1 n_1 c_1]) :
    Calls Tryz.prog 27 #[.slice a_0 n_0 c_0, .slice a_1 n_1 c_1] w (fun en w' => en = .returned (.bool r) ∧ Ext [] w w') := by
  obtain rfl := rd_n g0
  obtain rfl := rd_n g1
  unfold laws_eqNodeS at H
  refine f_enter (vs := [.slice a_0 p0.length c_0, .slice a_1 p1.length c_1]) Tryz.func27 rfl Tryz.ntmps27 rfl (St.init w []) ?_
  refine c_seq ?_
  refine c_reg ?_
  refine ow_batch [.p] rfl ?_
  refine ow_nil ?_
  refine x_qs ?_
  refine c_seq ?_
  refine c_seq ?_
  refine c_reg ?_
  refine ow_batch [.p, .lenS 36 54 sl36, .p, .lenS 36 54 sl36, .p] rfl ?_
  refine ow_nil ?_
  refine x_qs ?_
  refine c_if rfl (fun hb => ?_) (fun hb => ?_)
  · have H := of_if_t hb H
    refine c_seq ?_
    refine c_reg ?_
    refine ow_batch [.p] rfl ?_
    refine ow_nil ?_
    refine x_qs ?_
    refine c_ret ?_
    refine x_qs_ret ?_
    exact x_retR (rs := [.tmp 4]) (vs := [.bool false]) rfl ⟨rfl, trivial⟩ (fun w' hw' => by
        obtain rfl := of_some H
        exact ⟨rfl, hw'.ext⟩)
  · have H := of_if_f hb H
    refine c_skip ?_
    refine x_qs ?_
    refine c_seq ?_
    refine c_seq ?_
    refine c_reg ?_
    refine ow_batch [.p] rfl ?_
    refine ow_nil ?_
    refine x_qs ?_
    refine c_block ?_
    refine CW.at (loopI1 (fun (i89 : Int) => St w [] []) (fun (i89 : Int) => [(0, .slice a_0 p0.length c_0), (1, .slice a_1 p1.length c_1), (5, .int .i64 i89)]) (fun kk => fun (i89 : Int) => laws_eqNodeS_L1 p0 p1 kk i89 = some r) (fun _ H => ?_) (fun k1 ihk1 i89 H => ?_) Fuel (0) (H)) (fun _ h => St.sel [] rfl rfl h) ⟨rfl, rfl, rfl,  trivial⟩
    · unfold laws_eqNodeS_L1 at H
      exact absurd H (by simp)
    · unfold laws_eqNodeS_L1 at H
      refine c_seq ?_
      refine c_seq ?_
      refine c_reg ?_
      refine ow_batch [.p, .p, .lenS 36 54 sl36, .p] rfl ?_
      refine ow_nil ?_
      refine x_qs ?_
      refine c_if rfl (fun hb => ?_) (fun hb => ?_)
      · have H := of_if_t hb H
        refine c_skip ?_
        refine x_qs ?_
        refine c_seq ?_
        refine c_block ?_
        refine c_seq ?_
        refine c_regQ mixed (by kernel_rfl) ?_
        refine ow_batch [.p, .p] rfl ?_
        obtain ⟨e169, h170, H⟩ := of_bind H
        refine ow_ixB rfl rfl rfl rfl rfl sl36 ty54 rfl g0 h170 (fun q173 c174 hd171 hA172 => ?_)
        obtain ⟨c175, c176, c177, c178, c179, c180, c181, c182, c183, c184, rfl, g185, g186, g187, g188, g189, g190, g191, g192, g193, g194⟩ := rdo_Timpl_Node hd171
        obtain rfl : c175 = [.bool e169.Leaf_] := g185
        obtain rfl : c176 = [.int .i64 e169.Fork_.Attr_, .int .i64 e169.Fork_.At_] := g186
        obtain ⟨a195, c196, rfl⟩ := rd_sl1 g187
        obtain rfl : c178 = [.int .i64 e169.Miss_] := g188
        obtain ⟨c197, c198, rfl, g199, g200⟩ := rdo_Timpl_Stats g189
        obtain ⟨a201, c202, rfl⟩ := rd_sl1 g199
        obtain ⟨a203, c204, rfl⟩ := rd_sl1 g200
        obtain rfl : c180 = [.int .i64 e169.Since_] := g190
        obtain ⟨a205, c206, rfl⟩ := rd_sl1 g191
        obtain rfl : c182 = [.int .i64 e169.Depth_] := g192
        obtain rfl : c183 = [.int .i64 e169.Up_] := g193
        obtain rfl : c184 = [.int .i64 e169.Born_] := g194
        refine ow_r rfl (dstOk_lt rfl) (ry_load (cs := [.bool e169.Leaf_, .int .i64 e169.Fork_.Attr_, .int .i64 e169.Fork_.At_, .slice a195 e169.Kids_.length c196, .int .i64 e169.Miss_, .slice a201 e169.Stats_.Totals_.length c202, .slice a203 e169.Stats_.Cells_.length c204, .int .i64 e169.Since_, .slice a205 e169.Attrs_.length c206, .int .i64 e169.Depth_, .int .i64 e169.Up_, .int .i64 e169.Born_]) rfl rfl ty54 (at_bor bor hA172) rfl) ?_
        refine ow_batch [.p, .p] rfl ?_
        obtain ⟨e207, h208, H⟩ := of_bind H
        refine ow_ixB rfl rfl rfl rfl rfl sl36 ty54 rfl g1 h208 (fun q211 c212 hd209 hA210 => ?_)
        obtain ⟨c213, c214, c215, c216, c217, c218, c219, c220, c221, c222, rfl, g223, g224, g225, g226, g227, g228, g229, g230, g231, g232⟩ := rdo_Timpl_Node hd209
        obtain rfl : c213 = [.bool e207.Leaf_] := g223
        obtain rfl : c214 = [.int .i64 e207.Fork_.Attr_, .int .i64 e207.Fork_.At_] := g224
        obtain ⟨a233, c234, rfl⟩ := rd_sl1 g225
        obtain rfl : c216 = [.int .i64 e207.Miss_] := g226
        obtain ⟨c235, c236, rfl, g237, g238⟩ := rdo_Timpl_Stats g227
        obtain ⟨a239, c240, rfl⟩ := rd_sl1 g237
        obtain ⟨a241, c242, rfl⟩ := rd_sl1 g238
        obtain rfl : c218 = [.int .i64 e207.Since_] := g228
        obtain ⟨a243, c244, rfl⟩ := rd_sl1 g229
        obtain rfl : c220 = [.int .i64 e207.Depth_] := g230
        obtain rfl : c221 = [.int .i64 e207.Up_] := g231
        obtain rfl : c222 = [.int .i64 e207.Born_] := g232
        refine ow_r rfl (dstOk_lt rfl) (ry_load (cs := [.bool e207.Leaf_, .int .i64 e207.Fork_.Attr_, .int .i64 e207.Fork_.At_, .slice a233 e207.Kids_.length c234, .int .i64 e207.Miss_, .slice a239 e207.Stats_.Totals_.length c240, .slice a241 e207.Stats_.Cells_.length c242, .int .i64 e207.Since_, .slice a243 e207.Attrs_.length c244, .int .i64 e207.Depth_, .int .i64 e207.Up_, .int .i64 e207.Born_]) rfl rfl ty54 (at_bor bor hA210) rfl) ?_
        obtain ⟨y245, h246, H⟩ := of_bind H
        refine ow_q rfl rfl (dstOk_lt rfl) (qy_call rfl fn61 rfl (fun w1 hw1 => laws_eqNode_ok w1 (cs0 := [.bool e169.Leaf_, .int .i64 e169.Fork_.Attr_, .int .i64 e169.Fork_.At_, .slice a195 e169.Kids_.length c196, .int .i64 e169.Miss_, .slice a201 e169.Stats_.Totals_.length c202, .slice a203 e169.Stats_.Cells_.length c204, .int .i64 e169.Since_, .slice a205 e169.Attrs_.length c206, .int .i64 e169.Depth_, .int .i64 e169.Up_, .int .i64 e169.Born_]) (cs1 := [.bool e207.Leaf_, .int .i64 e207.Fork_.Attr_, .int .i64 e207.Fork_.At_, .slice a233 e207.Kids_.length c234, .int .i64 e207.Miss_, .slice a239 e207.Stats_.Totals_.length c240, .slice a241 e207.Stats_.Cells_.length c242, .int .i64 e207.Since_, .slice a243 e207.Attrs_.length c244, .int .i64 e207.Depth_, .int .i64 e207.Up_, .int .i64 e207.Born_]) h246 (rdm_Timpl_Node (x := e169) (c0 := [.bool e169.Leaf_]) (c1 := [.int .i64 e169.Fork_.Attr_, .int .i64 e169.Fork_.At_]) (c2 := [.slice a195 e169.Kids_.length c196]) (c3 := [.int .i64 e169.Miss_]) (c4 := [.slice a201 e169.Stats_.Totals_.length c202, .slice a203 e169.Stats_.Cells_.length c204]) (c5 := [.int .i64 e169.Since_]) (c6 := [.slice a205 e169.Attrs_.length c206]) (c7 := [.int .i64 e169.Depth_]) (c8 := [.int .i64 e169.Up_]) (c9 := [.int .i64 e169.Born_]) rfl rfl (rds_bor g187 w1 hw1) rfl (rdm_Timpl_Stats (x := e169.Stats_) (c0 := [.slice a201 e169.Stats_.Totals_.length c202]) (c1 := [.slice a203 e169.Stats_.Cells_.length c204]) (rds_bor g199 w1 hw1) (rds_bor g200 w1 hw1)) rfl (rds_bor g191 w1 hw1) rfl rfl rfl) (rdm_Timpl_Node (x := e207) (c0 := [.bool e207.Leaf_]) (c1 := [.int .i64 e207.Fork_.Attr_, .int .i64 e207.Fork_.At_]) (c2 := [.slice a233 e207.Kids_.length c234]) (c3 := [.int .i64 e207.Miss_]) (c4 := [.slice a239 e207.Stats_.Totals_.length c240, .slice a241 e207.Stats_.Cells_.length c242]) (c5 := [.int .i64 e207.Since_]) (c6 := [.slice a243 e207.Attrs_.length c244]) (c7 := [.int .i64 e207.Depth_]) (c8 := [.int .i64 e207.Up_]) (c9 := [.int .i64 e207.Born_]) rfl rfl (rds_bor g225 w1 hw1) rfl (rdm_Timpl_Stats (x := e207.Stats_) (c0 := [.slice a239 e207.Stats_.Totals_.length c240]) (c1 := [.slice a241 e207.Stats_.Cells_.length c242]) (rds_bor g237 w1 hw1) (rds_bor g238 w1 hw1)) rfl (rds_bor g229 w1 hw1) rfl rfl rfl))) (fun _ _ => trivial) ?_
        refine ow_batch [.p] rfl ?_
        refine ow_nilQ ?_
        refine x_qs ?_
        refine c_if rfl (fun hb => ?_) (fun hb => ?_)
        · have H := of_if_t hb H
          refine c_seq ?_
          refine c_reg ?_
          refine ow_batch [.p] rfl ?_
          refine ow_nil ?_
          refine x_qs ?_
          refine c_ret ?_
          refine x_qb_ret ?_
          refine x_qs_ret ?_
          refine x_ql_ret ?_
          refine x_qb_ret ?_
          refine x_qs_ret ?_
          exact x_retR (rs := [.tmp 4]) (vs := [.bool false]) rfl ⟨rfl, trivial⟩ (fun w' hw' => by
              obtain rfl := of_some H
              exact ⟨rfl, hw'.ext⟩)
        · have H := of_if_f hb H
          refine c_skip ?_
          refine x_qb ?_
          refine x_qs ?_
          refine c_reg ?_
          refine ow_batch [.p, .p, .p] rfl ?_
          refine ow_nil ?_
          exact x_ql (RW.at (ihk1 (IntKind.i64.wrap (i89 + 1)) (H)) (fun _ h => St.sel [] rfl rfl h) ⟨rfl, rfl, rfl, trivial⟩)
      · have H := of_if_f hb H
        refine c_exit ?_
        refine x_qs_exit ?_
        refine x_ql_exit ?_
        refine x_qb_here ?_
        refine x_qs ?_
        refine c_seq ?_
        refine c_reg ?_
        refine ow_batch [.p] rfl ?_
        refine ow_nil ?_
        refine x_qs ?_
        refine c_ret ?_
        exact x_retR (rs := [.tmp 4]) (vs := [.bool true]) rfl ⟨rfl, trivial⟩ (fun w' hw' => by
            obtain rfl := of_some H
            exact ⟨rfl, hw'.ext⟩)

set_option maxHeartbeats 4000000 in
set_option maxRecDepth 100000 in
theorem laws_eqTree_ok (w : World) {p0 : Timpl_Tree} {p1 : Timpl_Tree} {cs0 : List Value} {cs1 : List Value} {r : Bool} (H : laws_eqTree p0 p1 = some r)  (g0 : (eTimpl_Tree).rd w [] p0 cs0) (g1 : (eTimpl_Tree).rd w [] p1 cs1) :
    Calls Tryz.prog 11 #[.agg cs0.toArray, .agg cs1.toArray] w (fun en w' => en = .returned (.bool r) ∧ Ext [] w w') := by
  obtain ⟨c10, c11, rfl, g12, g13⟩ := rdo_Timpl_Tree g0
  obtain ⟨a14, c15, rfl⟩ := rd_sl1 g12
  obtain rfl : c11 = [.int .i64 p0.Seen_] := g13
  obtain ⟨c16, c17, rfl, g18, g19⟩ := rdo_Timpl_Tree g1
  obtain ⟨a20, c21, rfl⟩ := rd_sl1 g18
  obtain rfl : c17 = [.int .i64 p1.Seen_] := g19
  unfold laws_eqTree at H
  refine f_enter (vs := [.agg #[.slice a14 p0.Nodes_.length c15, .int .i64 p0.Seen_], .agg #[.slice a20 p1.Nodes_.length c21, .int .i64 p1.Seen_]]) Tryz.func11 rfl Tryz.ntmps11 rfl (St.init w []) ?_
  refine c_seq ?_
  refine c_reg ?_
  refine ow_box (cs := [.slice a14 p0.Nodes_.length c15, .int .i64 p0.Seen_]) rfl rfl rfl rfl rfl rfl (fun _ => kp) (fun b22 => ?_)
  refine ow_box (cs := [.slice a20 p1.Nodes_.length c21, .int .i64 p1.Seen_]) rfl rfl rfl rfl rfl rfl (fun _ => kp) (fun b23 => ?_)
  refine ow_batch [.p] rfl ?_
  refine ow_nil ?_
  refine x_qs ?_
  refine c_seq ?_
  refine c_seq ?_
  refine c_reg ?_
  refine ow_batch [.fa 38 0 0 fa38_0] rfl ?_
  refine ow_r rfl (dstOk_lt rfl) (ry_box1 (off := 0) rfl rfl ty36 (boxIn (i := 0) rfl) rfl) ?_
  refine ow_batch [.fa 38 0 0 fa38_0] rfl ?_
  refine ow_r rfl (dstOk_lt rfl) (ry_box1 (off := 0) rfl rfl ty36 (boxIn (i := 1) rfl) rfl) ?_
  obtain ⟨y24, h25, H⟩ := of_bind H
  refine ow_q rfl rfl (dstOk_lt rfl) (qy_call rfl fn27 rfl (fun w1 hw1 => laws_eqNodeS_ok w1  h25 (rds_bor g12 w1 hw1) (rds_bor g18 w1 hw1))) (fun _ _ => trivial) ?_
  refine ow_batch [.p] rfl ?_
  refine ow_nil ?_
  refine x_qs ?_
  refine c_if rfl (fun hb => ?_) (fun hb => ?_)
  · have H := of_if_t hb H
    refine c_seq ?_
    refine c_reg ?_
    refine ow_batch [.p] rfl ?_
    refine ow_nil ?_
    refine x_qs ?_
    refine c_ret ?_
    refine x_qs_ret ?_
    exact x_retR (rs := [.tmp 4]) (vs := [.bool false]) rfl ⟨rfl, trivial⟩ (fun w' hw' => by
        obtain rfl := of_some H
        exact ⟨rfl, hw'.ext⟩)
  · have H := of_if_f hb H
    refine c_skip ?_
    refine x_qs ?_
    refine c_seq ?_
    refine c_seq ?_
    refine c_reg ?_
    refine ow_batch [.fa 38 1 1 fa38_1] rfl ?_
    refine ow_r rfl (dstOk_lt rfl) (ry_box1 (off := 1) rfl rfl ty3 (boxIn (i := 0) rfl) rfl) ?_
    refine ow_batch [.fa 38 1 1 fa38_1] rfl ?_
    refine ow_r rfl (dstOk_lt rfl) (ry_box1 (off := 1) rfl rfl ty3 (boxIn (i := 1) rfl) rfl) ?_
    refine ow_batch [.p] rfl ?_
    refine ow_nil ?_
    refine x_qs ?_
    refine c_if rfl (fun hb => ?_) (fun hb => ?_)
    · have H := of_if_t hb H
      refine c_seq ?_
      refine c_reg ?_
      refine ow_batch [.p] rfl ?_
      refine ow_nil ?_
      refine x_qs ?_
      refine c_ret ?_
      refine x_qs_ret ?_
      exact x_retR (rs := [.tmp 4]) (vs := [.bool false]) rfl ⟨rfl, trivial⟩ (fun w' hw' => by
          obtain rfl := of_some H
          exact ⟨rfl, hw'.ext⟩)
    · have H := of_if_f hb H
      refine c_skip ?_
      refine x_qs ?_
      refine c_seq ?_
      refine c_reg ?_
      refine ow_batch [.p] rfl ?_
      refine ow_nil ?_
      refine x_qs ?_
      refine c_ret ?_
      exact x_retR (rs := [.tmp 4]) (vs := [.bool true]) rfl ⟨rfl, trivial⟩ (fun w' hw' => by
          obtain rfl := of_some H
          exact ⟨rfl, hw'.ext⟩)

set_option maxHeartbeats 4000000 in
set_option maxRecDepth 100000 in
theorem laws_FnExactTreeText_ok (w : World) {p0 : Tlaws_Schema} {p1 : Tlaws_Tree} {cs0 : List Value} {cs1 : List Value} {r : Bool} (H : laws_FnExactTreeText p0 p1 = some r)  (g0 : (eTlaws_Schema).rd w [] p0 cs0) (g1 : (eTlaws_Tree).rd w [] p1 cs1) (gT : (ePow10 Tryz.prog).rd w [] () []) :
    Calls Tryz.prog 3 #[.agg cs0.toArray, .agg cs1.toArray] w (fun en w' => en = .returned (.bool r) ∧ Ext [] w w') := by
  obtain ⟨c10, c11, rfl, g12, g13⟩ := rdo_Tlaws_Schema g0
  obtain ⟨a14, c15, rfl⟩ := rd_sl1 g12
  obtain ⟨a16, c17, rfl⟩ := rd_sl1 g13
  obtain ⟨c18, c19, rfl, g20, g21⟩ := rdo_Tlaws_Tree g1
  obtain ⟨a22, c23, rfl⟩ := rd_sl1 g20
  obtain rfl : c19 = [.int .i64 p1.Seen_] := g21
  unfold laws_FnExactTreeText at H
  refine f_enter (vs := [.agg #[.slice a14 p0.Attrs_.length c15, .slice a16 p0.Classes_.length c17], .agg #[.slice a22 p1.Nodes_.length c23, .int .i64 p1.Seen_]]) Tryz.func3 rfl Tryz.ntmps3 rfl (St.init w []) ?_
  refine c_seq ?_
  refine c_reg ?_
  refine ow_box (cs := [.slice a14 p0.Attrs_.length c15, .slice a16 p0.Classes_.length c17]) rfl rfl rfl rfl rfl rfl (fun _ => kp) (fun b24 => ?_)
  refine ow_box (cs := [.slice a22 p1.Nodes_.length c23, .int .i64 p1.Seen_]) rfl rfl rfl rfl rfl rfl (fun _ => kp) (fun b25 => ?_)
  refine ow_batch [.p] rfl ?_
  refine ow_nil ?_
  refine x_qs ?_
  refine c_seq ?_
  refine c_reg ?_
  refine ow_batch [.p] rfl ?_
  refine ow_nil ?_
  refine x_qs ?_
  refine c_seq ?_
  refine c_reg ?_
  refine ow_r rfl (dstOk_lt rfl) (ry_box (off := 0) (ds := [.slice a14 p0.Attrs_.length c15, .slice a16 p0.Classes_.length c17]) rfl rfl ty25 (boxIn (i := 0) rfl) rfl rfl) ?_
  refine ow_batch [.p] rfl ?_
  obtain ⟨y26, h27, H⟩ := of_bind H
  refine ow_q rfl rfl (dstOk_lt rfl) (qy_call rfl fn4 rfl (fun w1 hw1 => laws_szSchema_ok w1 (cs0 := [.slice a14 p0.Attrs_.length c15, .slice a16 p0.Classes_.length c17]) h27 (rdm_Tlaws_Schema (x := p0) (c0 := [.slice a14 p0.Attrs_.length c15]) (c1 := [.slice a16 p0.Classes_.length c17]) (rds_bor g12 w1 hw1) (rds_bor g13 w1 hw1)))) (fun _ _ => trivial) ?_
  refine ow_batch [.p] rfl ?_
  refine ow_nil ?_
  refine x_qs ?_
  refine c_seq ?_
  refine c_seq ?_
  refine c_reg ?_
  refine ow_batch [.p, .p] rfl ?_
  refine ow_nil ?_
  refine x_qs ?_
  refine c_if rfl (fun hb => ?_) (fun hb => ?_)
  · have H := of_if_t hb H
    refine c_seq ?_
    refine c_reg ?_
    refine ow_batch [.p] rfl ?_
    refine ow_nil ?_
    refine x_qs ?_
    refine c_ret ?_
    refine x_qs_ret ?_
    exact x_retR (rs := [.tmp 4]) (vs := [.bool true]) rfl ⟨rfl, trivial⟩ (fun w' hw' => by
        obtain rfl := of_some H
        exact ⟨rfl, hw'.ext⟩)
  · have H := of_if_f hb H
    refine c_skip ?_
    refine x_qs ?_
    refine c_seq ?_
    refine c_reg ?_
    refine ow_r rfl (dstOk_lt rfl) (ry_box (off := 0) (ds := [.slice a22 p1.Nodes_.length c23, .int .i64 p1.Seen_]) rfl rfl ty28 (boxIn (i := 1) rfl) rfl rfl) ?_
    refine ow_batch [.p] rfl ?_
    obtain ⟨y28, h29, H⟩ := of_bind H
    refine ow_q rfl rfl (dstOk_lt rfl) (qy_call rfl fn5 rfl (fun w1 hw1 => laws_szTree_ok w1 (cs0 := [.slice a22 p1.Nodes_.length c23, .int .i64 p1.Seen_]) h29 (rdm_Tlaws_Tree (x := p1) (c0 := [.slice a22 p1.Nodes_.length c23]) (c1 := [.int .i64 p1.Seen_]) (rds_bor g20 w1 hw1) rfl))) (fun _ _ => trivial) ?_
    refine ow_batch [.p] rfl ?_
    refine ow_nil ?_
    refine x_qs ?_
    refine c_seq ?_
    refine c_seq ?_
    refine c_reg ?_
    refine ow_batch [.p, .p] rfl ?_
    refine ow_nil ?_
    refine x_qs ?_
    refine c_if rfl (fun hb => ?_) (fun hb => ?_)
    · have H := of_if_t hb H
      refine c_seq ?_
      refine c_reg ?_
      refine ow_batch [.p] rfl ?_
      refine ow_nil ?_
      refine x_qs ?_
      refine c_ret ?_
      refine x_qs_ret ?_
      exact x_retR (rs := [.tmp 4]) (vs := [.bool true]) rfl ⟨rfl, trivial⟩ (fun w' hw' => by
          obtain rfl := of_some H
          exact ⟨rfl, hw'.ext⟩)
    · have H := of_if_f hb H
      refine c_skip ?_
      refine x_qs ?_
      refine c_seq ?_
      refine c_regHT 3 [(0, true), (2, true), (1, false)] (St w [] [Res.box b24 25 [.slice a14 p0.Attrs_.length c15, .slice a16 p0.Classes_.length c17], Res.box b25 28 [.slice a22 p1.Nodes_.length c23, .int .i64 p1.Seen_]]) mixed (by kernel_rfl) (panicOk_qs panicOk_body) (fun _ h => St.mask [true, true] rfl h) ?_
      refine ow_rH rfl (dstOk_lt rfl) (ry_box (off := 0) (ds := [.slice a14 p0.Attrs_.length c15, .slice a16 p0.Classes_.length c17]) rfl rfl ty25 (boxIn (i := 0) rfl) rfl rfl) ?_
      refine ow_rH rfl (dstOk_lt rfl) (ry_box (off := 0) (ds := [.slice a22 p1.Nodes_.length c23, .int .i64 p1.Seen_]) rfl rfl ty28 (boxIn (i := 1) rfl) rfl rfl) ?_
      obtain ⟨y43, h44, H⟩ := of_bind H
      refine ow_callS rfl fn7 rfl rfl rfl rfl (fun w1 hw1 => laws_toSchema_ok w1 (cs0 := [.slice a14 p0.Attrs_.length c15, .slice a16 p0.Classes_.length c17]) h44 (hw1.carve [] rfl rfl) (rdm_Tlaws_Schema (x := p0) (c0 := [.slice a14 p0.Attrs_.length c15]) (c1 := [.slice a16 p0.Classes_.length c17]) (rds_bor g12 w1 hw1) (rds_bor g13 w1 hw1))) (fun v45 w1 w2 hw1 hR47 => ?_)
      obtain ⟨a48, n49, c50, F51, a52, n53, c54, F55, rfl, hS46⟩ := hR47
      obtain rfl := own_nS (i := 0) hS46 rfl
      obtain rfl := own_nS (i := 1) hS46 rfl
      refine ⟨St w [] [_, _, _, _], hw1.comp [] rfl rfl hS46, (fun _ h => St.mask [true, true] rfl h), ?_⟩
      refine ow_nilH ?_
      refine x_qt ?_
      obtain ⟨y56, h57, H⟩ := of_bind H
      refine ow_callS rfl fn8 rfl rfl rfl rfl (fun w1 hw1 => laws_toTree_ok w1 (cs0 := [.slice a22 p1.Nodes_.length c23, .int .i64 p1.Seen_]) h57 (hw1.carve [] rfl rfl) (rdm_Tlaws_Tree (x := p1) (c0 := [.slice a22 p1.Nodes_.length c23]) (c1 := [.int .i64 p1.Seen_]) (rds_bor g20 w1 hw1) rfl)) (fun v58 w1 w2 hw1 hR60 => ?_)
      obtain ⟨a61, n62, c63, F64, rfl, hS59⟩ := hR60
      obtain rfl := own_nS (i := 0) hS59 rfl
      refine ⟨St w [] [_, _, _, _, _], hw1.comp [] rfl rfl hS59, fun _ _ => trivial, ?_⟩
      obtain ⟨y65, h66, H⟩ := of_bind H
      refine ow_q rfl rfl (dstOk_lt rfl) (qy_call rfl fn6 rfl (fun w1 hw1 => spec_TreeText_ok w1 (cs0 := [.slice a48 y43.Attrs_.length c50, .slice a52 y43.Classes_.length c54]) (cs1 := [.slice a61 y56.Nodes_.length c63, .int .i64 y56.Seen_]) h66 (rdm_Timpl_Schema (x := y43) (c0 := [.slice a48 y43.Attrs_.length c50]) (c1 := [.slice a52 y43.Classes_.length c54]) (rds_own (e := eList (eTimpl_Attr) 83) (r := 2) rfl w1 hw1) (rds_own (e := eList (eStr) 9) (r := 3) rfl w1 hw1)) (rdm_Timpl_Tree (x := y56) (c0 := [.slice a61 y56.Nodes_.length c63]) (c1 := [.int .i64 y56.Seen_]) (rds_own (e := eList (eTimpl_Node) 54) (r := 4) rfl w1 hw1) rfl))) (fun _ _ => trivial) ?_
      refine ow_batch [.p] rfl ?_
      refine ow_nil ?_
      refine x_qs ?_
      refine c_seq ?_
      refine c_reg ?_
      refine ow_r rfl (dstOk_lt rfl) (ry_box (off := 0) (ds := [.slice a14 p0.Attrs_.length c15, .slice a16 p0.Classes_.length c17]) rfl rfl ty25 (boxIn (i := 0) rfl) rfl rfl) ?_
      obtain ⟨y67, h68, H⟩ := of_bind H
      refine ow_callS rfl fn7 rfl rfl rfl rfl (fun w1 hw1 => laws_toSchema_ok w1 (cs0 := [.slice a14 p0.Attrs_.length c15, .slice a16 p0.Classes_.length c17]) h68 (hw1.carve [] rfl rfl) (rdm_Tlaws_Schema (x := p0) (c0 := [.slice a14 p0.Attrs_.length c15]) (c1 := [.slice a16 p0.Classes_.length c17]) (rds_bor g12 w1 hw1) (rds_bor g13 w1 hw1))) (fun v69 w1 w2 hw1 hR71 => ?_)
      obtain ⟨a72, n73, c74, F75, a76, n77, c78, F79, rfl, hS70⟩ := hR71
      obtain rfl := own_nS (i := 0) hS70 rfl
      obtain rfl := own_nS (i := 1) hS70 rfl
      refine ⟨St w [] [_, _, _, _, _, _, _], hw1.comp [] rfl rfl hS70, fun _ _ => trivial, ?_⟩
      refine ow_alloc rfl rfl rfl rfl ty34 (fun _ => kp) (fun b80 => ?_)
      refine ow_storeC (off := 0) [.slice a72 y67.Attrs_.length c74, .slice a76 y67.Classes_.length c78] [_, _] (i := 7) rfl rfl rfl rfl rfl rfl ty34 rfl rfl (by intro u hu; simp only [List.mem_cons, List.not_mem_nil, or_false] at hu; rcases hu with rfl | rfl <;> rfl) rfl rfl rfl kp ?_
      refine ow_nil ?_
      refine x_qs ?_
      refine c_seq ?_
      refine c_reg ?_
      refine ow_r rfl (dstOk_lt rfl) (ry_box (off := 0) (ds := [.slice a22 p1.Nodes_.length c23, .int .i64 p1.Seen_]) rfl rfl ty28 (boxIn (i := 1) rfl) rfl rfl) ?_
      obtain ⟨y81, h82, H⟩ := of_bind H
      refine ow_callS rfl fn8 rfl rfl rfl rfl (fun w1 hw1 => laws_toTree_ok w1 (cs0 := [.slice a22 p1.Nodes_.length c23, .int .i64 p1.Seen_]) h82 (hw1.carve [] rfl rfl) (rdm_Tlaws_Tree (x := p1) (c0 := [.slice a22 p1.Nodes_.length c23]) (c1 := [.int .i64 p1.Seen_]) (rds_bor g20 w1 hw1) rfl)) (fun v83 w1 w2 hw1 hR85 => ?_)
      obtain ⟨a86, n87, c88, F89, rfl, hS84⟩ := hR85
      obtain rfl := own_nS (i := 0) hS84 rfl
      refine ⟨St w [] [_, _, _, _, _, _, _, _, _], hw1.comp [] rfl rfl hS84, fun _ _ => trivial, ?_⟩
      refine ow_alloc rfl rfl rfl rfl ty38 (fun _ => kp) (fun b90 => ?_)
      refine ow_storeC (off := 0) [.slice a86 y81.Nodes_.length c88, .int .i64 y81.Seen_] [_, _] (i := 9) rfl rfl rfl rfl rfl rfl ty38 rfl rfl (by intro u hu; simp only [List.mem_cons, List.not_mem_nil, or_false] at hu; rcases hu with rfl | rfl <;> rfl) rfl rfl rfl kp ?_
      refine ow_nil ?_
      refine x_qs ?_
      refine c_seq ?_
      refine c_reg ?_
      refine ow_r rfl (dstOk_lt rfl) (ry_box (off := 0) (ds := [.slice a72 y67.Attrs_.length c74, .slice a76 y67.Classes_.length c78]) rfl rfl ty34 (boxIn (i := 7) rfl) rfl rfl) ?_
      refine ow_r rfl (dstOk_lt rfl) (ry_box (off := 0) (ds := [.slice a86 y81.Nodes_.length c88, .int .i64 y81.Seen_]) rfl rfl ty38 (boxIn (i := 9) rfl) rfl rfl) ?_
      obtain ⟨y91, h92, H⟩ := of_bind H
      refine ow_q rfl rfl (dstOk_lt rfl) (qy_call rfl fn9 rfl (fun w1 hw1 => impl_TreeText_ok w1 (cs0 := [.slice a72 y67.Attrs_.length c74, .slice a76 y67.Classes_.length c78]) (cs1 := [.slice a86 y81.Nodes_.length c88, .int .i64 y81.Seen_]) h92 (rdm_Timpl_Schema (x := y67) (c0 := [.slice a72 y67.Attrs_.length c74]) (c1 := [.slice a76 y67.Classes_.length c78]) (rds_own (e := eList (eTimpl_Attr) 83) (r := 5) rfl w1 hw1) (rds_own (e := eList (eStr) 9) (r := 6) rfl w1 hw1)) (rdm_Timpl_Tree (x := y81) (c0 := [.slice a86 y81.Nodes_.length c88]) (c1 := [.int .i64 y81.Seen_]) (rds_own (e := eList (eTimpl_Node) 54) (r := 8) rfl w1 hw1) rfl) (rds_bor gT w1 hw1))) (fun _ _ => trivial) ?_
      refine ow_batch [.p] rfl ?_
      refine ow_nil ?_
      refine x_qs ?_
      refine c_seq ?_
      refine c_seq ?_
      refine c_reg ?_
      refine ow_batch [.p, .p, .p] rfl ?_
      refine ow_nil ?_
      refine x_qs ?_
      refine c_if rfl (fun hb => ?_) (fun hb => ?_)
      · have H := of_if_t hb H
        refine c_seq ?_
        refine c_reg ?_
        refine ow_batch [.p] rfl ?_
        refine ow_nil ?_
        refine x_qs ?_
        refine c_ret ?_
        refine x_qs_ret ?_
        exact x_retR (rs := [.tmp 4]) (vs := [.bool false]) rfl ⟨rfl, trivial⟩ (fun w' hw' => by
            obtain rfl := of_some H
            exact ⟨rfl, hw'.ext⟩)
      · have H := of_if_f hb H
        refine c_skip ?_
        refine x_qs ?_
        refine c_seq ?_
        refine c_seq ?_
        refine c_regHT 3 [(0, true), (1, true), (2, false)] (St w [] [Res.box b24 25 [.slice a14 p0.Attrs_.length c15, .slice a16 p0.Classes_.length c17], Res.box b25 28 [.slice a22 p1.Nodes_.length c23, .int .i64 p1.Seen_], Res.own (eList (eTimpl_Attr) 83) F51 y43.Attrs_ [.slice a48 y43.Attrs_.length c50], Res.own (eList (eStr) 9) F55 y43.Classes_ [.slice a52 y43.Classes_.length c54], Res.own (eList (eTimpl_Node) 54) F64 y56.Nodes_ [.slice a61 y56.Nodes_.length c63], Res.own (eList (eTimpl_Attr) 83) F75 y67.Attrs_ [.slice a72 y67.Attrs_.length c74], Res.own (eList (eStr) 9) F79 y67.Classes_ [.slice a76 y67.Classes_.length c78], Res.box b80 34 [.slice a72 y67.Attrs_.length c74, .slice a76 y67.Classes_.length c78], Res.own (eList (eTimpl_Node) 54) F89 y81.Nodes_ [.slice a86 y81.Nodes_.length c88], Res.box b90 38 [.slice a86 y81.Nodes_.length c88, .int .i64 y81.Seen_]]) mixed (by kernel_rfl) (panicOk_qs (panicOk_qs panicOk_body)) (fun _ h => St.mask [true, true, true, true, true, true, true, true, true, true] rfl h) ?_
        refine ow_rH rfl (dstOk_lt rfl) (ry_box (off := 0) (ds := [.slice a72 y67.Attrs_.length c74, .slice a76 y67.Classes_.length c78]) rfl rfl ty34 (boxIn (i := 7) rfl) rfl rfl) ?_
        refine ow_rH rfl (dstOk_lt rfl) (ry_box (off := 0) (ds := [.slice a14 p0.Attrs_.length c15, .slice a16 p0.Classes_.length c17]) rfl rfl ty25 (boxIn (i := 0) rfl) rfl rfl) ?_
        obtain ⟨y106, h107, H⟩ := of_bind H
        refine ow_callS rfl fn7 rfl rfl rfl rfl (fun w1 hw1 => laws_toSchema_ok w1 (cs0 := [.slice a14 p0.Attrs_.length c15, .slice a16 p0.Classes_.length c17]) h107 (hw1.carve [] rfl rfl) (rdm_Tlaws_Schema (x := p0) (c0 := [.slice a14 p0.Attrs_.length c15]) (c1 := [.slice a16 p0.Classes_.length c17]) (rds_bor g12 w1 hw1) (rds_bor g13 w1 hw1))) (fun v108 w1 w2 hw1 hR110 => ?_)
        obtain ⟨a111, n112, c113, F114, a115, n116, c117, F118, rfl, hS109⟩ := hR110
        obtain rfl := own_nS (i := 0) hS109 rfl
        obtain rfl := own_nS (i := 1) hS109 rfl
        refine ⟨St w [] [_, _, _, _, _, _, _, _, _, _, _, _], hw1.comp [] rfl rfl hS109, (fun _ h => St.mask [true, true, true, true, true, true, true, true, true, true] rfl h), ?_⟩
        refine ow_nilH ?_
        refine x_qt ?_
        obtain ⟨y119, h120, H⟩ := of_bind H
        refine ow_q rfl rfl (dstOk_lt rfl) (qy_call rfl fn10 rfl (fun w1 hw1 => laws_eqSchema_ok w1 (cs0 := [.slice a72 y67.Attrs_.length c74, .slice a76 y67.Classes_.length c78]) (cs1 := [.slice a111 y106.Attrs_.length c113, .slice a115 y106.Classes_.length c117]) h120 (rdm_Timpl_Schema (x := y67) (c0 := [.slice a72 y67.Attrs_.length c74]) (c1 := [.slice a76 y67.Classes_.length c78]) (rds_own (e := eList (eTimpl_Attr) 83) (r := 5) rfl w1 hw1) (rds_own (e := eList (eStr) 9) (r := 6) rfl w1 hw1)) (rdm_Timpl_Schema (x := y106) (c0 := [.slice a111 y106.Attrs_.length c113]) (c1 := [.slice a115 y106.Classes_.length c117]) (rds_own (e := eList (eTimpl_Attr) 83) (r := 10) rfl w1 hw1) (rds_own (e := eList (eStr) 9) (r := 11) rfl w1 hw1)))) (fun _ _ => trivial) ?_
        refine ow_batch [.p] rfl ?_
        refine ow_nil ?_
        refine x_qs ?_
        refine c_if rfl (fun hb => ?_) (fun hb => ?_)
        · have H := of_if_t hb H
          refine c_seq ?_
          refine c_reg ?_
          refine ow_batch [.p] rfl ?_
          refine ow_nil ?_
          refine x_qs ?_
          refine c_ret ?_
          refine x_qs_ret ?_
          exact x_retR (rs := [.tmp 4]) (vs := [.bool false]) rfl ⟨rfl, trivial⟩ (fun w' hw' => by
              obtain rfl := of_some H
              exact ⟨rfl, hw'.ext⟩)
        · have H := of_if_f hb H
          refine c_skip ?_
          refine x_qs ?_
          refine c_seq ?_
          refine c_seq ?_
          refine c_regHT 3 [(0, true), (1, true), (2, false)] (St w [] [Res.box b24 25 [.slice a14 p0.Attrs_.length c15, .slice a16 p0.Classes_.length c17], Res.box b25 28 [.slice a22 p1.Nodes_.length c23, .int .i64 p1.Seen_], Res.own (eList (eTimpl_Attr) 83) F51 y43.Attrs_ [.slice a48 y43.Attrs_.length c50], Res.own (eList (eStr) 9) F55 y43.Classes_ [.slice a52 y43.Classes_.length c54], Res.own (eList (eTimpl_Node) 54) F64 y56.Nodes_ [.slice a61 y56.Nodes_.length c63], Res.own (eList (eTimpl_Attr) 83) F75 y67.Attrs_ [.slice a72 y67.Attrs_.length c74], Res.own (eList (eStr) 9) F79 y67.Classes_ [.slice a76 y67.Classes_.length c78], Res.box b80 34 [.slice a72 y67.Attrs_.length c74, .slice a76 y67.Classes_.length c78], Res.own (eList (eTimpl_Node) 54) F89 y81.Nodes_ [.slice a86 y81.Nodes_.length c88], Res.box b90 38 [.slice a86 y81.Nodes_.length c88, .int .i64 y81.Seen_], Res.own (eList (eTimpl_Attr) 83) F114 y106.Attrs_ [.slice a111 y106.Attrs_.length c113], Res.own (eList (eStr) 9) F118 y106.Classes_ [.slice a115 y106.Classes_.length c117]]) mixed (by kernel_rfl) (panicOk_qs (panicOk_qs panicOk_body)) (fun _ h => St.mask [true, true, true, true, true, true, true, true, true, true, true, true] rfl h) ?_
          refine ow_rH rfl (dstOk_lt rfl) (ry_box (off := 0) (ds := [.slice a86 y81.Nodes_.length c88, .int .i64 y81.Seen_]) rfl rfl ty38 (boxIn (i := 9) rfl) rfl rfl) ?_
          refine ow_rH rfl (dstOk_lt rfl) (ry_box (off := 0) (ds := [.slice a22 p1.Nodes_.length c23, .int .i64 p1.Seen_]) rfl rfl ty28 (boxIn (i := 1) rfl) rfl rfl) ?_
          obtain ⟨y130, h131, H⟩ := of_bind H
          refine ow_callS rfl fn8 rfl rfl rfl rfl (fun w1 hw1 => laws_toTree_ok w1 (cs0 := [.slice a22 p1.Nodes_.length c23, .int .i64 p1.Seen_]) h131 (hw1.carve [] rfl rfl) (rdm_Tlaws_Tree (x := p1) (c0 := [.slice a22 p1.Nodes_.length c23]) (c1 := [.int .i64 p1.Seen_]) (rds_bor g20 w1 hw1) rfl)) (fun v132 w1 w2 hw1 hR134 => ?_)
          obtain ⟨a135, n136, c137, F138, rfl, hS133⟩ := hR134
          obtain rfl := own_nS (i := 0) hS133 rfl
          refine ⟨St w [] [_, _, _, _, _, _, _, _, _, _, _, _, _], hw1.comp [] rfl rfl hS133, (fun _ h => St.mask [true, true, true, true, true, true, true, true, true, true, true, true] rfl h), ?_⟩
          refine ow_nilH ?_
          refine x_qt ?_
          obtain ⟨y139, h140, H⟩ := of_bind H
          refine ow_q rfl rfl (dstOk_lt rfl) (qy_call rfl fn11 rfl (fun w1 hw1 => laws_eqTree_ok w1 (cs0 := [.slice a86 y81.Nodes_.length c88, .int .i64 y81.Seen_]) (cs1 := [.slice a135 y130.Nodes_.length c137, .int .i64 y130.Seen_]) h140 (rdm_Timpl_Tree (x := y81) (c0 := [.slice a86 y81.Nodes_.length c88]) (c1 := [.int .i64 y81.Seen_]) (rds_own (e := eList (eTimpl_Node) 54) (r := 8) rfl w1 hw1) rfl) (rdm_Timpl_Tree (x := y130) (c0 := [.slice a135 y130.Nodes_.length c137]) (c1 := [.int .i64 y130.Seen_]) (rds_own (e := eList (eTimpl_Node) 54) (r := 12) rfl w1 hw1) rfl))) (fun _ _ => trivial) ?_
          refine ow_batch [.p] rfl ?_
          refine ow_nil ?_
          refine x_qs ?_
          refine c_if rfl (fun hb => ?_) (fun hb => ?_)
          · have H := of_if_t hb H
            refine c_seq ?_
            refine c_reg ?_
            refine ow_batch [.p] rfl ?_
            refine ow_nil ?_
            refine x_qs ?_
            refine c_ret ?_
            refine x_qs_ret ?_
            exact x_retR (rs := [.tmp 4]) (vs := [.bool false]) rfl ⟨rfl, trivial⟩ (fun w' hw' => by
                obtain rfl := of_some H
                exact ⟨rfl, hw'.ext⟩)
          · have H := of_if_f hb H
            refine c_skip ?_
            refine x_qs ?_
            refine c_seq ?_
            refine c_reg ?_
            refine ow_batch [.p] rfl ?_
            refine ow_nil ?_
            refine x_qs ?_
            refine c_ret ?_
            exact x_retR (rs := [.tmp 4]) (vs := [.bool true]) rfl ⟨rfl, trivial⟩ (fun w' hw' => by
                obtain rfl := of_some H
                exact ⟨rfl, hw'.ext⟩)

end Go.Vk
