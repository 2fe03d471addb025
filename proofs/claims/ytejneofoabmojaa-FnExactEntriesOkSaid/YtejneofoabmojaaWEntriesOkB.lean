/- The code does what the functions of data say. Printed by program. -/

import Derived.Test.YtejneofoabmojaaWEntriesOkA

namespace Go.Vk

open Go.Proofs Go.RowKit



set_option maxHeartbeats 4000000 in
set_option maxRecDepth 100000 in
theorem spec_EntriesOk_ok (w : World) {p0 : Timpl_Schema} {p1 : List Timpl_Entry} {cs0 : List Value} {a_1 : Option Addr} {n_1 c_1 : Nat} {r : Bool} (H : spec_EntriesOk p0 p1 = some r)  (g0 : (eTimpl_Schema).rd w [] p0 cs0) (g1 : (eList (eTimpl_Entry) 111).rd w [] p1 [.slice a_1 n_1 c_1]) :
    Calls Try.prog 34 #[.agg cs0.toArray, .slice a_1 n_1 c_1] w (fun en w' => en = .returned (.bool r) ∧ Ext [] w w') := by
  obtain ⟨c1, c2, rfl, g3, g4⟩ := rdo_Timpl_Schema g0
  obtain ⟨a5, c6, rfl⟩ := rd_sl1 g3
  obtain ⟨a7, c8, rfl⟩ := rd_sl1 g4
  obtain rfl := rd_n g1
  unfold spec_EntriesOk at H
  refine f_enter (vs := [.agg #[.slice a5 p0.Attrs_.length c6, .slice a7 p0.Classes_.length c8], .slice a_1 p1.length c_1]) Try.func34 rfl Try.ntmps34 rfl (St.init w []) ?_
  refine c_seq ?_
  refine c_reg ?_
  refine ow_box (cs := [.slice a5 p0.Attrs_.length c6, .slice a7 p0.Classes_.length c8]) rfl rfl rfl rfl rfl rfl (fun _ => kp) (fun b9 => ?_)
  refine ow_batch [.p] rfl ?_
  refine ow_nil ?_
  refine x_qs ?_
  refine c_seq ?_
  refine c_seq ?_
  refine c_reg ?_
  refine ow_r rfl (dstOk_lt rfl) (ry_box (off := 0) (ds := [.slice a5 p0.Attrs_.length c6, .slice a7 p0.Classes_.length c8]) rfl rfl ty39 (boxIn (i := 0) rfl) rfl rfl) ?_
  obtain ⟨y10, h11, H⟩ := of_bind H
  refine ow_q rfl rfl (dstOk_lt rfl) (qy_call rfl fn67 rfl (fun w1 hw1 => spec_SchemaOk_ok w1 (cs0 := [.slice a5 p0.Attrs_.length c6, .slice a7 p0.Classes_.length c8]) h11 (rdm_Timpl_Schema (x := p0) (c0 := [.slice a5 p0.Attrs_.length c6]) (c1 := [.slice a7 p0.Classes_.length c8]) (rds_bor g3 w1 hw1) (rds_bor g4 w1 hw1)))) (fun _ _ => trivial) ?_
  refine ow_batch [.p] rfl ?_
  refine ow_nil ?_
  refine x_qs ?_
  refine c_if rfl (fun hb => ?_) (fun hb => ?_)
  · have H := of_if_t hb H
    refine c_seq ?_
    refine c_reg ?_
    refine ow_batch [.p] rfl ?_
    refine ow_nil ?_
    refine x_qs ?_
    refine c_ret ?_
    refine x_qs_ret ?_
    exact x_retR (rs := [.tmp 4]) (vs := [.bool false]) rfl ⟨rfl, trivial⟩ (fun w' hw' => by
        obtain rfl := of_some H
        exact ⟨rfl, hw'.ext⟩)
  · have H := of_if_f hb H
    refine c_skip ?_
    refine x_qs ?_
    refine c_seq ?_
    refine c_seq ?_
    refine c_reg ?_
    refine ow_batch [.p] rfl ?_
    refine ow_nil ?_
    refine x_qs ?_
    refine c_block ?_
    refine CW.at (loopI1 (fun (i71 : Int) => St w [] [Res.box b9 39 [.slice a5 p0.Attrs_.length c6, .slice a7 p0.Classes_.length c8]]) (fun (i71 : Int) => [(1, .slice a_1 p1.length c_1), (2, .pointer (some ⟨b9, 0, none⟩)), (5, .int .i64 i71)]) (fun kk => fun (i71 : Int) => spec_EntriesOk_L1 p1 p0 kk i71 = some r) (fun _ H => ?_) (fun k1 ihk1 i71 H => ?_) Fuel (0) (H)) (fun _ h => St.sel [0] rfl rfl h) ⟨rfl, rfl, rfl,  trivial⟩
    · unfold spec_EntriesOk_L1 at H
      exact absurd H (by simp)
    · unfold spec_EntriesOk_L1 at H
      refine c_seq ?_
      refine c_seq ?_
      refine c_reg ?_
      refine ow_batch [.p, .p, .lenS 63 111 sl63, .p] rfl ?_
      refine ow_nil ?_
      refine x_qs ?_
      refine c_if rfl (fun hb => ?_) (fun hb => ?_)
      · have H := of_if_t hb H
        refine c_skip ?_
        refine x_qs ?_
        refine c_seq ?_
        refine c_block ?_
        refine c_seq ?_
        refine c_regQ mixed (by kernel_rfl) ?_
        refine ow_r rfl (dstOk_lt rfl) (ry_box (off := 0) (ds := [.slice a5 p0.Attrs_.length c6, .slice a7 p0.Classes_.length c8]) rfl rfl ty39 (boxIn (i := 0) rfl) rfl rfl) ?_
        refine ow_batch [.p, .p] rfl ?_
        obtain ⟨e131, h132, H⟩ := of_bind H
        refine ow_ixB rfl rfl rfl rfl rfl sl63 ty111 rfl g1 h132 (fun q135 c136 hd133 hA134 => ?_)
        obtain ⟨c137, c138, rfl, g139, g140⟩ := rdo_Timpl_Entry hd133
        obtain ⟨c141, c142, rfl, g143, g144⟩ := rdo_Timpl_Ex g139
        obtain ⟨a145, c146, rfl⟩ := rd_sl1 g143
        obtain rfl : c142 = [.int .i64 e131.Ex_.Class_] := g144
        obtain rfl : c138 = [.int .i64 e131.Weight_] := g140
        refine ow_batch [.fa 111 0 0 fa111_0] rfl ?_
        refine ow_r rfl (dstOk_lt rfl) (ry_load (cs := [.slice a145 e131.Ex_.Bins_.length c146, .int .i64 e131.Ex_.Class_]) rfl rfl ty56 (at_bor bor (at_K hA134 0 2)) rfl) ?_
        obtain ⟨y147, h148, H⟩ := of_bind H
        refine ow_q rfl rfl (dstOk_lt rfl) (qy_call rfl fn74 rfl (fun w1 hw1 => spec_ExOk_ok w1 (cs0 := [.slice a5 p0.Attrs_.length c6, .slice a7 p0.Classes_.length c8]) (cs1 := [.slice a145 e131.Ex_.Bins_.length c146, .int .i64 e131.Ex_.Class_]) h148 (rdm_Timpl_Schema (x := p0) (c0 := [.slice a5 p0.Attrs_.length c6]) (c1 := [.slice a7 p0.Classes_.length c8]) (rds_bor g3 w1 hw1) (rds_bor g4 w1 hw1)) (rdm_Timpl_Ex (x := e131.Ex_) (c0 := [.slice a145 e131.Ex_.Bins_.length c146]) (c1 := [.int .i64 e131.Ex_.Class_]) (rds_bor g143 w1 hw1) rfl))) (fun _ _ => trivial) ?_
        refine ow_batch [.p, .p] rfl ?_
        obtain ⟨u149, hu167, H⟩ := of_bind H
        refine ow_cut [(31, .bool u149), (1, .slice a_1 p1.length c_1), (2, .pointer (some ⟨b9, 0, none⟩)), (5, .int .i64 i71)] 8 ?_ (fun key => OW.sub (R := [(1, .slice a_1 p1.length c_1), (2, .pointer (some ⟨b9, 0, none⟩)), (5, .int .i64 i71), (23, .bool (!y147))]) ?_ ⟨rfl, rfl, rfl, rfl, trivial⟩)
        · refine ow_batch [.p] rfl ?_
          obtain ⟨u168, hu188, H⟩ := of_bind H
          refine ow_cut [(40, .bool u168), (1, .slice a_1 p1.length c_1), (2, .pointer (some ⟨b9, 0, none⟩)), (5, .int .i64 i71)] 8 ?_ (fun key => OW.sub (R := [(1, .slice a_1 p1.length c_1), (2, .pointer (some ⟨b9, 0, none⟩)), (5, .int .i64 i71), (32, .bool u149)]) ?_ ⟨rfl, rfl, rfl, rfl, trivial⟩)
          · refine ow_nilQ ?_
            refine x_qs ?_
            refine c_if rfl (fun hb => ?_) (fun hb => ?_)
            · have H := of_if_t hb H
              refine c_seq ?_
              refine c_reg ?_
              refine ow_batch [.p] rfl ?_
              refine ow_nil ?_
              refine x_qs ?_
              refine c_ret ?_
              refine x_qb_ret ?_
              refine x_qs_ret ?_
              refine x_ql_ret ?_
              refine x_qb_ret ?_
              refine x_qs_ret ?_
              exact x_retR (rs := [.tmp 4]) (vs := [.bool false]) rfl ⟨rfl, trivial⟩ (fun w' hw' => by
                  obtain rfl := of_some H
                  exact ⟨rfl, hw'.ext⟩)
            · have H := of_if_f hb H
              refine c_skip ?_
              refine x_qb ?_
              refine x_qs ?_
              refine c_reg ?_
              refine ow_batch [.p, .p, .p] rfl ?_
              refine ow_nil ?_
              exact x_ql (RW.at (ihk1 (IntKind.i64.wrap (i71 + 1)) (H)) (fun _ h => St.sel [0] rfl rfl h) ⟨rfl, rfl, rfl, trivial⟩)
          · clear H
            have H := hu188
            clear hu188
            generalize u149 = t187 at H ⊢
            cases t187
            · have H := of_if_f rfl H
              refine ow_batch [.p, .p] rfl ?_
              obtain ⟨e169, h170, H⟩ := of_bind H
              refine ow_ixB rfl rfl rfl rfl rfl sl63 ty111 rfl g1 h170 (fun q173 c174 hd171 hA172 => ?_)
              obtain ⟨c175, c176, rfl, g177, g178⟩ := rdo_Timpl_Entry hd171
              obtain ⟨c179, c180, rfl, g181, g182⟩ := rdo_Timpl_Ex g177
              obtain ⟨a183, c184, rfl⟩ := rd_sl1 g181
              obtain rfl : c180 = [.int .i64 e169.Ex_.Class_] := g182
              obtain rfl : c176 = [.int .i64 e169.Weight_] := g178
              refine ow_batch [.fa 111 1 2 fa111_1] rfl ?_
              refine ow_r rfl (dstOk_lt rfl) (ry_load1 rfl rfl ty3 (at_bor bor (at_K hA172 2 1))) ?_
              obtain ⟨y185, h186, H⟩ := of_bind H
              refine ow_q rfl rfl (dstOk_lt rfl) (qy_call rfl fn71 rfl (fun w1 hw1 => spec_l1In_ok w1  h186)) (fun _ _ => trivial) ?_
              refine ow_batch [.p] rfl ?_
              refine ow_batch [.p] rfl ?_
              obtain rfl := of_some H
              exact OW.sub key ⟨rfl, rfl, rfl, rfl, trivial⟩
            · have H := of_if_t rfl H
              refine ow_batch [.p, .p, .p, .p, .p, .p, .p, .p] rfl ?_
              obtain rfl := of_some H
              exact OW.sub key ⟨rfl, rfl, rfl, rfl, trivial⟩
        · clear H
          have H := hu167
          clear hu167
          generalize (!y147) = t166 at H ⊢
          cases t166
          · have H := of_if_f rfl H
            refine ow_batch [.p, .p] rfl ?_
            obtain ⟨e150, h151, H⟩ := of_bind H
            refine ow_ixB rfl rfl rfl rfl rfl sl63 ty111 rfl g1 h151 (fun q154 c155 hd152 hA153 => ?_)
            obtain ⟨c156, c157, rfl, g158, g159⟩ := rdo_Timpl_Entry hd152
            obtain ⟨c160, c161, rfl, g162, g163⟩ := rdo_Timpl_Ex g158
            obtain ⟨a164, c165, rfl⟩ := rd_sl1 g162
            obtain rfl : c161 = [.int .i64 e150.Ex_.Class_] := g163
            obtain rfl : c157 = [.int .i64 e150.Weight_] := g159
            refine ow_batch [.fa 111 0 0 fa111_0, .fa 56 1 1 fa56_1] rfl ?_
            refine ow_r rfl (dstOk_lt rfl) (ry_load1 rfl rfl ty3 (at_bor bor (at_K (at_K hA153 0 2) 1 1))) ?_
            refine ow_batch [.p] rfl ?_
            refine ow_batch [.p] rfl ?_
            obtain rfl := of_some H
            exact OW.sub key ⟨rfl, rfl, rfl, rfl, trivial⟩
          · have H := of_if_t rfl H
            refine ow_batch [.p, .p, .p, .p, .p, .p, .p, .p] rfl ?_
            obtain rfl := of_some H
            exact OW.sub key ⟨rfl, rfl, rfl, rfl, trivial⟩
      · have H := of_if_f hb H
        refine c_exit ?_
        refine x_qs_exit ?_
        refine x_ql_exit ?_
        refine x_qb_here ?_
        refine x_qs ?_
        refine c_seq ?_
        refine c_reg ?_
        refine ow_batch [.p] rfl ?_
        refine ow_nil ?_
        refine x_qs ?_
        refine c_ret ?_
        exact x_retR (rs := [.tmp 4]) (vs := [.bool true]) rfl ⟨rfl, trivial⟩ (fun w' hw' => by
            obtain rfl := of_some H
            exact ⟨rfl, hw'.ext⟩)

set_option maxHeartbeats 4000000 in
set_option maxRecDepth 100000 in
theorem impl_ExOk_ok (w : World) {p0 : Timpl_Schema} {p1 : Timpl_Ex} {cs0 : List Value} {cs1 : List Value} {r : Bool} (H : impl_ExOk p0 p1 = some r)  (g0 : (eTimpl_Schema).rd w [] p0 cs0) (g1 : (eTimpl_Ex).rd w [] p1 cs1) :
    Calls Try.prog 75 #[.agg cs0.toArray, .agg cs1.toArray] w (fun en w' => en = .returned (.bool r) ∧ Ext [] w w') := by
  obtain ⟨c1, c2, rfl, g3, g4⟩ := rdo_Timpl_Schema g0
  obtain ⟨a5, c6, rfl⟩ := rd_sl1 g3
  obtain ⟨a7, c8, rfl⟩ := rd_sl1 g4
  obtain ⟨c9, c10, rfl, g11, g12⟩ := rdo_Timpl_Ex g1
  obtain ⟨a13, c14, rfl⟩ := rd_sl1 g11
  obtain rfl : c10 = [.int .i64 p1.Class_] := g12
  unfold impl_ExOk at H
  refine f_enter (vs := [.agg #[.slice a5 p0.Attrs_.length c6, .slice a7 p0.Classes_.length c8], .agg #[.slice a13 p1.Bins_.length c14, .int .i64 p1.Class_]]) Try.func75 rfl Try.ntmps75 rfl (St.init w []) ?_
  refine c_seq ?_
  refine c_reg ?_
  refine ow_box (cs := [.slice a5 p0.Attrs_.length c6, .slice a7 p0.Classes_.length c8]) rfl rfl rfl rfl rfl rfl (fun _ => kp) (fun b15 => ?_)
  refine ow_box (cs := [.slice a13 p1.Bins_.length c14, .int .i64 p1.Class_]) rfl rfl rfl rfl rfl rfl (fun _ => kp) (fun b16 => ?_)
  refine ow_batch [.p] rfl ?_
  refine ow_nil ?_
  refine x_qs ?_
  refine c_seq ?_
  refine c_seq ?_
  refine c_reg ?_
  refine ow_r rfl (dstOk_lt rfl) (ry_box (off := 0) (ds := [.slice a5 p0.Attrs_.length c6, .slice a7 p0.Classes_.length c8]) rfl rfl ty39 (boxIn (i := 0) rfl) rfl rfl) ?_
  obtain ⟨y17, h18, H⟩ := of_bind H
  refine ow_q rfl rfl (dstOk_lt rfl) (qy_call rfl fn69 rfl (fun w1 hw1 => impl_SchemaOk_ok w1 (cs0 := [.slice a5 p0.Attrs_.length c6, .slice a7 p0.Classes_.length c8]) h18 (rdm_Timpl_Schema (x := p0) (c0 := [.slice a5 p0.Attrs_.length c6]) (c1 := [.slice a7 p0.Classes_.length c8]) (rds_bor g3 w1 hw1) (rds_bor g4 w1 hw1)))) (fun _ _ => trivial) ?_
  refine ow_batch [.p, .p] rfl ?_
  refine ow_cut [(18, .bool ((!y17) || ((p1.Bins_.length : Int) != (p0.Attrs_.length : Int)))), (2, .pointer (some ⟨b15, 0, none⟩)), (3, .pointer (some ⟨b16, 0, none⟩))] 8 ?_ (fun key => OW.sub (R := [(2, .pointer (some ⟨b15, 0, none⟩)), (3, .pointer (some ⟨b16, 0, none⟩)), (10, .bool (!y17))]) ?_ ⟨rfl, rfl, rfl, trivial⟩)
  · refine ow_batch [.p] rfl ?_
    obtain ⟨u21, hu25, H⟩ := of_bind H
    refine ow_cut [(28, .bool u21), (2, .pointer (some ⟨b15, 0, none⟩)), (3, .pointer (some ⟨b16, 0, none⟩))] 9 ?_ (fun key => OW.sub (R := [(2, .pointer (some ⟨b15, 0, none⟩)), (3, .pointer (some ⟨b16, 0, none⟩)), (19, .bool ((!y17) || ((p1.Bins_.length : Int) != (p0.Attrs_.length : Int))))]) ?_ ⟨rfl, rfl, rfl, trivial⟩)
    · refine ow_nil ?_
      refine x_qs ?_
      refine c_if rfl (fun hb => ?_) (fun hb => ?_)
      · have H := of_if_t hb H
        refine c_seq ?_
        refine c_reg ?_
        refine ow_batch [.p] rfl ?_
        refine ow_nil ?_
        refine x_qs ?_
        refine c_ret ?_
        refine x_qs_ret ?_
        exact x_retR (rs := [.tmp 4]) (vs := [.bool false]) rfl ⟨rfl, trivial⟩ (fun w' hw' => by
            obtain rfl := of_some H
            exact ⟨rfl, hw'.ext⟩)
      · have H := of_if_f hb H
        refine c_skip ?_
        refine x_qs ?_
        refine c_seq ?_
        refine c_seq ?_
        refine c_reg ?_
        refine ow_batch [.fa 56 0 0 fa56_0] rfl ?_
        refine ow_r rfl (dstOk_lt rfl) (ry_box1 (off := 0) rfl rfl ty22 (boxIn (i := 1) rfl) rfl) ?_
        refine ow_batch [.lenS 22 3 sl22, .p] rfl ?_
        refine ow_nil ?_
        refine x_qs ?_
        refine c_block ?_
        refine CW.at (loopI1 (fun (i49 : Int) => St w [] [Res.box b15 39 [.slice a5 p0.Attrs_.length c6, .slice a7 p0.Classes_.length c8]]) (fun (i49 : Int) => [(2, .pointer (some ⟨b15, 0, none⟩)), (30, .slice a13 p1.Bins_.length c14), (31, .int .i64 (p1.Bins_.length : Int)), (32, .int .i64 i49)]) (fun kk => fun (i49 : Int) => impl_ExOk_L1 p1 p0 kk i49 = some r) (fun _ H => ?_) (fun k1 ihk1 i49 H => ?_) Fuel (0) (H)) (fun _ h => St.sel [0] rfl rfl h) ⟨rfl, rfl, rfl, rfl,  trivial⟩
        · unfold impl_ExOk_L1 at H
          exact absurd H (by simp)
        · unfold impl_ExOk_L1 at H
          refine c_seq ?_
          refine c_reg ?_
          refine ow_batch [.p] rfl ?_
          refine ow_nil ?_
          refine x_qs ?_
          refine c_seq ?_
          refine c_if rfl (fun hb => ?_) (fun hb => ?_)
          · have H := of_if_t hb H
            refine c_skip ?_
            refine x_qs ?_
            refine c_seq ?_
            refine c_block ?_
            refine c_seq ?_
            refine c_reg ?_
            refine ow_batch [.p] rfl ?_
            obtain ⟨e73, h74, H⟩ := of_bind H
            refine ow_ixE (e := eVal (Value.int .i64) (fun _ => rfl)) (xs := p1.Bins_) (j := i49) rfl rfl rfl rfl rfl sl22 ty3 rfl (fun w1 hw1 => rds_bor g11 w1 hw1) h74 (by rw [Nat.mul_one]) ?_
            refine ow_r rfl (dstOk_lt rfl) (ry_load1 rfl rfl ty3 (at_elV (fun w1 hw1 => rds_bor g11 w1 hw1) h74)) ?_
            refine ow_batch [.p, .p] rfl ?_
            refine ow_nil ?_
            refine x_qs ?_
            refine c_seq ?_
            refine c_reg ?_
            refine ow_batch [.p, .fa 39 0 0 fa39_0] rfl ?_
            refine ow_r rfl (dstOk_lt rfl) (ry_box1 (off := 0) rfl rfl ty37 (boxIn (i := 0) rfl) rfl) ?_
            refine ow_batch [.p] rfl ?_
            obtain ⟨e75, h76, H⟩ := of_bind H
            refine ow_ixB rfl rfl rfl rfl rfl sl37 ty28 rfl g3 h76 (fun q79 c80 hd77 hA78 => ?_)
            obtain ⟨c81, c82, c83, rfl, g84, g85, g86⟩ := rdo_Timpl_Attr hd77
            obtain rfl : c81 = [vS e75.Name_] := g84
            obtain ⟨a87, c88, rfl⟩ := rd_sl1 g85
            obtain ⟨a89, c90, rfl⟩ := rd_sl1 g86
            refine ow_r rfl (dstOk_lt rfl) (ry_load (cs := [vS e75.Name_, .slice a87 e75.Cuts_.length c88, .slice a89 e75.Values_.length c90]) rfl rfl ty28 (at_bor bor hA78) rfl) ?_
            obtain ⟨y91, h92, H⟩ := of_bind H
            refine ow_q rfl rfl (dstOk_lt rfl) (qy_call rfl fn63 rfl (fun w1 hw1 => impl_bins_ok w1 (cs0 := [vS e75.Name_, .slice a87 e75.Cuts_.length c88, .slice a89 e75.Values_.length c90]) h92 (rdm_Timpl_Attr (x := e75) (c0 := [vS e75.Name_]) (c1 := [.slice a87 e75.Cuts_.length c88]) (c2 := [.slice a89 e75.Values_.length c90]) rfl (rds_bor g85 w1 hw1) (rds_bor g86 w1 hw1)))) (fun _ _ => trivial) ?_
            refine ow_batch [.p] rfl ?_
            obtain ⟨y93, h94, H⟩ := of_bind H
            refine ow_q rfl rfl (dstOk_lt rfl) (qy_call rfl fn72 rfl (fun w1 hw1 => impl_within_ok w1  h94)) (fun _ _ => trivial) ?_
            refine ow_batch [.p] rfl ?_
            refine ow_nil ?_
            refine x_qs ?_
            refine c_if rfl (fun hb => ?_) (fun hb => ?_)
            · have H := of_if_t hb H
              refine c_seq ?_
              refine c_reg ?_
              refine ow_batch [.p] rfl ?_
              refine ow_nil ?_
              refine x_qs ?_
              refine c_ret ?_
              refine x_qb_ret ?_
              refine x_qs_ret ?_
              refine x_ql_ret ?_
              refine x_qb_ret ?_
              refine x_qs_ret ?_
              exact x_retR (rs := [.tmp 4]) (vs := [.bool false]) rfl ⟨rfl, trivial⟩ (fun w' hw' => by
                  obtain rfl := of_some H
                  exact ⟨rfl, hw'.ext⟩)
            · have H := of_if_f hb H
              refine c_skip ?_
              refine x_qb ?_
              refine x_qs ?_
              refine c_reg ?_
              refine ow_batch [.p, .p] rfl ?_
              refine ow_nil ?_
              exact x_ql (RW.at (ihk1 (IntKind.i64.wrap (i49 + 1)) (H)) (fun _ h => St.sel [0] rfl rfl h) ⟨rfl, rfl, rfl, rfl, trivial⟩)
          · have H := of_if_f hb H
            refine c_exit ?_
            refine x_qs_exit ?_
            refine x_ql_exit ?_
            refine x_qb_here ?_
            refine x_qs ?_
            refine c_seq ?_
            refine c_reg ?_
            refine ow_batch [.p] rfl ?_
            refine ow_nil ?_
            refine x_qs ?_
            refine c_ret ?_
            exact x_retR (rs := [.tmp 4]) (vs := [.bool true]) rfl ⟨rfl, trivial⟩ (fun w' hw' => by
                obtain rfl := of_some H
                exact ⟨rfl, hw'.ext⟩)
    · clear H
      have H := hu25
      clear hu25
      generalize ((!y17) || ((p1.Bins_.length : Int) != (p0.Attrs_.length : Int))) = t24 at H ⊢
      cases t24
      · have H := of_if_f rfl H
        refine ow_batch [.fa 56 1 1 fa56_1] rfl ?_
        refine ow_r rfl (dstOk_lt rfl) (ry_box1 (off := 1) rfl rfl ty3 (boxIn (i := 1) rfl) rfl) ?_
        refine ow_batch [.fa 39 1 1 fa39_1] rfl ?_
        refine ow_r rfl (dstOk_lt rfl) (ry_box1 (off := 1) rfl rfl ty23 (boxIn (i := 0) rfl) rfl) ?_
        refine ow_batch [.lenS 23 9 sl23, .p] rfl ?_
        obtain ⟨y22, h23, H⟩ := of_bind H
        refine ow_q rfl rfl (dstOk_lt rfl) (qy_call rfl fn72 rfl (fun w1 hw1 => impl_within_ok w1  h23)) (fun _ _ => trivial) ?_
        refine ow_batch [.p] rfl ?_
        refine ow_batch [.p] rfl ?_
        obtain rfl := of_some H
        exact OW.sub key ⟨rfl, rfl, rfl, trivial⟩
      · have H := of_if_t rfl H
        refine ow_batch [.p, .p, .p, .p, .p, .p, .p, .p, .p] rfl ?_
        obtain rfl := of_some H
        exact OW.sub key ⟨rfl, rfl, rfl, trivial⟩
  · generalize (!y17) = t20 at key ⊢
    cases t20
    · refine ow_batch [.fa 56 0 0 fa56_0] rfl ?_
      refine ow_r rfl (dstOk_lt rfl) (ry_box1 (off := 0) rfl rfl ty22 (boxIn (i := 1) rfl) rfl) ?_
      refine ow_batch [.lenS 22 3 sl22, .fa 39 0 0 fa39_0] rfl ?_
      refine ow_r rfl (dstOk_lt rfl) (ry_box1 (off := 0) rfl rfl ty37 (boxIn (i := 0) rfl) rfl) ?_
      refine ow_batch [.lenS 37 28 sl37, .p] rfl ?_
      refine ow_batch [.p] rfl ?_
      exact OW.sub key ⟨rfl, rfl, rfl, trivial⟩
    · refine ow_batch [.p, .p, .p, .p, .p, .p, .p, .p] rfl ?_
      exact OW.sub key ⟨rfl, rfl, rfl, trivial⟩

set_option maxHeartbeats 4000000 in
set_option maxRecDepth 100000 in
theorem impl_EntriesOk_1_ok (w : World) {p0 : Timpl_Entry} {p1 : Timpl_Schema} {cs0 : List Value} {q_1 : Addr} {cs_1 : List Value} {r : Bool} (H : impl_EntriesOk_1 p0 p1 = some r)  (g0 : (eTimpl_Entry).rd w [] p0 cs0) (g_1 : (eTimpl_Schema).rd w [] p1 cs_1) (hA_1 : At w [] q_1 cs_1) :
    Calls Try.prog 79 #[.agg cs0.toArray, .pointer (some q_1)] w (fun en w' => en = .returned (.bool r) ∧ Ext [] w w') := by
  obtain ⟨c1, c2, rfl, g3, g4⟩ := rdo_Timpl_Entry g0
  obtain ⟨c5, c6, rfl, g7, g8⟩ := rdo_Timpl_Ex g3
  obtain ⟨a9, c10, rfl⟩ := rd_sl1 g7
  obtain rfl : c6 = [.int .i64 p0.Ex_.Class_] := g8
  obtain rfl : c2 = [.int .i64 p0.Weight_] := g4
  obtain ⟨c11, c12, rfl, g13, g14⟩ := rdo_Timpl_Schema g_1
  obtain ⟨a15, c16, rfl⟩ := rd_sl1 g13
  obtain ⟨a17, c18, rfl⟩ := rd_sl1 g14
  unfold impl_EntriesOk_1 at H
  refine f_enter (vs := [.agg #[.slice a9 p0.Ex_.Bins_.length c10, .int .i64 p0.Ex_.Class_, .int .i64 p0.Weight_], .pointer (some q_1)]) Try.func79 rfl Try.ntmps79 rfl (St.init w []) ?_
  refine c_seq ?_
  refine c_reg ?_
  refine ow_box (cs := [.slice a9 p0.Ex_.Bins_.length c10, .int .i64 p0.Ex_.Class_, .int .i64 p0.Weight_]) rfl rfl rfl rfl rfl rfl (fun _ => kp) (fun b19 => ?_)
  refine ow_batch [.p] rfl ?_
  refine ow_nil ?_
  refine x_qs ?_
  refine c_seq ?_
  refine c_reg ?_
  refine ow_r rfl (dstOk_lt rfl) (ry_load (cs := [.slice a15 p1.Attrs_.length c16, .slice a17 p1.Classes_.length c18]) rfl rfl ty39 (at_bor bor hA_1) rfl) ?_
  refine ow_batch [.fa 111 0 0 fa111_0] rfl ?_
  refine ow_r rfl (dstOk_lt rfl) (ry_box (off := 0) (ds := [.slice a9 p0.Ex_.Bins_.length c10, .int .i64 p0.Ex_.Class_]) rfl rfl ty56 (boxIn (i := 0) rfl) rfl rfl) ?_
  obtain ⟨y20, h21, H⟩ := of_bind H
  refine ow_q rfl rfl (dstOk_lt rfl) (qy_call rfl fn75 rfl (fun w1 hw1 => impl_ExOk_ok w1 (cs0 := [.slice a15 p1.Attrs_.length c16, .slice a17 p1.Classes_.length c18]) (cs1 := [.slice a9 p0.Ex_.Bins_.length c10, .int .i64 p0.Ex_.Class_]) h21 (rdm_Timpl_Schema (x := p1) (c0 := [.slice a15 p1.Attrs_.length c16]) (c1 := [.slice a17 p1.Classes_.length c18]) (rds_bor g13 w1 hw1) (rds_bor g14 w1 hw1)) (rdm_Timpl_Ex (x := p0.Ex_) (c0 := [.slice a9 p0.Ex_.Bins_.length c10]) (c1 := [.int .i64 p0.Ex_.Class_]) (rds_bor g7 w1 hw1) rfl))) (fun _ _ => trivial) ?_
  refine ow_batch [.p, .p] rfl ?_
  refine ow_cut [(14, .bool ((!y20) || (decide (p0.Ex_.Class_ < 0)))), (2, .pointer (some ⟨b19, 0, none⟩)), (3, .bool false)] 5 ?_ (fun key => OW.sub (R := [(2, .pointer (some ⟨b19, 0, none⟩)), (3, .bool false), (9, .bool (!y20))]) ?_ ⟨rfl, rfl, rfl, trivial⟩)
  · refine ow_batch [.p] rfl ?_
    obtain ⟨u24, hu28, H⟩ := of_bind H
    refine ow_cut [(20, .bool u24), (3, .bool false)] 5 ?_ (fun key => OW.sub (R := [(2, .pointer (some ⟨b19, 0, none⟩)), (3, .bool false), (15, .bool ((!y20) || (decide (p0.Ex_.Class_ < 0))))]) ?_ ⟨rfl, rfl, rfl, trivial⟩)
    · refine ow_batch [.p] rfl ?_
      refine ow_nil ?_
      refine x_qs ?_
      refine c_ret ?_
      exact x_retR (rs := [.tmp 3]) (vs := [.bool u24]) rfl ⟨rfl, trivial⟩ (fun w' hw' => by
          obtain rfl := of_some H
          exact ⟨rfl, hw'.ext⟩)
    · clear H
      have H := hu28
      clear hu28
      generalize ((!y20) || (decide (p0.Ex_.Class_ < 0))) = t27 at H ⊢
      cases t27
      · have H := of_if_f rfl H
        refine ow_batch [.fa 111 1 2 fa111_1] rfl ?_
        refine ow_r rfl (dstOk_lt rfl) (ry_box1 (off := 2) rfl rfl ty3 (boxIn (i := 0) rfl) rfl) ?_
        obtain ⟨y25, h26, H⟩ := of_bind H
        refine ow_q rfl rfl (dstOk_lt rfl) (qy_call rfl fn72 rfl (fun w1 hw1 => impl_within_ok w1  h26)) (fun _ _ => trivial) ?_
        refine ow_batch [.p] rfl ?_
        refine ow_batch [.p] rfl ?_
        obtain rfl := of_some H
        exact OW.sub key ⟨rfl, rfl, trivial⟩
      · have H := of_if_t rfl H
        refine ow_batch [.p, .p, .p, .p, .p] rfl ?_
        obtain rfl := of_some H
        exact OW.sub key ⟨rfl, rfl, trivial⟩
  · generalize (!y20) = t23 at key ⊢
    cases t23
    · refine ow_batch [.fa 111 0 0 fa111_0, .fa 56 1 1 fa56_1] rfl ?_
      refine ow_r rfl (dstOk_lt rfl) (ry_box1 (off := 1) rfl rfl ty3 (boxIn (i := 0) rfl) rfl) ?_
      refine ow_batch [.p] rfl ?_
      refine ow_batch [.p] rfl ?_
      exact OW.sub key ⟨rfl, rfl, rfl, trivial⟩
    · refine ow_batch [.p, .p, .p, .p, .p] rfl ?_
      exact OW.sub key ⟨rfl, rfl, rfl, trivial⟩

set_option maxHeartbeats 4000000 in
set_option maxRecDepth 100000 in
theorem lib_slices_IndexFunc___impl_Entry_impl_Entry___impl_EntriesOk_1_ok (w : World) {p0 : List Timpl_Entry} {p1_0 : Timpl_Schema} {a_0 : Option Addr} {n_0 c_0 : Nat} {q_1_0 : Addr} {cs_1_0 : List Value} {r : Int} (H : lib_slices_IndexFunc___impl_Entry_impl_Entry___impl_EntriesOk_1 p0 p1_0 = some r)  (g0 : (eList (eTimpl_Entry) 111).rd w [] p0 [.slice a_0 n_0 c_0]) (g_1_0 : (eTimpl_Schema).rd w [] p1_0 cs_1_0) (hA_1_0 : At w [] q_1_0 cs_1_0) :
    Calls Try.prog 111 #[.slice a_0 n_0 c_0, .func (.func 79) #[] #[.pointer (some q_1_0)]] w (fun en w' => en = .returned (.int .i64 r) ∧ Ext [] w w') := by
  obtain rfl := rd_n g0
  obtain ⟨c1, c2, rfl, g3, g4⟩ := rdo_Timpl_Schema g_1_0
  obtain ⟨a5, c6, rfl⟩ := rd_sl1 g3
  obtain ⟨a7, c8, rfl⟩ := rd_sl1 g4
  unfold lib_slices_IndexFunc___impl_Entry_impl_Entry___impl_EntriesOk_1 at H
  refine f_enter (vs := [.slice a_0 p0.length c_0, .func (.func 79) #[] #[.pointer (some q_1_0)]]) Try.func111 rfl Try.ntmps111 rfl (St.init w []) ?_
  refine c_seq ?_
  refine c_reg ?_
  refine ow_batch [.p] rfl ?_
  refine ow_nil ?_
  refine x_qs ?_
  refine c_seq ?_
  refine c_seq ?_
  refine c_reg ?_
  refine ow_batch [.p, .lenS 63 111 sl63, .p] rfl ?_
  refine ow_nil ?_
  refine x_qs ?_
  refine c_block ?_
  refine CW.at (loopI1 (fun (i28 : Int) => St w [] []) (fun (i28 : Int) => [(0, .slice a_0 p0.length c_0), (1, .func (.func 79) #[] #[.pointer (some q_1_0)]), (7, .int .i64 (p0.length : Int)), (8, .int .i64 i28)]) (fun kk => fun (i28 : Int) => lib_slices_IndexFunc___impl_Entry_impl_Entry___impl_EntriesOk_1_L1 p0 p1_0 kk i28 = some r) (fun _ H => ?_) (fun k1 ihk1 i28 H => ?_) Fuel (0) (H)) (fun _ h => St.sel [] rfl rfl h) ⟨rfl, rfl, rfl, rfl,  trivial⟩
  · unfold lib_slices_IndexFunc___impl_Entry_impl_Entry___impl_EntriesOk_1_L1 at H
    exact absurd H (by simp)
  · unfold lib_slices_IndexFunc___impl_Entry_impl_Entry___impl_EntriesOk_1_L1 at H
    refine c_seq ?_
    refine c_reg ?_
    refine ow_batch [.p] rfl ?_
    refine ow_nil ?_
    refine x_qs ?_
    refine c_seq ?_
    refine c_if rfl (fun hb => ?_) (fun hb => ?_)
    · have H := of_if_t hb H
      refine c_skip ?_
      refine x_qs ?_
      refine c_seq ?_
      refine c_block ?_
      refine c_seq ?_
      refine c_reg ?_
      refine ow_batch [.p, .p] rfl ?_
      refine ow_nil ?_
      refine x_qs ?_
      refine c_seq ?_
      refine c_reg ?_
      refine ow_batch [.p, .p, .p] rfl ?_
      obtain ⟨e48, h49, H⟩ := of_bind H
      refine ow_ixB rfl rfl rfl rfl rfl sl63 ty111 rfl g0 h49 (fun q52 c53 hd50 hA51 => ?_)
      obtain ⟨c54, c55, rfl, g56, g57⟩ := rdo_Timpl_Entry hd50
      obtain ⟨c58, c59, rfl, g60, g61⟩ := rdo_Timpl_Ex g56
      obtain ⟨a62, c63, rfl⟩ := rd_sl1 g60
      obtain rfl : c59 = [.int .i64 e48.Ex_.Class_] := g61
      obtain rfl : c55 = [.int .i64 e48.Weight_] := g57
      refine ow_r rfl (dstOk_lt rfl) (ry_load (cs := [.slice a62 e48.Ex_.Bins_.length c63, .int .i64 e48.Ex_.Class_, .int .i64 e48.Weight_]) rfl rfl ty111 (at_bor bor hA51) rfl) ?_
      obtain ⟨y64, h65, H⟩ := of_bind H
      refine ow_q rfl rfl (dstOk_lt rfl) (qy_callV (cap := [.pointer (some q_1_0)]) rfl fn79 rfl rfl (fun w1 hw1 => impl_EntriesOk_1_ok w1 (cs0 := [.slice a62 e48.Ex_.Bins_.length c63, .int .i64 e48.Ex_.Class_, .int .i64 e48.Weight_]) (cs_1 := [.slice a5 p1_0.Attrs_.length c6, .slice a7 p1_0.Classes_.length c8]) h65 (rdm_Timpl_Entry (x := e48) (c0 := [.slice a62 e48.Ex_.Bins_.length c63, .int .i64 e48.Ex_.Class_]) (c1 := [.int .i64 e48.Weight_]) (rdm_Timpl_Ex (x := e48.Ex_) (c0 := [.slice a62 e48.Ex_.Bins_.length c63]) (c1 := [.int .i64 e48.Ex_.Class_]) (rds_bor g60 w1 hw1) rfl) rfl) (rdm_Timpl_Schema (x := p1_0) (c0 := [.slice a5 p1_0.Attrs_.length c6]) (c1 := [.slice a7 p1_0.Classes_.length c8]) (rds_bor g3 w1 hw1) (rds_bor g4 w1 hw1)) (at_bor bor hA_1_0 w1 hw1))) (fun _ _ => trivial) ?_
      refine ow_nil ?_
      refine x_qs ?_
      refine c_if rfl (fun hb => ?_) (fun hb => ?_)
      · have H := of_if_t hb H
        refine c_seq ?_
        refine c_reg ?_
        refine ow_batch [.p, .p] rfl ?_
        refine ow_nil ?_
        refine x_qs ?_
        refine c_ret ?_
        refine x_qb_ret ?_
        refine x_qs_ret ?_
        refine x_ql_ret ?_
        refine x_qb_ret ?_
        refine x_qs_ret ?_
        exact x_retR (rs := [.tmp 4]) (vs := [.int .i64 i28]) rfl ⟨rfl, trivial⟩ (fun w' hw' => by
            obtain rfl := of_some H
            exact ⟨rfl, hw'.ext⟩)
      · have H := of_if_f hb H
        refine c_skip ?_
        refine x_qb ?_
        refine x_qs ?_
        refine c_reg ?_
        refine ow_batch [.p, .p] rfl ?_
        refine ow_nil ?_
        exact x_ql (RW.at (ihk1 (IntKind.i64.wrap (i28 + 1)) (H)) (fun _ h => St.sel [] rfl rfl h) ⟨rfl, rfl, rfl, rfl, trivial⟩)
    · have H := of_if_f hb H
      refine c_exit ?_
      refine x_qs_exit ?_
      refine x_ql_exit ?_
      refine x_qb_here ?_
      refine x_qs ?_
      refine c_seq ?_
      refine c_reg ?_
      refine ow_batch [.p] rfl ?_
      refine ow_nil ?_
      refine x_qs ?_
      refine c_ret ?_
      exact x_retR (rs := [.tmp 4]) (vs := [.int .i64 (-1)]) rfl ⟨rfl, trivial⟩ (fun w' hw' => by
          obtain rfl := of_some H
          exact ⟨rfl, hw'.ext⟩)

set_option maxHeartbeats 4000000 in
set_option maxRecDepth 100000 in
theorem lib_slices_ContainsFunc___impl_Entry_impl_Entry___impl_EntriesOk_1_ok (w : World) {p0 : List Timpl_Entry} {p1_0 : Timpl_Schema} {a_0 : Option Addr} {n_0 c_0 : Nat} {q_1_0 : Addr} {cs_1_0 : List Value} {r : Bool} (H : lib_slices_ContainsFunc___impl_Entry_impl_Entry___impl_EntriesOk_1 p0 p1_0 = some r)  (g0 : (eList (eTimpl_Entry) 111).rd w [] p0 [.slice a_0 n_0 c_0]) (g_1_0 : (eTimpl_Schema).rd w [] p1_0 cs_1_0) (hA_1_0 : At w [] q_1_0 cs_1_0) :
    Calls Try.prog 78 #[.slice a_0 n_0 c_0, .func (.func 79) #[] #[.pointer (some q_1_0)]] w (fun en w' => en = .returned (.bool r) ∧ Ext [] w w') := by
  obtain rfl := rd_n g0
  obtain ⟨c1, c2, rfl, g3, g4⟩ := rdo_Timpl_Schema g_1_0
  obtain ⟨a5, c6, rfl⟩ := rd_sl1 g3
  obtain ⟨a7, c8, rfl⟩ := rd_sl1 g4
  unfold lib_slices_ContainsFunc___impl_Entry_impl_Entry___impl_EntriesOk_1 at H
  refine f_enter (vs := [.slice a_0 p0.length c_0, .func (.func 79) #[] #[.pointer (some q_1_0)]]) Try.func78 rfl Try.ntmps78 rfl (St.init w []) ?_
  refine c_seq ?_
  refine c_reg ?_
  refine ow_batch [.p] rfl ?_
  refine ow_nil ?_
  refine x_qs ?_
  refine c_seq ?_
  refine c_reg ?_
  refine ow_batch [.p, .p] rfl ?_
  obtain ⟨y9, h10, H⟩ := of_bind H
  refine ow_q rfl rfl (dstOk_lt rfl) (qy_call rfl fn111 rfl (fun w1 hw1 => lib_slices_IndexFunc___impl_Entry_impl_Entry___impl_EntriesOk_1_ok w1 (cs_1_0 := [.slice a5 p1_0.Attrs_.length c6, .slice a7 p1_0.Classes_.length c8]) h10 (rds_bor g0 w1 hw1) (rdm_Timpl_Schema (x := p1_0) (c0 := [.slice a5 p1_0.Attrs_.length c6]) (c1 := [.slice a7 p1_0.Classes_.length c8]) (rds_bor g3 w1 hw1) (rds_bor g4 w1 hw1)) (at_bor bor hA_1_0 w1 hw1))) (fun _ _ => trivial) ?_
  refine ow_batch [.p, .p] rfl ?_
  refine ow_nil ?_
  refine x_qs ?_
  refine c_ret ?_
  exact x_retR (rs := [.tmp 4]) (vs := [.bool (decide (y9 ≥ 0))]) rfl ⟨rfl, trivial⟩ (fun w' hw' => by
      obtain rfl := of_some H
      exact ⟨rfl, hw'.ext⟩)

set_option maxHeartbeats 4000000 in
set_option maxRecDepth 100000 in
theorem impl_EntriesOk_ok (w : World) {p0 : Timpl_Schema} {p1 : List Timpl_Entry} {cs0 : List Value} {a_1 : Option Addr} {n_1 c_1 : Nat} {r : Bool} (H : impl_EntriesOk p0 p1 = some r)  (g0 : (eTimpl_Schema).rd w [] p0 cs0) (g1 : (eList (eTimpl_Entry) 111).rd w [] p1 [.slice a_1 n_1 c_1]) :
    Calls Try.prog 36 #[.agg cs0.toArray, .slice a_1 n_1 c_1] w (fun en w' => en = .returned (.bool r) ∧ Ext [] w w') := by
  obtain ⟨c1, c2, rfl, g3, g4⟩ := rdo_Timpl_Schema g0
  obtain ⟨a5, c6, rfl⟩ := rd_sl1 g3
  obtain ⟨a7, c8, rfl⟩ := rd_sl1 g4
  obtain rfl := rd_n g1
  unfold impl_EntriesOk at H
  refine f_enter (vs := [.agg #[.slice a5 p0.Attrs_.length c6, .slice a7 p0.Classes_.length c8], .slice a_1 p1.length c_1]) Try.func36 rfl Try.ntmps36 rfl (St.init w []) ?_
  refine c_seq ?_
  refine c_reg ?_
  refine ow_box (cs := [.slice a5 p0.Attrs_.length c6, .slice a7 p0.Classes_.length c8]) rfl rfl rfl rfl rfl rfl (fun _ => kp) (fun b9 => ?_)
  refine ow_batch [.p] rfl ?_
  refine ow_nil ?_
  refine x_qs ?_
  refine c_seq ?_
  refine c_reg ?_
  refine ow_r rfl (dstOk_lt rfl) (ry_box (off := 0) (ds := [.slice a5 p0.Attrs_.length c6, .slice a7 p0.Classes_.length c8]) rfl rfl ty39 (boxIn (i := 0) rfl) rfl rfl) ?_
  obtain ⟨y10, h11, H⟩ := of_bind H
  refine ow_q rfl rfl (dstOk_lt rfl) (qy_call rfl fn69 rfl (fun w1 hw1 => impl_SchemaOk_ok w1 (cs0 := [.slice a5 p0.Attrs_.length c6, .slice a7 p0.Classes_.length c8]) h11 (rdm_Timpl_Schema (x := p0) (c0 := [.slice a5 p0.Attrs_.length c6]) (c1 := [.slice a7 p0.Classes_.length c8]) (rds_bor g3 w1 hw1) (rds_bor g4 w1 hw1)))) (fun _ _ => trivial) ?_
  refine ow_batch [.p] rfl ?_
  obtain ⟨u12, hu16, H⟩ := of_bind H
  refine ow_cut [(12, .bool u12), (4, .bool false)] 5 ?_ (fun key => OW.sub (R := [(1, .slice a_1 p1.length c_1), (2, .pointer (some ⟨b9, 0, none⟩)), (4, .bool false), (7, .bool y10)]) ?_ ⟨rfl, rfl, rfl, rfl, trivial⟩)
  · refine ow_batch [.p] rfl ?_
    refine ow_nil ?_
    refine x_qs ?_
    refine c_ret ?_
    exact x_retR (rs := [.tmp 4]) (vs := [.bool u12]) rfl ⟨rfl, trivial⟩ (fun w' hw' => by
        obtain rfl := of_some H
        exact ⟨rfl, hw'.ext⟩)
  · clear H
    have H := hu16
    clear hu16
    generalize y10 = t15 at H ⊢
    cases t15
    · have H := of_if_f rfl H
      refine ow_batch [.p, .p, .p, .p, .p] rfl ?_
      obtain rfl := of_some H
      exact OW.sub key ⟨rfl, rfl, trivial⟩
    · have H := of_if_t rfl H
      refine ow_batch [.p] rfl ?_
      refine ow_r rfl (dstOk_lt rfl) (ry_makeFunc rfl rfl) ?_
      obtain ⟨y13, h14, H⟩ := of_bind H
      refine ow_q rfl rfl (dstOk_lt rfl) (qy_call rfl fn78 rfl (fun w1 hw1 => lib_slices_ContainsFunc___impl_Entry_impl_Entry___impl_EntriesOk_1_ok w1 (cs_1_0 := [.slice a5 p0.Attrs_.length c6, .slice a7 p0.Classes_.length c8]) h14 (rds_bor g1 w1 hw1) (rdm_Timpl_Schema (x := p0) (c0 := [.slice a5 p0.Attrs_.length c6]) (c1 := [.slice a7 p0.Classes_.length c8]) (rds_bor g3 w1 hw1) (rds_bor g4 w1 hw1)) (at_box (T := 39) 0 (boxIn (i := 0) rfl) rfl w1 hw1))) (fun _ _ => trivial) ?_
      refine ow_batch [.p] rfl ?_
      refine ow_batch [.p] rfl ?_
      obtain rfl := of_some H
      exact OW.sub key ⟨rfl, rfl, trivial⟩

set_option maxHeartbeats 4000000 in
set_option maxRecDepth 100000 in
theorem laws_FnExactEntriesOk_ok (w : World) {p0 : Tlaws_Schema} {p1 : List Tlaws_Entry} {cs0 : List Value} {a_1 : Option Addr} {n_1 c_1 : Nat} {r : Bool} (H : laws_FnExactEntriesOk p0 p1 = some r)  (g0 : (eTlaws_Schema).rd w [] p0 cs0) (g1 : (eList (eTlaws_Entry) 109).rd w [] p1 [.slice a_1 n_1 c_1]) :
    Calls Try.prog 8 #[.agg cs0.toArray, .slice a_1 n_1 c_1] w (fun en w' => en = .returned (.bool r) ∧ Ext [] w w') := by
  obtain ⟨c1, c2, rfl, g3, g4⟩ := rdo_Tlaws_Schema g0
  obtain ⟨a5, c6, rfl⟩ := rd_sl1 g3
  obtain ⟨a7, c8, rfl⟩ := rd_sl1 g4
  obtain rfl := rd_n g1
  unfold laws_FnExactEntriesOk at H
  refine f_enter (vs := [.agg #[.slice a5 p0.Attrs_.length c6, .slice a7 p0.Classes_.length c8], .slice a_1 p1.length c_1]) Try.func8 rfl Try.ntmps8 rfl (St.init w []) ?_
  refine c_seq ?_
  refine c_reg ?_
  refine ow_box (cs := [.slice a5 p0.Attrs_.length c6, .slice a7 p0.Classes_.length c8]) rfl rfl rfl rfl rfl rfl (fun _ => kp) (fun b9 => ?_)
  refine ow_batch [.p] rfl ?_
  refine ow_nil ?_
  refine x_qs ?_
  refine c_seq ?_
  refine c_reg ?_
  refine ow_batch [.p] rfl ?_
  refine ow_nil ?_
  refine x_qs ?_
  refine c_seq ?_
  refine c_reg ?_
  refine ow_r rfl (dstOk_lt rfl) (ry_box (off := 0) (ds := [.slice a5 p0.Attrs_.length c6, .slice a7 p0.Classes_.length c8]) rfl rfl ty34 (boxIn (i := 0) rfl) rfl rfl) ?_
  refine ow_batch [.p] rfl ?_
  obtain ⟨y10, h11, H⟩ := of_bind H
  refine ow_q rfl rfl (dstOk_lt rfl) (qy_call rfl fn16 rfl (fun w1 hw1 => laws_szSchema_ok w1 (cs0 := [.slice a5 p0.Attrs_.length c6, .slice a7 p0.Classes_.length c8]) h11 (rdm_Tlaws_Schema (x := p0) (c0 := [.slice a5 p0.Attrs_.length c6]) (c1 := [.slice a7 p0.Classes_.length c8]) (rds_bor g3 w1 hw1) (rds_bor g4 w1 hw1)))) (fun _ _ => trivial) ?_
  refine ow_batch [.p] rfl ?_
  refine ow_nil ?_
  refine x_qs ?_
  refine c_seq ?_
  refine c_seq ?_
  refine c_reg ?_
  refine ow_batch [.p, .p] rfl ?_
  refine ow_nil ?_
  refine x_qs ?_
  refine c_if rfl (fun hb => ?_) (fun hb => ?_)
  · have H := of_if_t hb H
    refine c_seq ?_
    refine c_reg ?_
    refine ow_batch [.p] rfl ?_
    refine ow_nil ?_
    refine x_qs ?_
    refine c_ret ?_
    refine x_qs_ret ?_
    exact x_retR (rs := [.tmp 4]) (vs := [.bool true]) rfl ⟨rfl, trivial⟩ (fun w' hw' => by
        obtain rfl := of_some H
        exact ⟨rfl, hw'.ext⟩)
  · have H := of_if_f hb H
    refine c_skip ?_
    refine x_qs ?_
    refine c_seq ?_
    refine c_reg ?_
    refine ow_batch [.p, .p] rfl ?_
    obtain ⟨y12, h13, H⟩ := of_bind H
    refine ow_q rfl rfl (dstOk_lt rfl) (qy_call rfl fn33 rfl (fun w1 hw1 => laws_szEntryS_ok w1  h13 (rds_bor g1 w1 hw1))) (fun _ _ => trivial) ?_
    refine ow_batch [.p] rfl ?_
    refine ow_nil ?_
    refine x_qs ?_
    refine c_seq ?_
    refine c_seq ?_
    refine c_reg ?_
    refine ow_batch [.p, .p] rfl ?_
    refine ow_nil ?_
    refine x_qs ?_
    refine c_if rfl (fun hb => ?_) (fun hb => ?_)
    · have H := of_if_t hb H
      refine c_seq ?_
      refine c_reg ?_
      refine ow_batch [.p] rfl ?_
      refine ow_nil ?_
      refine x_qs ?_
      refine c_ret ?_
      refine x_qs_ret ?_
      exact x_retR (rs := [.tmp 4]) (vs := [.bool true]) rfl ⟨rfl, trivial⟩ (fun w' hw' => by
          obtain rfl := of_some H
          exact ⟨rfl, hw'.ext⟩)
    · have H := of_if_f hb H
      refine c_skip ?_
      refine x_qs ?_
      refine c_seq ?_
      refine c_reg ?_
      refine ow_r rfl (dstOk_lt rfl) (ry_box (off := 0) (ds := [.slice a5 p0.Attrs_.length c6, .slice a7 p0.Classes_.length c8]) rfl rfl ty34 (boxIn (i := 0) rfl) rfl rfl) ?_
      obtain ⟨y14, h15, H⟩ := of_bind H
      refine ow_callS rfl fn18 rfl rfl rfl rfl (fun w1 hw1 => laws_toSchema_ok w1 (cs0 := [.slice a5 p0.Attrs_.length c6, .slice a7 p0.Classes_.length c8]) h15 (hw1.carve [] rfl rfl) (rdm_Tlaws_Schema (x := p0) (c0 := [.slice a5 p0.Attrs_.length c6]) (c1 := [.slice a7 p0.Classes_.length c8]) (rds_bor g3 w1 hw1) (rds_bor g4 w1 hw1))) (fun v16 w1 w2 hw1 hR18 => ?_)
      obtain ⟨a19, n20, c21, F22, a23, n24, c25, F26, rfl, hS17⟩ := hR18
      obtain rfl := own_nS (i := 0) hS17 rfl
      obtain rfl := own_nS (i := 1) hS17 rfl
      refine ⟨St w [] [_, _, _], hw1.comp [] rfl rfl hS17, fun _ _ => trivial, ?_⟩
      refine ow_batch [.p] rfl ?_
      obtain ⟨y27, h28, H⟩ := of_bind H
      refine ow_callS rfl fn35 rfl rfl rfl rfl (fun w1 hw1 => laws_toEntryS_ok w1  h28 (hw1.carve [] rfl rfl) (rds_bor g1 w1 hw1)) (fun v29 w1 w2 hw1 hR31 => ?_)
      obtain ⟨a32, n33, c34, F35, rfl, hS30⟩ := hR31
      obtain rfl := own_nS (i := 0) hS30 rfl
      refine ⟨St w [] [_, _, _, _], hw1.comp [] rfl rfl hS30, fun _ _ => trivial, ?_⟩
      obtain ⟨y36, h37, H⟩ := of_bind H
      refine ow_q rfl rfl (dstOk_lt rfl) (qy_call rfl fn34 rfl (fun w1 hw1 => spec_EntriesOk_ok w1 (cs0 := [.slice a19 y14.Attrs_.length c21, .slice a23 y14.Classes_.length c25]) h37 (rdm_Timpl_Schema (x := y14) (c0 := [.slice a19 y14.Attrs_.length c21]) (c1 := [.slice a23 y14.Classes_.length c25]) (rds_own (r := 1) rfl w1 hw1) (rds_own (r := 2) rfl w1 hw1)) (rds_own (r := 3) rfl w1 hw1))) (fun _ _ => trivial) ?_
      refine ow_batch [.p] rfl ?_
      refine ow_nil ?_
      refine x_qs ?_
      refine c_seq ?_
      refine c_reg ?_
      refine ow_r rfl (dstOk_lt rfl) (ry_box (off := 0) (ds := [.slice a5 p0.Attrs_.length c6, .slice a7 p0.Classes_.length c8]) rfl rfl ty34 (boxIn (i := 0) rfl) rfl rfl) ?_
      obtain ⟨y38, h39, H⟩ := of_bind H
      refine ow_callS rfl fn18 rfl rfl rfl rfl (fun w1 hw1 => laws_toSchema_ok w1 (cs0 := [.slice a5 p0.Attrs_.length c6, .slice a7 p0.Classes_.length c8]) h39 (hw1.carve [] rfl rfl) (rdm_Tlaws_Schema (x := p0) (c0 := [.slice a5 p0.Attrs_.length c6]) (c1 := [.slice a7 p0.Classes_.length c8]) (rds_bor g3 w1 hw1) (rds_bor g4 w1 hw1))) (fun v40 w1 w2 hw1 hR42 => ?_)
      obtain ⟨a43, n44, c45, F46, a47, n48, c49, F50, rfl, hS41⟩ := hR42
      obtain rfl := own_nS (i := 0) hS41 rfl
      obtain rfl := own_nS (i := 1) hS41 rfl
      refine ⟨St w [] [_, _, _, _, _, _], hw1.comp [] rfl rfl hS41, fun _ _ => trivial, ?_⟩
      refine ow_alloc rfl rfl rfl rfl ty39 (fun _ => kp) (fun b51 => ?_)
      refine ow_storeC (off := 0) [.slice a43 y38.Attrs_.length c45, .slice a47 y38.Classes_.length c49] [_, _] (i := 6) rfl rfl rfl rfl rfl rfl ty39 rfl rfl (by intro u hu; simp only [List.mem_cons, List.not_mem_nil, or_false] at hu; rcases hu with rfl | rfl <;> rfl) rfl rfl rfl kp ?_
      refine ow_nil ?_
      refine x_qs ?_
      refine c_seq ?_
      refine c_reg ?_
      refine ow_batch [.p] rfl ?_
      obtain ⟨y52, h53, H⟩ := of_bind H
      refine ow_callS rfl fn35 rfl rfl rfl rfl (fun w1 hw1 => laws_toEntryS_ok w1  h53 (hw1.carve [] rfl rfl) (rds_bor g1 w1 hw1)) (fun v54 w1 w2 hw1 hR56 => ?_)
      obtain ⟨a57, n58, c59, F60, rfl, hS55⟩ := hR56
      obtain rfl := own_nS (i := 0) hS55 rfl
      refine ⟨St w [] [_, _, _, _, _, _, _, _], hw1.comp [] rfl rfl hS55, fun _ _ => trivial, ?_⟩
      refine ow_batch [.p] rfl ?_
      refine ow_nil ?_
      refine x_qs ?_
      refine c_seq ?_
      refine c_reg ?_
      refine ow_r rfl (dstOk_lt rfl) (ry_box (off := 0) (ds := [.slice a43 y38.Attrs_.length c45, .slice a47 y38.Classes_.length c49]) rfl rfl ty39 (boxIn (i := 6) rfl) rfl rfl) ?_
      refine ow_batch [.p] rfl ?_
      obtain ⟨y61, h62, H⟩ := of_bind H
      refine ow_q rfl rfl (dstOk_lt rfl) (qy_call rfl fn36 rfl (fun w1 hw1 => impl_EntriesOk_ok w1 (cs0 := [.slice a43 y38.Attrs_.length c45, .slice a47 y38.Classes_.length c49]) h62 (rdm_Timpl_Schema (x := y38) (c0 := [.slice a43 y38.Attrs_.length c45]) (c1 := [.slice a47 y38.Classes_.length c49]) (rds_own (r := 4) rfl w1 hw1) (rds_own (r := 5) rfl w1 hw1)) (rds_own (r := 7) rfl w1 hw1))) (fun _ _ => trivial) ?_
      refine ow_batch [.p] rfl ?_
      refine ow_nil ?_
      refine x_qs ?_
      refine c_seq ?_
      refine c_seq ?_
      refine c_reg ?_
      refine ow_batch [.p, .p] rfl ?_
      refine ow_r rfl (dstOk_lt rfl) (ry_bneq rfl rfl rfl bl4) ?_
      refine ow_nil ?_
      refine x_qs ?_
      refine c_if rfl (fun hb => ?_) (fun hb => ?_)
      · have H := of_if_t hb H
        refine c_seq ?_
        refine c_reg ?_
        refine ow_batch [.p] rfl ?_
        refine ow_nil ?_
        refine x_qs ?_
        refine c_ret ?_
        refine x_qs_ret ?_
        exact x_retR (rs := [.tmp 4]) (vs := [.bool false]) rfl ⟨rfl, trivial⟩ (fun w' hw' => by
            obtain rfl := of_some H
            exact ⟨rfl, hw'.ext⟩)
      · have H := of_if_f hb H
        refine c_skip ?_
        refine x_qs ?_
        refine c_seq ?_
        refine c_seq ?_
        refine c_regHT 3 [(0, true), (1, true), (2, false)] (St w [] [Res.box b9 34 [.slice a5 p0.Attrs_.length c6, .slice a7 p0.Classes_.length c8], Res.own (eList (eTimpl_Attr) 28) F22 y14.Attrs_ [.slice a19 y14.Attrs_.length c21], Res.own (eList (eStr) 9) F26 y14.Classes_ [.slice a23 y14.Classes_.length c25], Res.own (eList (eTimpl_Entry) 111) F35 y27 [.slice a32 y27.length c34], Res.own (eList (eTimpl_Attr) 28) F46 y38.Attrs_ [.slice a43 y38.Attrs_.length c45], Res.own (eList (eStr) 9) F50 y38.Classes_ [.slice a47 y38.Classes_.length c49], Res.box b51 39 [.slice a43 y38.Attrs_.length c45, .slice a47 y38.Classes_.length c49], Res.own (eList (eTimpl_Entry) 111) F60 y52 [.slice a57 y52.length c59]]) mixed (by kernel_rfl) (panicOk_qs (panicOk_qs panicOk_body)) (fun _ h => St.mask [true, true, true, true, true, true, true, true] rfl h) ?_
        refine ow_rH rfl (dstOk_lt rfl) (ry_box (off := 0) (ds := [.slice a43 y38.Attrs_.length c45, .slice a47 y38.Classes_.length c49]) rfl rfl ty39 (boxIn (i := 6) rfl) rfl rfl) ?_
        refine ow_rH rfl (dstOk_lt rfl) (ry_box (off := 0) (ds := [.slice a5 p0.Attrs_.length c6, .slice a7 p0.Classes_.length c8]) rfl rfl ty34 (boxIn (i := 0) rfl) rfl rfl) ?_
        obtain ⟨y76, h77, H⟩ := of_bind H
        refine ow_callS rfl fn18 rfl rfl rfl rfl (fun w1 hw1 => laws_toSchema_ok w1 (cs0 := [.slice a5 p0.Attrs_.length c6, .slice a7 p0.Classes_.length c8]) h77 (hw1.carve [] rfl rfl) (rdm_Tlaws_Schema (x := p0) (c0 := [.slice a5 p0.Attrs_.length c6]) (c1 := [.slice a7 p0.Classes_.length c8]) (rds_bor g3 w1 hw1) (rds_bor g4 w1 hw1))) (fun v78 w1 w2 hw1 hR80 => ?_)
        obtain ⟨a81, n82, c83, F84, a85, n86, c87, F88, rfl, hS79⟩ := hR80
        obtain rfl := own_nS (i := 0) hS79 rfl
        obtain rfl := own_nS (i := 1) hS79 rfl
        refine ⟨St w [] [_, _, _, _, _, _, _, _, _, _], hw1.comp [] rfl rfl hS79, (fun _ h => St.mask [true, true, true, true, true, true, true, true] rfl h), ?_⟩
        refine ow_nilH ?_
        refine x_qt ?_
        obtain ⟨y89, h90, H⟩ := of_bind H
        refine ow_q rfl rfl (dstOk_lt rfl) (qy_call rfl fn20 rfl (fun w1 hw1 => laws_eqSchema_ok w1 (cs0 := [.slice a43 y38.Attrs_.length c45, .slice a47 y38.Classes_.length c49]) (cs1 := [.slice a81 y76.Attrs_.length c83, .slice a85 y76.Classes_.length c87]) h90 (rdm_Timpl_Schema (x := y38) (c0 := [.slice a43 y38.Attrs_.length c45]) (c1 := [.slice a47 y38.Classes_.length c49]) (rds_own (r := 4) rfl w1 hw1) (rds_own (r := 5) rfl w1 hw1)) (rdm_Timpl_Schema (x := y76) (c0 := [.slice a81 y76.Attrs_.length c83]) (c1 := [.slice a85 y76.Classes_.length c87]) (rds_own (r := 8) rfl w1 hw1) (rds_own (r := 9) rfl w1 hw1)))) (fun _ _ => trivial) ?_
        refine ow_batch [.p] rfl ?_
        refine ow_nil ?_
        refine x_qs ?_
        refine c_if rfl (fun hb => ?_) (fun hb => ?_)
        · have H := of_if_t hb H
          refine c_seq ?_
          refine c_reg ?_
          refine ow_batch [.p] rfl ?_
          refine ow_nil ?_
          refine x_qs ?_
          refine c_ret ?_
          refine x_qs_ret ?_
          exact x_retR (rs := [.tmp 4]) (vs := [.bool false]) rfl ⟨rfl, trivial⟩ (fun w' hw' => by
              obtain rfl := of_some H
              exact ⟨rfl, hw'.ext⟩)
        · have H := of_if_f hb H
          refine c_skip ?_
          refine x_qs ?_
          refine c_seq ?_
          refine c_seq ?_
          refine c_reg ?_
          refine ow_batch [.p, .p] rfl ?_
          obtain ⟨y91, h92, H⟩ := of_bind H
          refine ow_callS rfl fn35 rfl rfl rfl rfl (fun w1 hw1 => laws_toEntryS_ok w1  h92 (hw1.carve [] rfl rfl) (rds_bor g1 w1 hw1)) (fun v93 w1 w2 hw1 hR95 => ?_)
          obtain ⟨a96, n97, c98, F99, rfl, hS94⟩ := hR95
          obtain rfl := own_nS (i := 0) hS94 rfl
          refine ⟨St w [] [_, _, _, _, _, _, _, _, _, _, _], hw1.comp [] rfl rfl hS94, fun _ _ => trivial, ?_⟩
          obtain ⟨y100, h101, H⟩ := of_bind H
          refine ow_q rfl rfl (dstOk_lt rfl) (qy_call rfl fn37 rfl (fun w1 hw1 => laws_eqEntryS_ok w1  h101 (rds_own (r := 7) rfl w1 hw1) (rds_own (r := 10) rfl w1 hw1))) (fun _ _ => trivial) ?_
          refine ow_batch [.p] rfl ?_
          refine ow_nil ?_
          refine x_qs ?_
          refine c_if rfl (fun hb => ?_) (fun hb => ?_)
          · have H := of_if_t hb H
            refine c_seq ?_
            refine c_reg ?_
            refine ow_batch [.p] rfl ?_
            refine ow_nil ?_
            refine x_qs ?_
            refine c_ret ?_
            refine x_qs_ret ?_
            exact x_retR (rs := [.tmp 4]) (vs := [.bool false]) rfl ⟨rfl, trivial⟩ (fun w' hw' => by
                obtain rfl := of_some H
                exact ⟨rfl, hw'.ext⟩)
          · have H := of_if_f hb H
            refine c_skip ?_
            refine x_qs ?_
            refine c_seq ?_
            refine c_reg ?_
            refine ow_batch [.p] rfl ?_
            refine ow_nil ?_
            refine x_qs ?_
            refine c_ret ?_
            exact x_retR (rs := [.tmp 4]) (vs := [.bool true]) rfl ⟨rfl, trivial⟩ (fun w' hw' => by
                obtain rfl := of_some H
                exact ⟨rfl, hw'.ext⟩)

end Go.Vk
