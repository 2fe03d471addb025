/- The code does what the functions of data say. Printed by program. -/
import Derived.Test.YtddoligbabahbaaGreatWWaysOfB
namespace Go.Vk
open Go.Proofs Go.RowKit
set_option maxHeartbeats 4000000 in
set_option maxRecDepth 100000 in
theorem impl_nodeOk_ok (w : World) {p0 : Timpl_Schema} {p1 : Timpl_Tree} {p2 : Int} {cs0 : List Value} {cs1 : List Value} {r : Bool} (H : impl_nodeOk p0 p1 p2 = some r)  (g0 : (eTimpl_Schema).rd w [] p0 cs0) (g1 : (eTimpl_Tree).rd w [] p1 cs1) :
    Calls Tryz.prog 133 #[.agg cs0.toArray, .agg cs1.toArray, .int .i64 p2] w (fun en w' => en = .returned (.bool r) ∧ Ext [] w w') := by
  obtain ⟨c10, c11, rfl, g12, g13⟩ := rdo_Timpl_Schema g0
  obtain ⟨a14, c15, rfl⟩ := rd_sl1 g12
  obtain ⟨a16, c17, rfl⟩ := rd_sl1 g13
  obtain ⟨c18, c19, rfl, g20, g21⟩ := rdo_Timpl_Tree g1
  obtain ⟨a22, c23, rfl⟩ := rd_sl1 g20
  obtain rfl : c19 = [.int .i64 p1.Seen_] := g21
  unfold impl_nodeOk at H
  refine f_enter (vs := [.agg #[.slice a14 p0.Attrs_.length c15, .slice a16 p0.Classes_.length c17], .agg #[.slice a22 p1.Nodes_.length c23, .int .i64 p1.Seen_], .int .i64 p2]) Tryz.func133 rfl Tryz.ntmps133 rfl (St.init w []) ?_
  refine c_seq ?_
  refine c_reg ?_
  refine ow_box (cs := [.slice a14 p0.Attrs_.length c15, .slice a16 p0.Classes_.length c17]) rfl rfl rfl rfl rfl rfl (fun _ => kp) (fun b24 => ?_)
  refine ow_box (cs := [.slice a22 p1.Nodes_.length c23, .int .i64 p1.Seen_]) rfl rfl rfl rfl rfl rfl (fun _ => kp) (fun b25 => ?_)
  refine ow_box (cs := [.int .i64 p2]) rfl rfl rfl rfl rfl rfl (fun _ => kp) (fun b26 => ?_)
  refine ow_batch [.p] rfl ?_
  refine ow_nil ?_
  refine x_qs ?_
  refine c_seq ?_
  refine c_reg ?_
  refine ow_batch [.fa 39 0 0 fa39_0] rfl ?_
  refine ow_r rfl (dstOk_lt rfl) (ry_box1 (off := 0) rfl rfl ty37 (boxIn (i := 1) rfl) rfl) ?_
  refine ow_r rfl (dstOk_lt rfl) (ry_box1 (off := 0) rfl rfl ty3 (boxIn (i := 2) rfl) rfl) ?_
  obtain ⟨e27, h28, H⟩ := of_bind H
  refine ow_ixB rfl rfl rfl rfl rfl sl37 ty118 rfl g20 h28 (fun q31 c32 hd29 hA30 => ?_)
  obtain ⟨c33, c34, c35, c36, c37, c38, c39, c40, c41, c42, rfl, g43, g44, g45, g46, g47, g48, g49, g50, g51, g52⟩ := rdo_Timpl_Node hd29
  obtain rfl : c33 = [.bool e27.Leaf_] := g43
  obtain rfl : c34 = [.int .i64 e27.Fork_.Attr_, .int .i64 e27.Fork_.At_] := g44
  obtain ⟨a53, c54, rfl⟩ := rd_sl1 g45
  obtain rfl : c36 = [.int .i64 e27.Miss_] := g46
  obtain ⟨c55, c56, rfl, g57, g58⟩ := rdo_Timpl_Stats g47
  obtain ⟨a59, c60, rfl⟩ := rd_sl1 g57
  obtain ⟨a61, c62, rfl⟩ := rd_sl1 g58
  obtain rfl : c38 = [.int .i64 e27.Since_] := g48
  obtain ⟨a63, c64, rfl⟩ := rd_sl1 g49
  obtain rfl : c40 = [.int .i64 e27.Depth_] := g50
  obtain rfl : c41 = [.int .i64 e27.Up_] := g51
  obtain rfl : c42 = [.int .i64 e27.Born_] := g52
  refine ow_r rfl (dstOk_lt rfl) (ry_load (cs := [.bool e27.Leaf_, .int .i64 e27.Fork_.Attr_, .int .i64 e27.Fork_.At_, .slice a53 e27.Kids_.length c54, .int .i64 e27.Miss_, .slice a59 e27.Stats_.Totals_.length c60, .slice a61 e27.Stats_.Cells_.length c62, .int .i64 e27.Since_, .slice a63 e27.Attrs_.length c64, .int .i64 e27.Depth_, .int .i64 e27.Up_, .int .i64 e27.Born_]) rfl rfl ty118 (at_bor bor hA30) rfl) ?_
  refine ow_alloc rfl rfl rfl rfl ty118 (fun _ => kp) (fun b65 => ?_)
  refine ow_storeC (off := 0) [.bool e27.Leaf_, .int .i64 e27.Fork_.Attr_, .int .i64 e27.Fork_.At_, .slice a53 e27.Kids_.length c54, .int .i64 e27.Miss_, .slice a59 e27.Stats_.Totals_.length c60, .slice a61 e27.Stats_.Cells_.length c62, .int .i64 e27.Since_, .slice a63 e27.Attrs_.length c64, .int .i64 e27.Depth_, .int .i64 e27.Up_, .int .i64 e27.Born_] [_, _, _, _, _, _, _, _, _, _, _, _] (i := 3) rfl rfl rfl rfl rfl rfl ty118 rfl rfl (by intro u hu; simp only [List.mem_cons, List.not_mem_nil, or_false] at hu; rcases hu with rfl | rfl | rfl | rfl | rfl | rfl | rfl | rfl | rfl | rfl | rfl | rfl <;> rfl) rfl rfl rfl kp ?_
  refine ow_nil ?_
  refine x_qs ?_
  refine c_seq ?_
  refine c_seq ?_
  refine c_reg ?_
  refine ow_batch [.fa 118 7 9 fa118_7] rfl ?_
  refine ow_r rfl (dstOk_lt rfl) (ry_box1 (off := 9) rfl rfl ty3 (boxIn (i := 3) rfl) rfl) ?_
  obtain ⟨y66, h67, H⟩ := of_bind H
  refine ow_q rfl rfl (dstOk_lt rfl) (qy_call rfl fn91 rfl (fun w1 hw1 => impl_within_ok w1  h67)) (fun _ _ => trivial) ?_
  refine ow_batch [.p, .p] rfl ?_
  obtain ⟨u68, hu72, H⟩ := of_bind H
  refine ow_cut [(26, .bool u68), (3, .pointer (some ⟨b24, 0, none⟩)), (4, .pointer (some ⟨b25, 0, none⟩)), (5, .pointer (some ⟨b26, 0, none⟩)), (7, .pointer (some ⟨b65, 0, none⟩))] 7 ?_ (fun key => OW.sub (R := [(3, .pointer (some ⟨b24, 0, none⟩)), (4, .pointer (some ⟨b25, 0, none⟩)), (5, .pointer (some ⟨b26, 0, none⟩)), (7, .pointer (some ⟨b65, 0, none⟩)), (19, .bool (!y66))]) ?_ ⟨rfl, rfl, rfl, rfl, rfl, trivial⟩)
  · refine ow_batch [.p] rfl ?_
    obtain ⟨u73, hu77, H⟩ := of_bind H
    refine ow_cut [(33, .bool u73), (3, .pointer (some ⟨b24, 0, none⟩)), (4, .pointer (some ⟨b25, 0, none⟩)), (5, .pointer (some ⟨b26, 0, none⟩)), (7, .pointer (some ⟨b65, 0, none⟩))] 6 ?_ (fun key => OW.sub (R := [(3, .pointer (some ⟨b24, 0, none⟩)), (4, .pointer (some ⟨b25, 0, none⟩)), (5, .pointer (some ⟨b26, 0, none⟩)), (7, .pointer (some ⟨b65, 0, none⟩)), (27, .bool u68)]) ?_ ⟨rfl, rfl, rfl, rfl, rfl, trivial⟩)
    · refine ow_batch [.p] rfl ?_
      obtain ⟨u78, hu82, H⟩ := of_bind H
      refine ow_cut [(40, .bool u78), (3, .pointer (some ⟨b24, 0, none⟩)), (4, .pointer (some ⟨b25, 0, none⟩)), (5, .pointer (some ⟨b26, 0, none⟩)), (7, .pointer (some ⟨b65, 0, none⟩))] 6 ?_ (fun key => OW.sub (R := [(3, .pointer (some ⟨b24, 0, none⟩)), (4, .pointer (some ⟨b25, 0, none⟩)), (5, .pointer (some ⟨b26, 0, none⟩)), (7, .pointer (some ⟨b65, 0, none⟩)), (34, .bool u73)]) ?_ ⟨rfl, rfl, rfl, rfl, rfl, trivial⟩)
      · refine ow_nil ?_
        refine x_qs ?_
        refine c_if rfl (fun hb => ?_) (fun hb => ?_)
        · have H := of_if_t hb H
          refine c_seq ?_
          refine c_reg ?_
          refine ow_batch [.p] rfl ?_
          refine ow_nil ?_
          refine x_qs ?_
          refine c_ret ?_
          refine x_qs_ret ?_
          exact x_retR (rs := [.tmp 6]) (vs := [.bool false]) rfl ⟨rfl, trivial⟩ (fun w' hw' => by
              obtain rfl := of_some H
              exact ⟨rfl, hw'.ext⟩)
        · have H := of_if_f hb H
          refine c_skip ?_
          refine x_qs ?_
          refine c_seq ?_
          refine c_seq ?_
          refine c_reg ?_
          refine ow_batch [.fa 118 0 0 fa118_0] rfl ?_
          refine ow_r rfl (dstOk_lt rfl) (ry_box1 (off := 0) rfl rfl ty4 (boxIn (i := 3) rfl) rfl) ?_
          refine ow_nil ?_
          refine x_qs ?_
          refine c_if rfl (fun hb => ?_) (fun hb => ?_)
          · have H := of_if_t hb H
            refine c_seq ?_
            refine c_reg ?_
            refine ow_batch [.fa 118 4 5 fa118_4, .fa 62 0 0 fa62_0] rfl ?_
            refine ow_r rfl (dstOk_lt rfl) (ry_box1 (off := 5) rfl rfl ty59 (boxIn (i := 3) rfl) rfl) ?_
            obtain ⟨y83, h84, H⟩ := of_bind H
            refine ow_q rfl rfl (dstOk_lt rfl) (qy_call rfl fn205 rfl (fun w1 hw1 => impl_total_ok w1  h84 (rds_bor g57 w1 hw1))) (fun _ _ => trivial) ?_
            refine ow_batch [.p] rfl ?_
            refine ow_nil ?_
            refine x_qs ?_
            refine c_join1 (fun (i85 : Int) => St w [] [Res.box b65 118 [.bool e27.Leaf_, .int .i64 e27.Fork_.Attr_, .int .i64 e27.Fork_.At_, .slice a53 e27.Kids_.length c54, .int .i64 e27.Miss_, .slice a59 e27.Stats_.Totals_.length c60, .slice a61 e27.Stats_.Cells_.length c62, .int .i64 e27.Since_, .slice a63 e27.Attrs_.length c64, .int .i64 e27.Depth_, .int .i64 e27.Up_, .int .i64 e27.Born_]]) (fun (i85 : Int) => [(7, .pointer (some ⟨b65, 0, none⟩)), (8, .int .i64 i85)]) (fun (i85 : Int) => impl_nodeOk_J1 e27 i85 = some r) (fun i85 H => ?_) (fun J1 => ?_)
            · unfold impl_nodeOk_J1 at H
              refine c_seq ?_
              refine c_reg ?_
              refine ow_batch [.fa 118 1 1 fa118_1] rfl ?_
              refine ow_r rfl (dstOk_lt rfl) (ry_box (off := 1) (ds := [.int .i64 e27.Fork_.Attr_, .int .i64 e27.Fork_.At_]) rfl rfl ty116 (boxIn (i := 0) rfl) rfl rfl) ?_
              refine ow_r rfl (dstOk_lt rfl) (ry_build2 [] [.int .i64 0, .int .i64 0] rfl rfl ty116 fs116 rfl trivial rfl) ?_
              refine ow_r rfl (dstOk_lt rfl) (ry_seql (xs := [.int .i64 e27.Fork_.Attr_, .int .i64 e27.Fork_.At_]) (ys := [.int .i64 0, .int .i64 0]) rfl rfl rfl (se116 e27.Fork_.Attr_ 0 e27.Fork_.At_ 0)) ?_
              refine ow_batch [.p] rfl ?_
              refine ow_cut [(61, .bool ((e27.Fork_.Attr_ == 0 && (e27.Fork_.At_ == 0 && true)) && ((e27.Kids_.length : Int) == 0))), (7, .pointer (some ⟨b65, 0, none⟩)), (8, .int .i64 i85)] 5 ?_ (fun key => OW.sub (R := [(7, .pointer (some ⟨b65, 0, none⟩)), (8, .int .i64 i85), (56, .bool (e27.Fork_.Attr_ == 0 && (e27.Fork_.At_ == 0 && true)))]) ?_ ⟨rfl, rfl, rfl, trivial⟩)
              · refine ow_batch [.p] rfl ?_
                refine ow_cut [(66, .bool (((e27.Fork_.Attr_ == 0 && (e27.Fork_.At_ == 0 && true)) && ((e27.Kids_.length : Int) == 0)) && (e27.Miss_ == 0))), (7, .pointer (some ⟨b65, 0, none⟩)), (8, .int .i64 i85)] 4 ?_ (fun key => OW.sub (R := [(7, .pointer (some ⟨b65, 0, none⟩)), (8, .int .i64 i85), (62, .bool ((e27.Fork_.Attr_ == 0 && (e27.Fork_.At_ == 0 && true)) && ((e27.Kids_.length : Int) == 0)))]) ?_ ⟨rfl, rfl, rfl, trivial⟩)
                · refine ow_batch [.p] rfl ?_
                  obtain ⟨u90, hu94, H⟩ := of_bind H
                  refine ow_cut [(72, .bool u90)] 5 ?_ (fun key => OW.sub (R := [(7, .pointer (some ⟨b65, 0, none⟩)), (8, .int .i64 i85), (67, .bool (((e27.Fork_.Attr_ == 0 && (e27.Fork_.At_ == 0 && true)) && ((e27.Kids_.length : Int) == 0)) && (e27.Miss_ == 0)))]) ?_ ⟨rfl, rfl, rfl, trivial⟩)
                  · refine ow_batch [.p] rfl ?_
                    refine ow_nil ?_
                    refine x_qs ?_
                    refine c_ret ?_
                    refine x_qs_ret ?_
                    exact x_retR (rs := [.tmp 6]) (vs := [.bool u90]) rfl ⟨rfl, trivial⟩ (fun w' hw' => by
                        obtain rfl := of_some H
                        exact ⟨rfl, hw'.ext⟩)
                  · clear H
                    have H := hu94
                    clear hu94
                    generalize (((e27.Fork_.Attr_ == 0 && (e27.Fork_.At_ == 0 && true)) && ((e27.Kids_.length : Int) == 0)) && (e27.Miss_ == 0)) = t93 at H key ⊢
                    cases t93
                    · have H := of_if_f rfl H
                      refine ow_batch [.p, .p, .p, .p, .p] rfl ?_
                      obtain rfl := of_some H
                      exact OW.sub key ⟨rfl, trivial⟩
                    · have H := of_if_t rfl H
                      refine ow_batch [.fa 118 5 7 fa118_5] rfl ?_
                      refine ow_r rfl (dstOk_lt rfl) (ry_box1 (off := 7) rfl rfl ty3 (boxIn (i := 0) rfl) rfl) ?_
                      refine ow_batch [.p] rfl ?_
                      obtain ⟨y91, h92, H⟩ := of_bind H
                      refine ow_q rfl rfl (dstOk_lt rfl) (qy_call rfl fn91 rfl (fun w1 hw1 => impl_within_ok w1  h92)) (fun _ _ => trivial) ?_
                      refine ow_batch [.p] rfl ?_
                      obtain rfl := of_some H
                      exact OW.sub key ⟨rfl, trivial⟩
                · generalize ((e27.Fork_.Attr_ == 0 && (e27.Fork_.At_ == 0 && true)) && ((e27.Kids_.length : Int) == 0)) = t89 at key ⊢
                  cases t89
                  · refine ow_batch [.p, .p, .p, .p] rfl ?_
                    exact OW.sub key ⟨rfl, rfl, rfl, trivial⟩
                  · refine ow_batch [.fa 118 3 4 fa118_3] rfl ?_
                    refine ow_r rfl (dstOk_lt rfl) (ry_box1 (off := 4) rfl rfl ty3 (boxIn (i := 0) rfl) rfl) ?_
                    refine ow_batch [.p] rfl ?_
                    refine ow_batch [.p] rfl ?_
                    exact OW.sub key ⟨rfl, rfl, rfl, trivial⟩
              · generalize (e27.Fork_.Attr_ == 0 && (e27.Fork_.At_ == 0 && true)) = t87 at key ⊢
                cases t87
                · refine ow_batch [.p, .p, .p, .p, .p] rfl ?_
                  exact OW.sub key ⟨rfl, rfl, rfl, trivial⟩
                · refine ow_batch [.fa 118 2 3 fa118_2] rfl ?_
                  refine ow_r rfl (dstOk_lt rfl) (ry_box1 (off := 3) rfl rfl ty59 (boxIn (i := 0) rfl) rfl) ?_
                  refine ow_batch [.lenS 59 3 sl59, .p] rfl ?_
                  refine ow_batch [.p] rfl ?_
                  exact OW.sub key ⟨rfl, rfl, rfl, trivial⟩
            · refine c_seq ?_
              refine c_reg ?_
              refine ow_batch [.fa 118 4 5 fa118_4, .fa 62 1 1 fa62_1] rfl ?_
              refine ow_r rfl (dstOk_lt rfl) (ry_box1 (off := 6) rfl rfl ty60 (boxIn (i := 3) rfl) rfl) ?_
              refine ow_batch [.lenS 60 59 sl60, .p] rfl ?_
              refine ow_nil ?_
              refine x_qs ?_
              refine c_if rfl (fun hb => ?_) (fun hb => ?_)
              · have H := of_if_t hb H
                refine c_reg ?_
                refine ow_batch [.p] rfl ?_
                refine ow_nil ?_
                exact XW.at (J1 (0) (H)) (fun _ h => St.sel [3] rfl rfl h) ⟨rfl, rfl, trivial⟩
              · have H := of_if_f hb H
                refine c_skip ?_
                exact XW.at (J1 (y83) (H)) (fun _ h => St.sel [3] rfl rfl h) ⟨rfl, rfl, trivial⟩
          · have H := of_if_f hb H
            refine c_skip ?_
            refine x_qs ?_
            refine c_seq ?_
            refine c_reg ?_
            refine ow_r rfl (dstOk_lt rfl) (ry_box (off := 0) (ds := [.slice a14 p0.Attrs_.length c15, .slice a16 p0.Classes_.length c17]) rfl rfl ty35 (boxIn (i := 0) rfl) rfl rfl) ?_
            refine ow_batch [.fa 118 1 1 fa118_1] rfl ?_
            refine ow_r rfl (dstOk_lt rfl) (ry_box (off := 1) (ds := [.int .i64 e27.Fork_.Attr_, .int .i64 e27.Fork_.At_]) rfl rfl ty116 (boxIn (i := 3) rfl) rfl rfl) ?_
            obtain ⟨y95, h96, H⟩ := of_bind H
            refine ow_q rfl rfl (dstOk_lt rfl) (qy_call rfl fn206 rfl (fun w1 hw1 => impl_Branches_ok w1 (p1 := e27.Fork_) (cs0 := [.slice a14 p0.Attrs_.length c15, .slice a16 p0.Classes_.length c17]) h96 (rdm_Timpl_Schema (x := p0) (c0 := [.slice a14 p0.Attrs_.length c15]) (c1 := [.slice a16 p0.Classes_.length c17]) (rds_bor g12 w1 hw1) (rds_bor g13 w1 hw1)))) (fun _ _ => trivial) ?_
            refine ow_batch [.p] rfl ?_
            refine ow_nil ?_
            refine x_qs ?_
            refine c_seq ?_
            refine c_seq ?_
            refine c_reg ?_
            refine ow_batch [.p, .p, .p] rfl ?_
            refine ow_cut [(85, .bool ((y95 == 0) || ((e27.Kids_.length : Int) != y95))), (4, .pointer (some ⟨b25, 0, none⟩)), (5, .pointer (some ⟨b26, 0, none⟩)), (7, .pointer (some ⟨b65, 0, none⟩)), (9, .int .i64 y95)] 6 ?_ (fun key => OW.sub (R := [(4, .pointer (some ⟨b25, 0, none⟩)), (5, .pointer (some ⟨b26, 0, none⟩)), (7, .pointer (some ⟨b65, 0, none⟩)), (9, .int .i64 y95), (79, .bool (y95 == 0))]) ?_ ⟨rfl, rfl, rfl, rfl, rfl, trivial⟩)
            · refine ow_batch [.p] rfl ?_
              obtain ⟨u99, hu103, H⟩ := of_bind H
              refine ow_cut [(91, .bool u99), (4, .pointer (some ⟨b25, 0, none⟩)), (5, .pointer (some ⟨b26, 0, none⟩)), (7, .pointer (some ⟨b65, 0, none⟩)), (9, .int .i64 y95)] 5 ?_ (fun key => OW.sub (R := [(4, .pointer (some ⟨b25, 0, none⟩)), (5, .pointer (some ⟨b26, 0, none⟩)), (7, .pointer (some ⟨b65, 0, none⟩)), (9, .int .i64 y95), (86, .bool ((y95 == 0) || ((e27.Kids_.length : Int) != y95)))]) ?_ ⟨rfl, rfl, rfl, rfl, rfl, trivial⟩)
              · refine ow_batch [.p] rfl ?_
                obtain ⟨u104, hu108, H⟩ := of_bind H
                refine ow_cut [(99, .bool u104), (4, .pointer (some ⟨b25, 0, none⟩)), (5, .pointer (some ⟨b26, 0, none⟩)), (7, .pointer (some ⟨b65, 0, none⟩))] 7 ?_ (fun key => OW.sub (R := [(4, .pointer (some ⟨b25, 0, none⟩)), (5, .pointer (some ⟨b26, 0, none⟩)), (7, .pointer (some ⟨b65, 0, none⟩)), (9, .int .i64 y95), (92, .bool u99)]) ?_ ⟨rfl, rfl, rfl, rfl, rfl, trivial⟩)
                · refine ow_batch [.p] rfl ?_
                  refine ow_cut [(106, .bool (u104 || ((e27.Stats_.Cells_.length : Int) != 0))), (4, .pointer (some ⟨b25, 0, none⟩)), (5, .pointer (some ⟨b26, 0, none⟩)), (7, .pointer (some ⟨b65, 0, none⟩))] 6 ?_ (fun key => OW.sub (R := [(4, .pointer (some ⟨b25, 0, none⟩)), (5, .pointer (some ⟨b26, 0, none⟩)), (7, .pointer (some ⟨b65, 0, none⟩)), (100, .bool u104)]) ?_ ⟨rfl, rfl, rfl, rfl, trivial⟩)
                  · refine ow_batch [.p] rfl ?_
                    refine ow_cut [(111, .bool ((u104 || ((e27.Stats_.Cells_.length : Int) != 0)) || (e27.Since_ != 0))), (4, .pointer (some ⟨b25, 0, none⟩)), (5, .pointer (some ⟨b26, 0, none⟩)), (7, .pointer (some ⟨b65, 0, none⟩))] 4 ?_ (fun key => OW.sub (R := [(4, .pointer (some ⟨b25, 0, none⟩)), (5, .pointer (some ⟨b26, 0, none⟩)), (7, .pointer (some ⟨b65, 0, none⟩)), (107, .bool (u104 || ((e27.Stats_.Cells_.length : Int) != 0)))]) ?_ ⟨rfl, rfl, rfl, rfl, trivial⟩)
                    · refine ow_nil ?_
                      refine x_qs ?_
                      refine c_if rfl (fun hb => ?_) (fun hb => ?_)
                      · have H := of_if_t hb H
                        refine c_seq ?_
                        refine c_reg ?_
                        refine ow_batch [.p] rfl ?_
                        refine ow_nil ?_
                        refine x_qs ?_
                        refine c_ret ?_
                        refine x_qs_ret ?_
                        exact x_retR (rs := [.tmp 6]) (vs := [.bool false]) rfl ⟨rfl, trivial⟩ (fun w' hw' => by
                            obtain rfl := of_some H
                            exact ⟨rfl, hw'.ext⟩)
                      · have H := of_if_f hb H
                        refine c_skip ?_
                        refine x_qs ?_
                        refine c_seq ?_
                        refine c_reg ?_
                        refine ow_batch [.fa 118 2 3 fa118_2] rfl ?_
                        refine ow_r rfl (dstOk_lt rfl) (ry_box1 (off := 3) rfl rfl ty59 (boxIn (i := 3) rfl) rfl) ?_
                        refine ow_r rfl (dstOk_lt rfl) (ry_makeFunc rfl rfl) ?_
                        obtain ⟨y113, h114, H⟩ := of_bind H
                        refine ow_q rfl rfl (dstOk_lt rfl) (qy_call rfl fn188 rfl (fun w1 hw1 => lib_slices_ContainsFunc___int_int___impl_nodeOk_1_ok w1 (cs_1_0 := [.int .i64 p2]) (cs_1_1 := [.slice a22 p1.Nodes_.length c23, .int .i64 p1.Seen_]) h114 (rds_bor g45 w1 hw1) rfl (at_box (T := 3) 0 (boxIn (i := 2) rfl) rfl w1 hw1) (rdm_Timpl_Tree (x := p1) (c0 := [.slice a22 p1.Nodes_.length c23]) (c1 := [.int .i64 p1.Seen_]) (rds_bor g20 w1 hw1) rfl) (at_box (T := 39) 0 (boxIn (i := 1) rfl) rfl w1 hw1))) (fun _ _ => trivial) ?_
                        refine ow_batch [.p, .p] rfl ?_
                        refine ow_nil ?_
                        refine x_qs ?_
                        refine c_ret ?_
                        exact x_retR (rs := [.tmp 6]) (vs := [.bool (!y113)]) rfl ⟨rfl, trivial⟩ (fun w' hw' => by
                            obtain rfl := of_some H
                            exact ⟨rfl, hw'.ext⟩)
                    · generalize (u104 || ((e27.Stats_.Cells_.length : Int) != 0)) = t112 at key ⊢
                      cases t112
                      · refine ow_batch [.fa 118 5 7 fa118_5] rfl ?_
                        refine ow_r rfl (dstOk_lt rfl) (ry_box1 (off := 7) rfl rfl ty3 (boxIn (i := 3) rfl) rfl) ?_
                        refine ow_batch [.p] rfl ?_
                        refine ow_batch [.p] rfl ?_
                        exact OW.sub key ⟨rfl, rfl, rfl, rfl, trivial⟩
                      · refine ow_batch [.p, .p, .p, .p] rfl ?_
                        exact OW.sub key ⟨rfl, rfl, rfl, rfl, trivial⟩
                  · generalize u104 = t110 at key ⊢
                    cases t110
                    · refine ow_batch [.fa 118 4 5 fa118_4, .fa 62 1 1 fa62_1] rfl ?_
                      refine ow_r rfl (dstOk_lt rfl) (ry_box1 (off := 6) rfl rfl ty60 (boxIn (i := 3) rfl) rfl) ?_
                      refine ow_batch [.lenS 60 59 sl60, .p] rfl ?_
                      refine ow_batch [.p] rfl ?_
                      exact OW.sub key ⟨rfl, rfl, rfl, rfl, trivial⟩
                    · refine ow_batch [.p, .p, .p, .p, .p, .p] rfl ?_
                      exact OW.sub key ⟨rfl, rfl, rfl, rfl, trivial⟩
                · clear H
                  have H := hu108
                  clear hu108
                  generalize u99 = t107 at H key ⊢
                  cases t107
                  · have H := of_if_f rfl H
                    refine ow_batch [.fa 118 3 4 fa118_3] rfl ?_
                    refine ow_r rfl (dstOk_lt rfl) (ry_box1 (off := 4) rfl rfl ty3 (boxIn (i := 3) rfl) rfl) ?_
                    refine ow_batch [.p, .p] rfl ?_
                    obtain ⟨y105, h106, H⟩ := of_bind H
                    refine ow_q rfl rfl (dstOk_lt rfl) (qy_call rfl fn91 rfl (fun w1 hw1 => impl_within_ok w1  h106)) (fun _ _ => trivial) ?_
                    refine ow_batch [.p] rfl ?_
                    refine ow_batch [.p] rfl ?_
                    obtain rfl := of_some H
                    exact OW.sub key ⟨rfl, rfl, rfl, rfl, trivial⟩
                  · have H := of_if_t rfl H
                    refine ow_batch [.p, .p, .p, .p, .p, .p, .p] rfl ?_
                    obtain rfl := of_some H
                    exact OW.sub key ⟨rfl, rfl, rfl, rfl, trivial⟩
              · clear H
                have H := hu103
                clear hu103
                generalize ((y95 == 0) || ((e27.Kids_.length : Int) != y95)) = t102 at H key ⊢
                cases t102
                · have H := of_if_f rfl H
                  refine ow_batch [.fa 118 2 3 fa118_2] rfl ?_
                  refine ow_r rfl (dstOk_lt rfl) (ry_box1 (off := 3) rfl rfl ty59 (boxIn (i := 3) rfl) rfl) ?_
                  obtain ⟨y100, h101, H⟩ := of_bind H
                  refine ow_q rfl rfl (dstOk_lt rfl) (qy_call rfl fn207 rfl (fun w1 hw1 => impl_ascending_ok w1  h101 (rds_bor g45 w1 hw1))) (fun _ _ => trivial) ?_
                  refine ow_batch [.p] rfl ?_
                  refine ow_batch [.p] rfl ?_
                  obtain rfl := of_some H
                  exact OW.sub key ⟨rfl, rfl, rfl, rfl, rfl, trivial⟩
                · have H := of_if_t rfl H
                  refine ow_batch [.p, .p, .p, .p, .p] rfl ?_
                  obtain rfl := of_some H
                  exact OW.sub key ⟨rfl, rfl, rfl, rfl, rfl, trivial⟩
            · generalize (y95 == 0) = t98 at key ⊢
              cases t98
              · refine ow_batch [.fa 118 2 3 fa118_2] rfl ?_
                refine ow_r rfl (dstOk_lt rfl) (ry_box1 (off := 3) rfl rfl ty59 (boxIn (i := 3) rfl) rfl) ?_
                refine ow_batch [.lenS 59 3 sl59, .p, .p] rfl ?_
                refine ow_batch [.p] rfl ?_
                exact OW.sub key ⟨rfl, rfl, rfl, rfl, rfl, trivial⟩
              · refine ow_batch [.p, .p, .p, .p, .p, .p] rfl ?_
                exact OW.sub key ⟨rfl, rfl, rfl, rfl, rfl, trivial⟩
      · clear H
        have H := hu82
        clear hu82
        generalize u73 = t81 at H key ⊢
        cases t81
        · have H := of_if_f rfl H
          refine ow_r rfl (dstOk_lt rfl) (ry_box (off := 0) (ds := [.slice a14 p0.Attrs_.length c15, .slice a16 p0.Classes_.length c17]) rfl rfl ty35 (boxIn (i := 0) rfl) rfl rfl) ?_
          refine ow_batch [.fa 118 6 8 fa118_6] rfl ?_
          refine ow_r rfl (dstOk_lt rfl) (ry_box1 (off := 8) rfl rfl ty59 (boxIn (i := 3) rfl) rfl) ?_
          obtain ⟨y79, h80, H⟩ := of_bind H
          refine ow_q rfl rfl (dstOk_lt rfl) (qy_call rfl fn204 rfl (fun w1 hw1 => impl_AttrsOk_ok w1 (cs0 := [.slice a14 p0.Attrs_.length c15, .slice a16 p0.Classes_.length c17]) h80 (rdm_Timpl_Schema (x := p0) (c0 := [.slice a14 p0.Attrs_.length c15]) (c1 := [.slice a16 p0.Classes_.length c17]) (rds_bor g12 w1 hw1) (rds_bor g13 w1 hw1)) (rds_bor g49 w1 hw1))) (fun _ _ => trivial) ?_
          refine ow_batch [.p] rfl ?_
          refine ow_batch [.p] rfl ?_
          obtain rfl := of_some H
          exact OW.sub key ⟨rfl, rfl, rfl, rfl, rfl, trivial⟩
        · have H := of_if_t rfl H
          refine ow_batch [.p, .p, .p, .p, .p, .p] rfl ?_
          obtain rfl := of_some H
          exact OW.sub key ⟨rfl, rfl, rfl, rfl, rfl, trivial⟩
    · clear H
      have H := hu77
      clear hu77
      generalize u68 = t76 at H key ⊢
      cases t76
      · have H := of_if_f rfl H
        refine ow_r rfl (dstOk_lt rfl) (ry_box (off := 0) (ds := [.slice a14 p0.Attrs_.length c15, .slice a16 p0.Classes_.length c17]) rfl rfl ty35 (boxIn (i := 0) rfl) rfl rfl) ?_
        refine ow_batch [.fa 118 4 5 fa118_4] rfl ?_
        refine ow_r rfl (dstOk_lt rfl) (ry_box (off := 5) (ds := [.slice a59 e27.Stats_.Totals_.length c60, .slice a61 e27.Stats_.Cells_.length c62]) rfl rfl ty62 (boxIn (i := 3) rfl) rfl rfl) ?_
        obtain ⟨y74, h75, H⟩ := of_bind H
        refine ow_q rfl rfl (dstOk_lt rfl) (qy_call rfl fn203 rfl (fun w1 hw1 => impl_StatsOk_ok w1 (cs0 := [.slice a14 p0.Attrs_.length c15, .slice a16 p0.Classes_.length c17]) (cs1 := [.slice a59 e27.Stats_.Totals_.length c60, .slice a61 e27.Stats_.Cells_.length c62]) h75 (rdm_Timpl_Schema (x := p0) (c0 := [.slice a14 p0.Attrs_.length c15]) (c1 := [.slice a16 p0.Classes_.length c17]) (rds_bor g12 w1 hw1) (rds_bor g13 w1 hw1)) (rdm_Timpl_Stats (x := e27.Stats_) (c0 := [.slice a59 e27.Stats_.Totals_.length c60]) (c1 := [.slice a61 e27.Stats_.Cells_.length c62]) (rds_bor g57 w1 hw1) (rds_bor g58 w1 hw1)))) (fun _ _ => trivial) ?_
        refine ow_batch [.p] rfl ?_
        refine ow_batch [.p] rfl ?_
        obtain rfl := of_some H
        exact OW.sub key ⟨rfl, rfl, rfl, rfl, rfl, trivial⟩
      · have H := of_if_t rfl H
        refine ow_batch [.p, .p, .p, .p, .p, .p] rfl ?_
        obtain rfl := of_some H
        exact OW.sub key ⟨rfl, rfl, rfl, rfl, rfl, trivial⟩
  · clear H
    have H := hu72
    clear hu72
    generalize (!y66) = t71 at H key ⊢
    cases t71
    · have H := of_if_f rfl H
      refine ow_batch [.fa 118 9 11 fa118_9] rfl ?_
      refine ow_r rfl (dstOk_lt rfl) (ry_box1 (off := 11) rfl rfl ty3 (boxIn (i := 3) rfl) rfl) ?_
      refine ow_batch [.fa 39 1 1 fa39_1] rfl ?_
      refine ow_r rfl (dstOk_lt rfl) (ry_box1 (off := 1) rfl rfl ty3 (boxIn (i := 1) rfl) rfl) ?_
      obtain ⟨y69, h70, H⟩ := of_bind H
      refine ow_q rfl rfl (dstOk_lt rfl) (qy_call rfl fn91 rfl (fun w1 hw1 => impl_within_ok w1  h70)) (fun _ _ => trivial) ?_
      refine ow_batch [.p] rfl ?_
      refine ow_batch [.p] rfl ?_
      obtain rfl := of_some H
      exact OW.sub key ⟨rfl, rfl, rfl, rfl, rfl, trivial⟩
    · have H := of_if_t rfl H
      refine ow_batch [.p, .p, .p, .p, .p, .p, .p] rfl ?_
      obtain rfl := of_some H
      exact OW.sub key ⟨rfl, rfl, rfl, rfl, rfl, trivial⟩
set_option maxHeartbeats 4000000 in
set_option maxRecDepth 100000 in
theorem lib_slices_Index___int_int__ok (w : World) {p0 : List Int} {p1 : Int} {a_0 : Option Addr} {n_0 c_0 : Nat} {r : Int} (H : lib_slices_Index___int_int_ p0 p1 = some r)  (g0 : (eList (eVal (Value.int .i64) (fun _ => rfl)) 3).rd w [] p0 [.slice a_0 n_0 c_0]) :
    Calls Tryz.prog 63 #[.slice a_0 n_0 c_0, .int .i64 p1] w (fun en w' => en = .returned (.int .i64 r) ∧ Ext [] w w') := by
  obtain rfl := rd_n g0
  unfold lib_slices_Index___int_int_ at H
  refine f_enter (vs := [.slice a_0 p0.length c_0, .int .i64 p1]) Tryz.func63 rfl Tryz.ntmps63 rfl (St.init w []) ?_
  refine c_seq ?_
  refine c_reg ?_
  refine ow_batch [.p] rfl ?_
  refine ow_nil ?_
  refine x_qs ?_
  refine c_seq ?_
  refine c_seq ?_
  refine c_reg ?_
  refine ow_batch [.p, .lenS 59 3 sl59, .p] rfl ?_
  refine ow_nil ?_
  refine x_qs ?_
  refine c_block ?_
  refine CW.at (loopI1 (fun (i13 : Int) => St w [] []) (fun (i13 : Int) => [(0, .slice a_0 p0.length c_0), (1, .int .i64 p1), (7, .int .i64 (p0.length : Int)), (8, .int .i64 i13)]) (fun kk => fun (i13 : Int) => lib_slices_Index___int_int__L1 p0 p1 kk i13 = some r) (fun _ H => ?_) (fun k1 ihk1 i13 H => ?_) Fuel (0) (H)) (fun _ h => St.sel [] rfl rfl h) ⟨rfl, rfl, rfl, rfl,  trivial⟩
  · unfold lib_slices_Index___int_int__L1 at H
    exact absurd H (by simp)
  · unfold lib_slices_Index___int_int__L1 at H
    refine c_seq ?_
    refine c_reg ?_
    refine ow_batch [.p] rfl ?_
    refine ow_nil ?_
    refine x_qs ?_
    refine c_seq ?_
    refine c_if rfl (fun hb => ?_) (fun hb => ?_)
    · have H := of_if_t hb H
      refine c_skip ?_
      refine x_qs ?_
      refine c_seq ?_
      refine c_block ?_
      refine c_seq ?_
      refine c_reg ?_
      refine ow_batch [.p, .p] rfl ?_
      refine ow_nil ?_
      refine x_qs ?_
      refine c_seq ?_
      refine c_reg ?_
      refine ow_batch [.p, .p, .p] rfl ?_
      obtain ⟨e18, h19, H⟩ := of_bind H
      refine ow_ixE (e := eVal (Value.int .i64) (fun _ => rfl)) (xs := p0) (j := i13) rfl rfl rfl rfl rfl sl59 ty3 rfl (fun w1 hw1 => rds_bor g0 w1 hw1) h19 (by rw [Nat.mul_one]) ?_
      refine ow_r rfl (dstOk_lt rfl) (ry_load1 rfl rfl ty3 (at_elV (fun w1 hw1 => rds_bor g0 w1 hw1) h19)) ?_
      refine ow_batch [.p] rfl ?_
      refine ow_nil ?_
      refine x_qs ?_
      refine c_if rfl (fun hb => ?_) (fun hb => ?_)
      · have H := of_if_t hb H
        refine c_seq ?_
        refine c_reg ?_
        refine ow_batch [.p, .p] rfl ?_
        refine ow_nil ?_
        refine x_qs ?_
        refine c_ret ?_
        refine x_qb_ret ?_
        refine x_qs_ret ?_
        refine x_ql_ret ?_
        refine x_qb_ret ?_
        refine x_qs_ret ?_
        exact x_retR (rs := [.tmp 4]) (vs := [.int .i64 i13]) rfl ⟨rfl, trivial⟩ (fun w' hw' => by
            obtain rfl := of_some H
            exact ⟨rfl, hw'.ext⟩)
      · have H := of_if_f hb H
        refine c_skip ?_
        refine x_qb ?_
        refine x_qs ?_
        refine c_reg ?_
        refine ow_batch [.p, .p] rfl ?_
        refine ow_nil ?_
        exact x_ql (RW.at (ihk1 (IntKind.i64.wrap (i13 + 1)) (H)) (fun _ h => St.sel [] rfl rfl h) ⟨rfl, rfl, rfl, rfl, trivial⟩)
    · have H := of_if_f hb H
      refine c_exit ?_
      refine x_qs_exit ?_
      refine x_ql_exit ?_
      refine x_qb_here ?_
      refine x_qs ?_
      refine c_seq ?_
      refine c_reg ?_
      refine ow_batch [.p] rfl ?_
      refine ow_nil ?_
      refine x_qs ?_
      refine c_ret ?_
      exact x_retR (rs := [.tmp 4]) (vs := [.int .i64 (-1)]) rfl ⟨rfl, trivial⟩ (fun w' hw' => by
          obtain rfl := of_some H
          exact ⟨rfl, hw'.ext⟩)
set_option maxHeartbeats 4000000 in
set_option maxRecDepth 100000 in
theorem lib_slices_Contains___int_int__ok (w : World) {p0 : List Int} {p1 : Int} {a_0 : Option Addr} {n_0 c_0 : Nat} {r : Bool} (H : lib_slices_Contains___int_int_ p0 p1 = some r)  (g0 : (eList (eVal (Value.int .i64) (fun _ => rfl)) 3).rd w [] p0 [.slice a_0 n_0 c_0]) :
    Calls Tryz.prog 134 #[.slice a_0 n_0 c_0, .int .i64 p1] w (fun en w' => en = .returned (.bool r) ∧ Ext [] w w') := by
  obtain rfl := rd_n g0
  unfold lib_slices_Contains___int_int_ at H
  refine f_enter (vs := [.slice a_0 p0.length c_0, .int .i64 p1]) Tryz.func134 rfl Tryz.ntmps134 rfl (St.init w []) ?_
  refine c_seq ?_
  refine c_reg ?_
  refine ow_batch [.p] rfl ?_
  refine ow_nil ?_
  refine x_qs ?_
  refine c_seq ?_
  refine c_reg ?_
  refine ow_batch [.p, .p] rfl ?_
  obtain ⟨y10, h11, H⟩ := of_bind H
  refine ow_q rfl rfl (dstOk_lt rfl) (qy_call rfl fn63 rfl (fun w1 hw1 => lib_slices_Index___int_int__ok w1  h11 (rds_bor g0 w1 hw1))) (fun _ _ => trivial) ?_
  refine ow_batch [.p, .p] rfl ?_
  refine ow_nil ?_
  refine x_qs ?_
  refine c_ret ?_
  exact x_retR (rs := [.tmp 4]) (vs := [.bool (decide (y10 ≥ 0))]) rfl ⟨rfl, trivial⟩ (fun w' hw' => by
      obtain rfl := of_some H
      exact ⟨rfl, hw'.ext⟩)
set_option maxHeartbeats 4000000 in
set_option maxRecDepth 100000 in
theorem impl_TreeOk_ok (w : World) {p0 : Timpl_Schema} {p1 : Timpl_Tree} {cs0 : List Value} {cs1 : List Value} {r : Bool} (H : impl_TreeOk p0 p1 = some r)  (g0 : (eTimpl_Schema).rd w [] p0 cs0) (g1 : (eTimpl_Tree).rd w [] p1 cs1) :
    Calls Tryz.prog 59 #[.agg cs0.toArray, .agg cs1.toArray] w (fun en w' => en = .returned (.bool r) ∧ Ext [] w w') := by
  obtain ⟨c10, c11, rfl, g12, g13⟩ := rdo_Timpl_Schema g0
  obtain ⟨a14, c15, rfl⟩ := rd_sl1 g12
  obtain ⟨a16, c17, rfl⟩ := rd_sl1 g13
  obtain ⟨c18, c19, rfl, g20, g21⟩ := rdo_Timpl_Tree g1
  obtain ⟨a22, c23, rfl⟩ := rd_sl1 g20
  obtain rfl : c19 = [.int .i64 p1.Seen_] := g21
  unfold impl_TreeOk at H
  refine f_enter (vs := [.agg #[.slice a14 p0.Attrs_.length c15, .slice a16 p0.Classes_.length c17], .agg #[.slice a22 p1.Nodes_.length c23, .int .i64 p1.Seen_]]) Tryz.func59 rfl Tryz.ntmps59 rfl (St.init w []) ?_
  refine c_seq ?_
  refine c_reg ?_
  refine ow_box (cs := [.slice a14 p0.Attrs_.length c15, .slice a16 p0.Classes_.length c17]) rfl rfl rfl rfl rfl rfl (fun _ => kp) (fun b24 => ?_)
  refine ow_box (cs := [.slice a22 p1.Nodes_.length c23, .int .i64 p1.Seen_]) rfl rfl rfl rfl rfl rfl (fun _ => kp) (fun b25 => ?_)
  refine ow_batch [.p] rfl ?_
  refine ow_nil ?_
  refine x_qs ?_
  refine c_seq ?_
  refine c_seq ?_
  refine c_reg ?_
  refine ow_r rfl (dstOk_lt rfl) (ry_box (off := 0) (ds := [.slice a14 p0.Attrs_.length c15, .slice a16 p0.Classes_.length c17]) rfl rfl ty35 (boxIn (i := 0) rfl) rfl rfl) ?_
  obtain ⟨y26, h27, H⟩ := of_bind H
  refine ow_q rfl rfl (dstOk_lt rfl) (qy_call rfl fn132 rfl (fun w1 hw1 => impl_SchemaOk_ok w1 (cs0 := [.slice a14 p0.Attrs_.length c15, .slice a16 p0.Classes_.length c17]) h27 (rdm_Timpl_Schema (x := p0) (c0 := [.slice a14 p0.Attrs_.length c15]) (c1 := [.slice a16 p0.Classes_.length c17]) (rds_bor g12 w1 hw1) (rds_bor g13 w1 hw1)))) (fun _ _ => trivial) ?_
  refine ow_batch [.p, .p] rfl ?_
  obtain ⟨u28, hu32, H⟩ := of_bind H
  refine ow_cut [(17, .bool u28), (2, .pointer (some ⟨b24, 0, none⟩)), (3, .pointer (some ⟨b25, 0, none⟩))] 6 ?_ (fun key => OW.sub (R := [(2, .pointer (some ⟨b24, 0, none⟩)), (3, .pointer (some ⟨b25, 0, none⟩)), (11, .bool (!y26))]) ?_ ⟨rfl, rfl, rfl, trivial⟩)
  · refine ow_batch [.p] rfl ?_
    obtain ⟨u33, hu37, H⟩ := of_bind H
    refine ow_cut [(23, .bool u33), (2, .pointer (some ⟨b24, 0, none⟩)), (3, .pointer (some ⟨b25, 0, none⟩))] 5 ?_ (fun key => OW.sub (R := [(2, .pointer (some ⟨b24, 0, none⟩)), (3, .pointer (some ⟨b25, 0, none⟩)), (18, .bool u28)]) ?_ ⟨rfl, rfl, rfl, trivial⟩)
    · refine ow_nil ?_
      refine x_qs ?_
      refine c_if rfl (fun hb => ?_) (fun hb => ?_)
      · have H := of_if_t hb H
        refine c_seq ?_
        refine c_reg ?_
        refine ow_batch [.p] rfl ?_
        refine ow_nil ?_
        refine x_qs ?_
        refine c_ret ?_
        refine x_qs_ret ?_
        exact x_retR (rs := [.tmp 4]) (vs := [.bool false]) rfl ⟨rfl, trivial⟩ (fun w' hw' => by
            obtain rfl := of_some H
            exact ⟨rfl, hw'.ext⟩)
      · have H := of_if_f hb H
        refine c_skip ?_
        refine x_qs ?_
        refine c_seq ?_
        refine c_seq ?_
        refine c_reg ?_
        refine ow_batch [.fa 39 0 0 fa39_0] rfl ?_
        refine ow_r rfl (dstOk_lt rfl) (ry_box1 (off := 0) rfl rfl ty37 (boxIn (i := 1) rfl) rfl) ?_
        refine ow_batch [.lenS 37 118 sl37, .p] rfl ?_
        refine ow_nil ?_
        refine x_qs ?_
        refine c_block ?_
        refine CW.at (loopI1 (fun (i134 : Int) => St w [] [Res.box b24 35 [.slice a14 p0.Attrs_.length c15, .slice a16 p0.Classes_.length c17], Res.box b25 39 [.slice a22 p1.Nodes_.length c23, .int .i64 p1.Seen_]]) (fun (i134 : Int) => [(2, .pointer (some ⟨b24, 0, none⟩)), (3, .pointer (some ⟨b25, 0, none⟩)), (25, .slice a22 p1.Nodes_.length c23), (26, .int .i64 (p1.Nodes_.length : Int)), (27, .int .i64 i134)]) (fun kk => fun (i134 : Int) => impl_TreeOk_L1 p1 p0 kk i134 = some r) (fun _ H => ?_) (fun k1 ihk1 i134 H => ?_) Fuel (0) (H)) (fun _ h => St.sel [0, 1] rfl rfl h) ⟨rfl, rfl, rfl, rfl, rfl,  trivial⟩
        · unfold impl_TreeOk_L1 at H
          exact absurd H (by simp)
        · unfold impl_TreeOk_L1 at H
          refine c_seq ?_
          refine c_reg ?_
          refine ow_batch [.p] rfl ?_
          refine ow_nil ?_
          refine x_qs ?_
          refine c_seq ?_
          refine c_if rfl (fun hb => ?_) (fun hb => ?_)
          · have H := of_if_t hb H
            refine c_skip ?_
            refine x_qs ?_
            refine c_seq ?_
            refine c_block ?_
            refine c_seq ?_
            refine c_reg ?_
            refine ow_batch [.p] rfl ?_
            obtain ⟨e231, h232, H⟩ := of_bind H
            refine ow_ixB rfl rfl rfl rfl rfl sl37 ty118 rfl g20 h232 (fun q235 c236 hd233 hA234 => ?_)
            obtain ⟨c237, c238, c239, c240, c241, c242, c243, c244, c245, c246, rfl, g247, g248, g249, g250, g251, g252, g253, g254, g255, g256⟩ := rdo_Timpl_Node hd233
            obtain rfl : c237 = [.bool e231.Leaf_] := g247
            obtain rfl : c238 = [.int .i64 e231.Fork_.Attr_, .int .i64 e231.Fork_.At_] := g248
            obtain ⟨a257, c258, rfl⟩ := rd_sl1 g249
            obtain rfl : c240 = [.int .i64 e231.Miss_] := g250
            obtain ⟨c259, c260, rfl, g261, g262⟩ := rdo_Timpl_Stats g251
            obtain ⟨a263, c264, rfl⟩ := rd_sl1 g261
            obtain ⟨a265, c266, rfl⟩ := rd_sl1 g262
            obtain rfl : c242 = [.int .i64 e231.Since_] := g252
            obtain ⟨a267, c268, rfl⟩ := rd_sl1 g253
            obtain rfl : c244 = [.int .i64 e231.Depth_] := g254
            obtain rfl : c245 = [.int .i64 e231.Up_] := g255
            obtain rfl : c246 = [.int .i64 e231.Born_] := g256
            refine ow_r rfl (dstOk_lt rfl) (ry_load (cs := [.bool e231.Leaf_, .int .i64 e231.Fork_.Attr_, .int .i64 e231.Fork_.At_, .slice a257 e231.Kids_.length c258, .int .i64 e231.Miss_, .slice a263 e231.Stats_.Totals_.length c264, .slice a265 e231.Stats_.Cells_.length c266, .int .i64 e231.Since_, .slice a267 e231.Attrs_.length c268, .int .i64 e231.Depth_, .int .i64 e231.Up_, .int .i64 e231.Born_]) rfl rfl ty118 (at_bor bor hA234) rfl) ?_
            refine ow_alloc rfl rfl rfl rfl ty118 (fun _ => kp) (fun b269 => ?_)
            refine ow_batch [.p] rfl ?_
            refine ow_storeC (off := 0) [.bool e231.Leaf_, .int .i64 e231.Fork_.Attr_, .int .i64 e231.Fork_.At_, .slice a257 e231.Kids_.length c258, .int .i64 e231.Miss_, .slice a263 e231.Stats_.Totals_.length c264, .slice a265 e231.Stats_.Cells_.length c266, .int .i64 e231.Since_, .slice a267 e231.Attrs_.length c268, .int .i64 e231.Depth_, .int .i64 e231.Up_, .int .i64 e231.Born_] [_, _, _, _, _, _, _, _, _, _, _, _] (i := 2) rfl rfl rfl rfl rfl rfl ty118 rfl rfl (by intro u hu; simp only [List.mem_cons, List.not_mem_nil, or_false] at hu; rcases hu with rfl | rfl | rfl | rfl | rfl | rfl | rfl | rfl | rfl | rfl | rfl | rfl <;> rfl) rfl rfl rfl kp ?_
            refine ow_nil ?_
            refine x_qs ?_
            refine c_seq ?_
            refine c_seq ?_
            refine c_reg ?_
            refine ow_r rfl (dstOk_lt rfl) (ry_box (off := 0) (ds := [.slice a14 p0.Attrs_.length c15, .slice a16 p0.Classes_.length c17]) rfl rfl ty35 (boxIn (i := 0) rfl) rfl rfl) ?_
            refine ow_r rfl (dstOk_lt rfl) (ry_box (off := 0) (ds := [.slice a22 p1.Nodes_.length c23, .int .i64 p1.Seen_]) rfl rfl ty39 (boxIn (i := 1) rfl) rfl rfl) ?_
            refine ow_batch [.p] rfl ?_
            obtain ⟨y270, h271, H⟩ := of_bind H
            refine ow_q rfl rfl (dstOk_lt rfl) (qy_call rfl fn133 rfl (fun w1 hw1 => impl_nodeOk_ok w1 (cs0 := [.slice a14 p0.Attrs_.length c15, .slice a16 p0.Classes_.length c17]) (cs1 := [.slice a22 p1.Nodes_.length c23, .int .i64 p1.Seen_]) h271 (rdm_Timpl_Schema (x := p0) (c0 := [.slice a14 p0.Attrs_.length c15]) (c1 := [.slice a16 p0.Classes_.length c17]) (rds_bor g12 w1 hw1) (rds_bor g13 w1 hw1)) (rdm_Timpl_Tree (x := p1) (c0 := [.slice a22 p1.Nodes_.length c23]) (c1 := [.int .i64 p1.Seen_]) (rds_bor g20 w1 hw1) rfl))) (fun _ _ => trivial) ?_
            refine ow_batch [.p] rfl ?_
            refine ow_nil ?_
            refine x_qs ?_
            refine c_if rfl (fun hb => ?_) (fun hb => ?_)
            · have H := of_if_t hb H
              refine c_seq ?_
              refine c_reg ?_
              refine ow_batch [.p] rfl ?_
              refine ow_nil ?_
              refine x_qs ?_
              refine c_ret ?_
              refine x_qs_ret ?_
              refine x_qb_ret ?_
              refine x_qs_ret ?_
              refine x_ql_ret ?_
              refine x_qb_ret ?_
              refine x_qs_ret ?_
              exact x_retR (rs := [.tmp 4]) (vs := [.bool false]) rfl ⟨rfl, trivial⟩ (fun w' hw' => by
                  obtain rfl := of_some H
                  exact ⟨rfl, hw'.ext⟩)
            · have H := of_if_f hb H
              refine c_skip ?_
              refine x_qs ?_
              refine c_seq ?_
              refine c_seq ?_
              refine c_reg ?_
              refine ow_batch [.p, .p] rfl ?_
              refine ow_nil ?_
              refine x_qs ?_
              refine c_if rfl (fun hb => ?_) (fun hb => ?_)
              · have H := of_if_t hb H
                refine c_seq ?_
                refine c_seq ?_
                refine c_reg ?_
                refine ow_batch [.fa 118 8 10 fa118_8] rfl ?_
                refine ow_r rfl (dstOk_lt rfl) (ry_box1 (off := 10) rfl rfl ty3 (boxIn (i := 2) rfl) rfl) ?_
                refine ow_batch [.p, .p] rfl ?_
                refine ow_cut [(46, .bool ((e231.Up_ != (-1)) || (e231.Depth_ != 0))), (2, .pointer (some ⟨b24, 0, none⟩)), (3, .pointer (some ⟨b25, 0, none⟩)), (6, .pointer (some ⟨b269, 0, none⟩)), (25, .slice a22 p1.Nodes_.length c23), (26, .int .i64 (p1.Nodes_.length : Int)), (27, .int .i64 i134)] 4 ?_ (fun key => OW.sub (R := [(2, .pointer (some ⟨b24, 0, none⟩)), (3, .pointer (some ⟨b25, 0, none⟩)), (6, .pointer (some ⟨b269, 0, none⟩)), (25, .slice a22 p1.Nodes_.length c23), (26, .int .i64 (p1.Nodes_.length : Int)), (27, .int .i64 i134), (42, .bool (e231.Up_ != (-1)))]) ?_ ⟨rfl, rfl, rfl, rfl, rfl, rfl, rfl, trivial⟩)
                · refine ow_batch [.p] rfl ?_
                  refine ow_cut [(51, .bool (((e231.Up_ != (-1)) || (e231.Depth_ != 0)) || (e231.Born_ != 0))), (2, .pointer (some ⟨b24, 0, none⟩)), (3, .pointer (some ⟨b25, 0, none⟩)), (25, .slice a22 p1.Nodes_.length c23), (26, .int .i64 (p1.Nodes_.length : Int)), (27, .int .i64 i134)] 4 ?_ (fun key => OW.sub (R := [(2, .pointer (some ⟨b24, 0, none⟩)), (3, .pointer (some ⟨b25, 0, none⟩)), (6, .pointer (some ⟨b269, 0, none⟩)), (25, .slice a22 p1.Nodes_.length c23), (26, .int .i64 (p1.Nodes_.length : Int)), (27, .int .i64 i134), (47, .bool ((e231.Up_ != (-1)) || (e231.Depth_ != 0)))]) ?_ ⟨rfl, rfl, rfl, rfl, rfl, rfl, rfl, trivial⟩)
                  · refine ow_nil ?_
                    refine x_qs ?_
                    refine c_if rfl (fun hb => ?_) (fun hb => ?_)
                    · have H := of_if_t hb H
                      refine c_seq ?_
                      refine c_reg ?_
                      refine ow_batch [.p] rfl ?_
                      refine ow_nil ?_
                      refine x_qs ?_
                      refine c_ret ?_
                      refine x_qs_ret ?_
                      refine x_qs_ret ?_
                      refine x_qb_ret ?_
                      refine x_qs_ret ?_
                      refine x_ql_ret ?_
                      refine x_qb_ret ?_
                      refine x_qs_ret ?_
                      exact x_retR (rs := [.tmp 4]) (vs := [.bool false]) rfl ⟨rfl, trivial⟩ (fun w' hw' => by
                          obtain rfl := of_some H
                          exact ⟨rfl, hw'.ext⟩)
                    · have H := of_if_f hb H
                      refine c_skip ?_
                      refine x_qs ?_
                      refine c_exit ?_
                      refine x_qs_exit ?_
                      refine x_qb_here ?_
                      refine x_qs ?_
                      refine c_reg ?_
                      refine ow_batch [.p, .p] rfl ?_
                      refine ow_nil ?_
                      exact x_ql (RW.at (ihk1 (IntKind.i64.wrap (i134 + 1)) (H)) (fun _ h => St.sel [0, 1] rfl rfl h) ⟨rfl, rfl, rfl, rfl, rfl, trivial⟩)
                  · generalize ((e231.Up_ != (-1)) || (e231.Depth_ != 0)) = t275 at key ⊢
                    cases t275
                    · refine ow_batch [.fa 118 9 11 fa118_9] rfl ?_
                      refine ow_r rfl (dstOk_lt rfl) (ry_box1 (off := 11) rfl rfl ty3 (boxIn (i := 2) rfl) rfl) ?_
                      refine ow_batch [.p] rfl ?_
                      refine ow_batch [.p] rfl ?_
                      exact OW.sub key ⟨rfl, rfl, rfl, rfl, rfl, rfl, trivial⟩
                    · refine ow_batch [.p, .p, .p, .p] rfl ?_
                      exact OW.sub key ⟨rfl, rfl, rfl, rfl, rfl, rfl, trivial⟩
                · generalize (e231.Up_ != (-1)) = t273 at key ⊢
                  cases t273
                  · refine ow_batch [.fa 118 7 9 fa118_7] rfl ?_
                    refine ow_r rfl (dstOk_lt rfl) (ry_box1 (off := 9) rfl rfl ty3 (boxIn (i := 2) rfl) rfl) ?_
                    refine ow_batch [.p] rfl ?_
                    refine ow_batch [.p] rfl ?_
                    exact OW.sub key ⟨rfl, rfl, rfl, rfl, rfl, rfl, rfl, trivial⟩
                  · refine ow_batch [.p, .p, .p, .p] rfl ?_
                    exact OW.sub key ⟨rfl, rfl, rfl, rfl, rfl, rfl, rfl, trivial⟩
              · have H := of_if_f hb H
                refine c_skip ?_
                refine x_qs ?_
                refine c_seq ?_
                refine c_seq ?_
                refine c_reg ?_
                refine ow_batch [.fa 118 8 10 fa118_8] rfl ?_
                refine ow_r rfl (dstOk_lt rfl) (ry_box1 (off := 10) rfl rfl ty3 (boxIn (i := 2) rfl) rfl) ?_
                refine ow_batch [.p, .p] rfl ?_
                obtain ⟨y276, h277, H⟩ := of_bind H
                refine ow_q rfl rfl (dstOk_lt rfl) (qy_call rfl fn91 rfl (fun w1 hw1 => impl_within_ok w1  h277)) (fun _ _ => trivial) ?_
                refine ow_batch [.p] rfl ?_
                refine ow_nil ?_
                refine x_qs ?_
                refine c_if rfl (fun hb => ?_) (fun hb => ?_)
                · have H := of_if_t hb H
                  refine c_seq ?_
                  refine c_reg ?_
                  refine ow_batch [.p] rfl ?_
                  refine ow_nil ?_
                  refine x_qs ?_
                  refine c_ret ?_
                  refine x_qs_ret ?_
                  refine x_qb_ret ?_
                  refine x_qs_ret ?_
                  refine x_ql_ret ?_
                  refine x_qb_ret ?_
                  refine x_qs_ret ?_
                  exact x_retR (rs := [.tmp 4]) (vs := [.bool false]) rfl ⟨rfl, trivial⟩ (fun w' hw' => by
                      obtain rfl := of_some H
                      exact ⟨rfl, hw'.ext⟩)
                · have H := of_if_f hb H
                  refine c_skip ?_
                  refine x_qs ?_
                  refine c_seq ?_
                  refine c_reg ?_
                  refine ow_batch [.fa 39 0 0 fa39_0] rfl ?_
                  refine ow_r rfl (dstOk_lt rfl) (ry_box1 (off := 0) rfl rfl ty37 (boxIn (i := 1) rfl) rfl) ?_
                  refine ow_batch [.fa 118 8 10 fa118_8] rfl ?_
                  refine ow_r rfl (dstOk_lt rfl) (ry_box1 (off := 10) rfl rfl ty3 (boxIn (i := 2) rfl) rfl) ?_
                  obtain ⟨e278, h279, H⟩ := of_bind H
                  refine ow_ixB rfl rfl rfl rfl rfl sl37 ty118 rfl g20 h279 (fun q282 c283 hd280 hA281 => ?_)
                  obtain ⟨c284, c285, c286, c287, c288, c289, c290, c291, c292, c293, rfl, g294, g295, g296, g297, g298, g299, g300, g301, g302, g303⟩ := rdo_Timpl_Node hd280
                  obtain rfl : c284 = [.bool e278.Leaf_] := g294
                  obtain rfl : c285 = [.int .i64 e278.Fork_.Attr_, .int .i64 e278.Fork_.At_] := g295
                  obtain ⟨a304, c305, rfl⟩ := rd_sl1 g296
                  obtain rfl : c287 = [.int .i64 e278.Miss_] := g297
                  obtain ⟨c306, c307, rfl, g308, g309⟩ := rdo_Timpl_Stats g298
                  obtain ⟨a310, c311, rfl⟩ := rd_sl1 g308
                  obtain ⟨a312, c313, rfl⟩ := rd_sl1 g309
                  obtain rfl : c289 = [.int .i64 e278.Since_] := g299
                  obtain ⟨a314, c315, rfl⟩ := rd_sl1 g300
                  obtain rfl : c291 = [.int .i64 e278.Depth_] := g301
                  obtain rfl : c292 = [.int .i64 e278.Up_] := g302
                  obtain rfl : c293 = [.int .i64 e278.Born_] := g303
                  refine ow_r rfl (dstOk_lt rfl) (ry_load (cs := [.bool e278.Leaf_, .int .i64 e278.Fork_.Attr_, .int .i64 e278.Fork_.At_, .slice a304 e278.Kids_.length c305, .int .i64 e278.Miss_, .slice a310 e278.Stats_.Totals_.length c311, .slice a312 e278.Stats_.Cells_.length c313, .int .i64 e278.Since_, .slice a314 e278.Attrs_.length c315, .int .i64 e278.Depth_, .int .i64 e278.Up_, .int .i64 e278.Born_]) rfl rfl ty118 (at_bor bor hA281) rfl) ?_
                  refine ow_alloc rfl rfl rfl rfl ty118 (fun _ => kp) (fun b316 => ?_)
                  refine ow_storeC (off := 0) [.bool e278.Leaf_, .int .i64 e278.Fork_.Attr_, .int .i64 e278.Fork_.At_, .slice a304 e278.Kids_.length c305, .int .i64 e278.Miss_, .slice a310 e278.Stats_.Totals_.length c311, .slice a312 e278.Stats_.Cells_.length c313, .int .i64 e278.Since_, .slice a314 e278.Attrs_.length c315, .int .i64 e278.Depth_, .int .i64 e278.Up_, .int .i64 e278.Born_] [_, _, _, _, _, _, _, _, _, _, _, _] (i := 3) rfl rfl rfl rfl rfl rfl ty118 rfl rfl (by intro u hu; simp only [List.mem_cons, List.not_mem_nil, or_false] at hu; rcases hu with rfl | rfl | rfl | rfl | rfl | rfl | rfl | rfl | rfl | rfl | rfl | rfl <;> rfl) rfl rfl rfl kp ?_
                  refine ow_nil ?_
                  refine x_qs ?_
                  refine c_seq ?_
                  refine c_reg ?_
                  refine ow_batch [.fa 118 0 0 fa118_0] rfl ?_
                  refine ow_r rfl (dstOk_lt rfl) (ry_box1 (off := 0) rfl rfl ty4 (boxIn (i := 3) rfl) rfl) ?_
                  refine ow_batch [.p] rfl ?_
                  obtain ⟨u317, hu321, H⟩ := of_bind H
                  refine ow_cut [(72, .bool u317), (2, .pointer (some ⟨b24, 0, none⟩)), (3, .pointer (some ⟨b25, 0, none⟩)), (6, .pointer (some ⟨b269, 0, none⟩)), (7, .pointer (some ⟨b316, 0, none⟩)), (25, .slice a22 p1.Nodes_.length c23), (26, .int .i64 (p1.Nodes_.length : Int)), (27, .int .i64 i134)] 6 ?_ (fun key => OW.sub (R := [(2, .pointer (some ⟨b24, 0, none⟩)), (3, .pointer (some ⟨b25, 0, none⟩)), (5, .int .i64 i134), (6, .pointer (some ⟨b269, 0, none⟩)), (7, .pointer (some ⟨b316, 0, none⟩)), (25, .slice a22 p1.Nodes_.length c23), (26, .int .i64 (p1.Nodes_.length : Int)), (27, .int .i64 i134), (66, .bool e278.Leaf_)]) ?_ ⟨rfl, rfl, rfl, rfl, rfl, rfl, rfl, rfl, rfl, trivial⟩)
                  · refine ow_batch [.p] rfl ?_
                    refine ow_cut [(80, .bool (u317 || (e278.Depth_ != (IntKind.i64.wrap (e231.Depth_ - 1))))), (2, .pointer (some ⟨b24, 0, none⟩)), (3, .pointer (some ⟨b25, 0, none⟩)), (6, .pointer (some ⟨b269, 0, none⟩)), (7, .pointer (some ⟨b316, 0, none⟩)), (25, .slice a22 p1.Nodes_.length c23), (26, .int .i64 (p1.Nodes_.length : Int)), (27, .int .i64 i134)] 7 ?_ (fun key => OW.sub (R := [(2, .pointer (some ⟨b24, 0, none⟩)), (3, .pointer (some ⟨b25, 0, none⟩)), (6, .pointer (some ⟨b269, 0, none⟩)), (7, .pointer (some ⟨b316, 0, none⟩)), (25, .slice a22 p1.Nodes_.length c23), (26, .int .i64 (p1.Nodes_.length : Int)), (27, .int .i64 i134), (73, .bool u317)]) ?_ ⟨rfl, rfl, rfl, rfl, rfl, rfl, rfl, rfl, trivial⟩)
                    · refine ow_batch [.p] rfl ?_
                      refine ow_cut [(87, .bool ((u317 || (e278.Depth_ != (IntKind.i64.wrap (e231.Depth_ - 1)))) || (decide (e278.Born_ > e231.Born_)))), (2, .pointer (some ⟨b24, 0, none⟩)), (3, .pointer (some ⟨b25, 0, none⟩)), (25, .slice a22 p1.Nodes_.length c23), (26, .int .i64 (p1.Nodes_.length : Int)), (27, .int .i64 i134)] 6 ?_ (fun key => OW.sub (R := [(2, .pointer (some ⟨b24, 0, none⟩)), (3, .pointer (some ⟨b25, 0, none⟩)), (6, .pointer (some ⟨b269, 0, none⟩)), (7, .pointer (some ⟨b316, 0, none⟩)), (25, .slice a22 p1.Nodes_.length c23), (26, .int .i64 (p1.Nodes_.length : Int)), (27, .int .i64 i134), (81, .bool (u317 || (e278.Depth_ != (IntKind.i64.wrap (e231.Depth_ - 1)))))]) ?_ ⟨rfl, rfl, rfl, rfl, rfl, rfl, rfl, rfl, trivial⟩)
                      · refine ow_nil ?_
                        refine x_qs ?_
                        refine c_if rfl (fun hb => ?_) (fun hb => ?_)
                        · have H := of_if_t hb H
                          refine c_seq ?_
                          refine c_reg ?_
                          refine ow_batch [.p] rfl ?_
                          refine ow_nil ?_
                          refine x_qs ?_
                          refine c_ret ?_
                          refine x_qb_ret ?_
                          refine x_qs_ret ?_
                          refine x_ql_ret ?_
                          refine x_qb_ret ?_
                          refine x_qs_ret ?_
                          exact x_retR (rs := [.tmp 4]) (vs := [.bool false]) rfl ⟨rfl, trivial⟩ (fun w' hw' => by
                              obtain rfl := of_some H
                              exact ⟨rfl, hw'.ext⟩)
                        · have H := of_if_f hb H
                          refine c_skip ?_
                          refine x_qb ?_
                          refine x_qs ?_
                          refine c_reg ?_
                          refine ow_batch [.p, .p] rfl ?_
                          refine ow_nil ?_
                          exact x_ql (RW.at (ihk1 (IntKind.i64.wrap (i134 + 1)) (H)) (fun _ h => St.sel [0, 1] rfl rfl h) ⟨rfl, rfl, rfl, rfl, rfl, trivial⟩)
                      · generalize (u317 || (e278.Depth_ != (IntKind.i64.wrap (e231.Depth_ - 1)))) = t325 at key ⊢
                        cases t325
                        · refine ow_batch [.fa 118 9 11 fa118_9] rfl ?_
                          refine ow_r rfl (dstOk_lt rfl) (ry_box1 (off := 11) rfl rfl ty3 (boxIn (i := 3) rfl) rfl) ?_
                          refine ow_batch [.fa 118 9 11 fa118_9] rfl ?_
                          refine ow_r rfl (dstOk_lt rfl) (ry_box1 (off := 11) rfl rfl ty3 (boxIn (i := 2) rfl) rfl) ?_
                          refine ow_batch [.p] rfl ?_
                          refine ow_batch [.p] rfl ?_
                          exact OW.sub key ⟨rfl, rfl, rfl, rfl, rfl, rfl, trivial⟩
                        · refine ow_batch [.p, .p, .p, .p, .p, .p] rfl ?_
                          exact OW.sub key ⟨rfl, rfl, rfl, rfl, rfl, rfl, trivial⟩
                    · generalize u317 = t323 at key ⊢
                      cases t323
                      · refine ow_batch [.fa 118 7 9 fa118_7] rfl ?_
                        refine ow_r rfl (dstOk_lt rfl) (ry_box1 (off := 9) rfl rfl ty3 (boxIn (i := 3) rfl) rfl) ?_
                        refine ow_batch [.fa 118 7 9 fa118_7] rfl ?_
                        refine ow_r rfl (dstOk_lt rfl) (ry_box1 (off := 9) rfl rfl ty3 (boxIn (i := 2) rfl) rfl) ?_
                        refine ow_batch [.p, .p] rfl ?_
                        refine ow_batch [.p] rfl ?_
                        exact OW.sub key ⟨rfl, rfl, rfl, rfl, rfl, rfl, rfl, rfl, trivial⟩
                      · refine ow_batch [.p, .p, .p, .p, .p, .p, .p] rfl ?_
                        exact OW.sub key ⟨rfl, rfl, rfl, rfl, rfl, rfl, rfl, rfl, trivial⟩
                  · clear H
                    have H := hu321
                    clear hu321
                    generalize e278.Leaf_ = t320 at H key ⊢
                    cases t320
                    · have H := of_if_f rfl H
                      refine ow_batch [.fa 118 2 3 fa118_2] rfl ?_
                      refine ow_r rfl (dstOk_lt rfl) (ry_box1 (off := 3) rfl rfl ty59 (boxIn (i := 3) rfl) rfl) ?_
                      refine ow_batch [.p] rfl ?_
                      obtain ⟨y318, h319, H⟩ := of_bind H
                      refine ow_q rfl rfl (dstOk_lt rfl) (qy_call rfl fn134 rfl (fun w1 hw1 => lib_slices_Contains___int_int__ok w1  h319 (rds_bor g296 w1 hw1))) (fun _ _ => trivial) ?_
                      refine ow_batch [.p] rfl ?_
                      refine ow_batch [.p] rfl ?_
                      obtain rfl := of_some H
                      exact OW.sub key ⟨rfl, rfl, rfl, rfl, rfl, rfl, rfl, rfl, trivial⟩
                    · have H := of_if_t rfl H
                      refine ow_batch [.p, .p, .p, .p, .p, .p] rfl ?_
                      obtain rfl := of_some H
                      exact OW.sub key ⟨rfl, rfl, rfl, rfl, rfl, rfl, rfl, rfl, trivial⟩
          · have H := of_if_f hb H
            refine c_exit ?_
            refine x_qs_exit ?_
            refine x_ql_exit ?_
            refine x_qb_here ?_
            refine x_qs ?_
            refine c_seq ?_
            refine c_reg ?_
            refine ow_batch [.p] rfl ?_
            refine ow_nil ?_
            refine x_qs ?_
            refine c_ret ?_
            exact x_retR (rs := [.tmp 4]) (vs := [.bool true]) rfl ⟨rfl, trivial⟩ (fun w' hw' => by
                obtain rfl := of_some H
                exact ⟨rfl, hw'.ext⟩)
    · clear H
      have H := hu37
      clear hu37
      generalize u28 = t36 at H key ⊢
      cases t36
      · have H := of_if_f rfl H
        refine ow_batch [.fa 39 1 1 fa39_1] rfl ?_
        refine ow_r rfl (dstOk_lt rfl) (ry_box1 (off := 1) rfl rfl ty3 (boxIn (i := 1) rfl) rfl) ?_
        obtain ⟨y34, h35, H⟩ := of_bind H
        refine ow_q rfl rfl (dstOk_lt rfl) (qy_call rfl fn91 rfl (fun w1 hw1 => impl_within_ok w1  h35)) (fun _ _ => trivial) ?_
        refine ow_batch [.p] rfl ?_
        refine ow_batch [.p] rfl ?_
        obtain rfl := of_some H
        exact OW.sub key ⟨rfl, rfl, rfl, trivial⟩
      · have H := of_if_t rfl H
        refine ow_batch [.p, .p, .p, .p, .p] rfl ?_
        obtain rfl := of_some H
        exact OW.sub key ⟨rfl, rfl, rfl, trivial⟩
  · clear H
    have H := hu32
    clear hu32
    generalize (!y26) = t31 at H key ⊢
    cases t31
    · have H := of_if_f rfl H
      refine ow_batch [.fa 39 0 0 fa39_0] rfl ?_
      refine ow_r rfl (dstOk_lt rfl) (ry_box1 (off := 0) rfl rfl ty37 (boxIn (i := 1) rfl) rfl) ?_
      refine ow_batch [.lenS 37 118 sl37] rfl ?_
      obtain ⟨y29, h30, H⟩ := of_bind H
      refine ow_q rfl rfl (dstOk_lt rfl) (qy_call rfl fn91 rfl (fun w1 hw1 => impl_within_ok w1  h30)) (fun _ _ => trivial) ?_
      refine ow_batch [.p] rfl ?_
      refine ow_batch [.p] rfl ?_
      obtain rfl := of_some H
      exact OW.sub key ⟨rfl, rfl, rfl, trivial⟩
    · have H := of_if_t rfl H
      refine ow_batch [.p, .p, .p, .p, .p, .p] rfl ?_
      obtain rfl := of_some H
      exact OW.sub key ⟨rfl, rfl, rfl, trivial⟩
set_option maxHeartbeats 4000000 in
set_option maxRecDepth 100000 in
theorem impl_BranchOf_ok (w : World) {p0 : Timpl_Schema} {p1 : Timpl_Fork} {p2 : Int} {cs0 : List Value} {r : Int} (H : impl_BranchOf p0 p1 p2 = some r)  (g0 : (eTimpl_Schema).rd w [] p0 cs0) :
    Calls Tryz.prog 139 #[.agg cs0.toArray, .agg #[.int .i64 p1.Attr_, .int .i64 p1.At_], .int .i64 p2] w (fun en w' => en = .returned (.int .i64 r) ∧ Ext [] w w') := by
  obtain ⟨c10, c11, rfl, g12, g13⟩ := rdo_Timpl_Schema g0
  obtain ⟨a14, c15, rfl⟩ := rd_sl1 g12
  obtain ⟨a16, c17, rfl⟩ := rd_sl1 g13
  unfold impl_BranchOf at H
  refine f_enter (vs := [.agg #[.slice a14 p0.Attrs_.length c15, .slice a16 p0.Classes_.length c17], .agg #[.int .i64 p1.Attr_, .int .i64 p1.At_], .int .i64 p2]) Tryz.func139 rfl Tryz.ntmps139 rfl (St.init w []) ?_
  refine c_seq ?_
  refine c_reg ?_
  refine ow_box (cs := [.slice a14 p0.Attrs_.length c15, .slice a16 p0.Classes_.length c17]) rfl rfl rfl rfl rfl rfl (fun _ => kp) (fun b18 => ?_)
  refine ow_box (cs := [.int .i64 p1.Attr_, .int .i64 p1.At_]) rfl rfl rfl rfl rfl rfl (fun _ => kp) (fun b19 => ?_)
  refine ow_batch [.p] rfl ?_
  refine ow_nil ?_
  refine x_qs ?_
  refine c_seq ?_
  refine c_seq ?_
  refine c_reg ?_
  refine ow_r rfl (dstOk_lt rfl) (ry_box (off := 0) (ds := [.slice a14 p0.Attrs_.length c15, .slice a16 p0.Classes_.length c17]) rfl rfl ty35 (boxIn (i := 0) rfl) rfl rfl) ?_
  refine ow_r rfl (dstOk_lt rfl) (ry_box (off := 0) (ds := [.int .i64 p1.Attr_, .int .i64 p1.At_]) rfl rfl ty116 (boxIn (i := 1) rfl) rfl rfl) ?_
  obtain ⟨y20, h21, H⟩ := of_bind H
  refine ow_q rfl rfl (dstOk_lt rfl) (qy_call rfl fn211 rfl (fun w1 hw1 => impl_ForkOk_ok w1 (p1 := p1) (cs0 := [.slice a14 p0.Attrs_.length c15, .slice a16 p0.Classes_.length c17]) h21 (rdm_Timpl_Schema (x := p0) (c0 := [.slice a14 p0.Attrs_.length c15]) (c1 := [.slice a16 p0.Classes_.length c17]) (rds_bor g12 w1 hw1) (rds_bor g13 w1 hw1)))) (fun _ _ => trivial) ?_
  refine ow_batch [.p, .p] rfl ?_
  obtain ⟨u22, hu44, H⟩ := of_bind H
  refine ow_cut [(23, .bool u22), (2, .int .i64 p2), (3, .pointer (some ⟨b18, 0, none⟩)), (4, .pointer (some ⟨b19, 0, none⟩))] 12 ?_ (fun key => OW.sub (R := [(2, .int .i64 p2), (3, .pointer (some ⟨b18, 0, none⟩)), (4, .pointer (some ⟨b19, 0, none⟩)), (11, .bool (!y20))]) ?_ ⟨rfl, rfl, rfl, rfl, trivial⟩)
  · refine ow_nil ?_
    refine x_qs ?_
    refine c_if rfl (fun hb => ?_) (fun hb => ?_)
    · have H := of_if_t hb H
      refine c_seq ?_
      refine c_reg ?_
      refine ow_batch [.p] rfl ?_
      refine ow_nil ?_
      refine x_qs ?_
      refine c_ret ?_
      refine x_qs_ret ?_
      exact x_retR (rs := [.tmp 6]) (vs := [.int .i64 (-1)]) rfl ⟨rfl, trivial⟩ (fun w' hw' => by
          obtain rfl := of_some H
          exact ⟨rfl, hw'.ext⟩)
    · have H := of_if_f hb H
      refine c_skip ?_
      refine x_qs ?_
      refine c_seq ?_
      refine c_block ?_
      refine c_seq ?_
      refine c_reg ?_
      refine ow_batch [.fa 116 1 1 fa116_1] rfl ?_
      refine ow_r rfl (dstOk_lt rfl) (ry_box1 (off := 1) rfl rfl ty3 (boxIn (i := 1) rfl) rfl) ?_
      refine ow_batch [.p, .p] rfl ?_
      refine ow_nil ?_
      refine x_qs ?_
      refine c_if rfl (fun hb => ?_) (fun hb => ?_)
      · have H := of_if_t hb H
        refine c_seq ?_
        refine c_reg ?_
        refine ow_batch [.p, .p] rfl ?_
        refine ow_nil ?_
        refine x_qs ?_
        refine c_ret ?_
        refine x_qb_ret ?_
        refine x_qs_ret ?_
        exact x_retR (rs := [.tmp 6]) (vs := [.int .i64 p2]) rfl ⟨rfl, trivial⟩ (fun w' hw' => by
            obtain rfl := of_some H
            exact ⟨rfl, hw'.ext⟩)
      · have H := of_if_f hb H
        refine c_seq ?_
        refine c_reg ?_
        refine ow_batch [.p, .fa 116 1 1 fa116_1] rfl ?_
        refine ow_r rfl (dstOk_lt rfl) (ry_box1 (off := 1) rfl rfl ty3 (boxIn (i := 1) rfl) rfl) ?_
        refine ow_batch [.p, .p] rfl ?_
        obtain ⟨u45, hu65, H⟩ := of_bind H
        refine ow_cut [(50, .bool u45)] 16 ?_ (fun key => OW.sub (R := [(2, .int .i64 p2), (3, .pointer (some ⟨b18, 0, none⟩)), (4, .pointer (some ⟨b19, 0, none⟩)), (34, .bool (p2 == p1.At_))]) ?_ ⟨rfl, rfl, rfl, rfl, trivial⟩)
        · refine ow_batch [.p] rfl ?_
          refine ow_nil ?_
          refine x_qs ?_
          refine c_if rfl (fun hb => ?_) (fun hb => ?_)
          · have H := of_if_t hb H
            refine c_seq ?_
            refine c_reg ?_
            refine ow_batch [.p] rfl ?_
            refine ow_nil ?_
            refine x_qs ?_
            refine c_ret ?_
            refine x_qb_ret ?_
            refine x_qs_ret ?_
            exact x_retR (rs := [.tmp 6]) (vs := [.int .i64 0]) rfl ⟨rfl, trivial⟩ (fun w' hw' => by
                obtain rfl := of_some H
                exact ⟨rfl, hw'.ext⟩)
          · have H := of_if_f hb H
            refine c_skip ?_
            refine x_qb ?_
            refine x_qs ?_
            refine c_seq ?_
            refine c_reg ?_
            refine ow_batch [.p] rfl ?_
            refine ow_nil ?_
            refine x_qs ?_
            refine c_ret ?_
            exact x_retR (rs := [.tmp 6]) (vs := [.int .i64 1]) rfl ⟨rfl, trivial⟩ (fun w' hw' => by
                obtain rfl := of_some H
                exact ⟨rfl, hw'.ext⟩)
        · clear H
          have H := hu65
          clear hu65
          generalize (p2 == p1.At_) = t64 at H key ⊢
          cases t64
          · have H := of_if_f rfl H
            refine ow_batch [.fa 35 0 0 fa35_0] rfl ?_
            refine ow_r rfl (dstOk_lt rfl) (ry_box1 (off := 0) rfl rfl ty33 (boxIn (i := 0) rfl) rfl) ?_
            refine ow_batch [.fa 116 0 0 fa116_0] rfl ?_
            refine ow_r rfl (dstOk_lt rfl) (ry_box1 (off := 0) rfl rfl ty3 (boxIn (i := 1) rfl) rfl) ?_
            obtain ⟨e46, h47, H⟩ := of_bind H
            refine ow_ixB rfl rfl rfl rfl rfl sl33 ty114 rfl g12 h47 (fun q50 c51 hd48 hA49 => ?_)
            obtain ⟨c52, c53, c54, rfl, g55, g56, g57⟩ := rdo_Timpl_Attr hd48
            obtain rfl : c52 = [vS e46.Name_] := g55
            obtain ⟨a58, c59, rfl⟩ := rd_sl1 g56
            obtain ⟨a60, c61, rfl⟩ := rd_sl1 g57
            refine ow_batch [.fa 114 1 1 fa114_1] rfl ?_
            refine ow_r rfl (dstOk_lt rfl) (ry_load1 rfl rfl ty59 (at_bor bor (at_K hA49 1 1))) ?_
            refine ow_batch [.lenS 59 3 sl59, .p, .p] rfl ?_
            refine ow_cut [(49, .bool ((decide ((e46.Cuts_.length : Int) > 0)) && (decide (p2 < p1.At_)))), (34, .bool false)] 5 ?_ (fun key => OW.sub (R := [(2, .int .i64 p2), (4, .pointer (some ⟨b19, 0, none⟩)), (34, .bool false), (44, .bool (decide ((e46.Cuts_.length : Int) > 0)))]) ?_ ⟨rfl, rfl, rfl, rfl, trivial⟩)
            · refine ow_batch [.p] rfl ?_
              obtain rfl := of_some H
              exact OW.sub key ⟨rfl, trivial⟩
            · generalize (decide ((e46.Cuts_.length : Int) > 0)) = t63 at key ⊢
              cases t63
              · refine ow_batch [.p, .p, .p, .p, .p] rfl ?_
                exact OW.sub key ⟨rfl, rfl, trivial⟩
              · refine ow_batch [.p, .fa 116 1 1 fa116_1] rfl ?_
                refine ow_r rfl (dstOk_lt rfl) (ry_box1 (off := 1) rfl rfl ty3 (boxIn (i := 1) rfl) rfl) ?_
                refine ow_batch [.p] rfl ?_
                refine ow_batch [.p] rfl ?_
                exact OW.sub key ⟨rfl, rfl, trivial⟩
          · have H := of_if_t rfl H
            refine ow_batch [.p, .p, .p, .p, .p, .p, .p, .p, .p, .p, .p, .p, .p, .p, .p, .p] rfl ?_
            obtain rfl := of_some H
            exact OW.sub key ⟨rfl, trivial⟩
  · clear H
    have H := hu44
    clear hu44
    generalize (!y20) = t43 at H key ⊢
    cases t43
    · have H := of_if_f rfl H
      refine ow_batch [.p, .fa 35 0 0 fa35_0] rfl ?_
      refine ow_r rfl (dstOk_lt rfl) (ry_box1 (off := 0) rfl rfl ty33 (boxIn (i := 0) rfl) rfl) ?_
      refine ow_batch [.fa 116 0 0 fa116_0] rfl ?_
      refine ow_r rfl (dstOk_lt rfl) (ry_box1 (off := 0) rfl rfl ty3 (boxIn (i := 1) rfl) rfl) ?_
      obtain ⟨e23, h24, H⟩ := of_bind H
      refine ow_ixB rfl rfl rfl rfl rfl sl33 ty114 rfl g12 h24 (fun q27 c28 hd25 hA26 => ?_)
      obtain ⟨c29, c30, c31, rfl, g32, g33, g34⟩ := rdo_Timpl_Attr hd25
      obtain rfl : c29 = [vS e23.Name_] := g32
      obtain ⟨a35, c36, rfl⟩ := rd_sl1 g33
      obtain ⟨a37, c38, rfl⟩ := rd_sl1 g34
      refine ow_r rfl (dstOk_lt rfl) (ry_load (cs := [vS e23.Name_, .slice a35 e23.Cuts_.length c36, .slice a37 e23.Values_.length c38]) rfl rfl ty114 (at_bor bor hA26) rfl) ?_
      obtain ⟨y39, h40, H⟩ := of_bind H
      refine ow_q rfl rfl (dstOk_lt rfl) (qy_call rfl fn138 rfl (fun w1 hw1 => impl_bins_ok w1 (cs0 := [vS e23.Name_, .slice a35 e23.Cuts_.length c36, .slice a37 e23.Values_.length c38]) h40 (rdm_Timpl_Attr (x := e23) (c0 := [vS e23.Name_]) (c1 := [.slice a35 e23.Cuts_.length c36]) (c2 := [.slice a37 e23.Values_.length c38]) rfl (rds_bor g33 w1 hw1) (rds_bor g34 w1 hw1)))) (fun _ _ => trivial) ?_
      refine ow_batch [.p] rfl ?_
      obtain ⟨y41, h42, H⟩ := of_bind H
      refine ow_q rfl rfl (dstOk_lt rfl) (qy_call rfl fn91 rfl (fun w1 hw1 => impl_within_ok w1  h42)) (fun _ _ => trivial) ?_
      refine ow_batch [.p] rfl ?_
      refine ow_batch [.p] rfl ?_
      obtain rfl := of_some H
      exact OW.sub key ⟨rfl, rfl, rfl, rfl, trivial⟩
    · have H := of_if_t rfl H
      refine ow_batch [.p, .p, .p, .p, .p, .p, .p, .p, .p, .p, .p, .p] rfl ?_
      obtain rfl := of_some H
      exact OW.sub key ⟨rfl, rfl, rfl, rfl, trivial⟩
set_option maxHeartbeats 4000000 in
set_option maxRecDepth 100000 in
theorem laws_eqIntS_ok (w : World) {p0 : List Int} {p1 : List Int} {a_0 : Option Addr} {n_0 c_0 : Nat} {a_1 : Option Addr} {n_1 c_1 : Nat} {r : Bool} (H : laws_eqIntS p0 p1 = some r)  (g0 : (eList (eVal (Value.int .i64) (fun _ => rfl)) 3).rd w [] p0 [.slice a_0 n_0 c_0]) (g1 : (eList (eVal (Value.int .i64) (fun _ => rfl)) 3).rd w [] p1 [.slice a_1 n_1 c_1]) :
    Calls Tryz.prog 92 #[.slice a_0 n_0 c_0, .slice a_1 n_1 c_1] w (fun en w' => en = .returned (.bool r) ∧ Ext [] w w') := by
  obtain rfl := rd_n g0
  obtain rfl := rd_n g1
  unfold laws_eqIntS at H
  refine f_enter (vs := [.slice a_0 p0.length c_0, .slice a_1 p1.length c_1]) Tryz.func92 rfl Tryz.ntmps92 rfl (St.init w []) ?_
  refine c_seq ?_
  refine c_reg ?_
  refine ow_batch [.p] rfl ?_
  refine ow_nil ?_
  refine x_qs ?_
  refine c_seq ?_
  refine c_seq ?_
  refine c_reg ?_
  refine ow_batch [.p, .lenS 59 3 sl59, .p, .lenS 59 3 sl59, .p] rfl ?_
  refine ow_nil ?_
  refine x_qs ?_
  refine c_if rfl (fun hb => ?_) (fun hb => ?_)
  · have H := of_if_t hb H
    refine c_seq ?_
    refine c_reg ?_
    refine ow_batch [.p] rfl ?_
    refine ow_nil ?_
    refine x_qs ?_
    refine c_ret ?_
    refine x_qs_ret ?_
    exact x_retR (rs := [.tmp 4]) (vs := [.bool false]) rfl ⟨rfl, trivial⟩ (fun w' hw' => by
        obtain rfl := of_some H
        exact ⟨rfl, hw'.ext⟩)
  · have H := of_if_f hb H
    refine c_skip ?_
    refine x_qs ?_
    refine c_seq ?_
    refine c_seq ?_
    refine c_reg ?_
    refine ow_batch [.p] rfl ?_
    refine ow_nil ?_
    refine x_qs ?_
    refine c_block ?_
    refine CW.at (loopI1 (fun (i15 : Int) => St w [] []) (fun (i15 : Int) => [(0, .slice a_0 p0.length c_0), (1, .slice a_1 p1.length c_1), (5, .int .i64 i15)]) (fun kk => fun (i15 : Int) => laws_eqIntS_L1 p0 p1 kk i15 = some r) (fun _ H => ?_) (fun k1 ihk1 i15 H => ?_) Fuel (0) (H)) (fun _ h => St.sel [] rfl rfl h) ⟨rfl, rfl, rfl,  trivial⟩
    · unfold laws_eqIntS_L1 at H
      exact absurd H (by simp)
    · unfold laws_eqIntS_L1 at H
      refine c_seq ?_
      refine c_seq ?_
      refine c_reg ?_
      refine ow_batch [.p, .p, .lenS 59 3 sl59, .p] rfl ?_
      refine ow_nil ?_
      refine x_qs ?_
      refine c_if rfl (fun hb => ?_) (fun hb => ?_)
      · have H := of_if_t hb H
        refine c_skip ?_
        refine x_qs ?_
        refine c_seq ?_
        refine c_block ?_
        refine c_seq ?_
        refine c_regQ mixed (by kernel_rfl) ?_
        refine ow_batch [.p, .p] rfl ?_
        obtain ⟨e21, h22, H⟩ := of_bind H
        refine ow_ixE (e := eVal (Value.int .i64) (fun _ => rfl)) (xs := p0) (j := i15) rfl rfl rfl rfl rfl sl59 ty3 rfl (fun w1 hw1 => rds_bor g0 w1 hw1) h22 (by rw [Nat.mul_one]) ?_
        refine ow_r rfl (dstOk_lt rfl) (ry_load1 rfl rfl ty3 (at_elV (fun w1 hw1 => rds_bor g0 w1 hw1) h22)) ?_
        refine ow_batch [.p, .p] rfl ?_
        obtain ⟨e23, h24, H⟩ := of_bind H
        refine ow_ixE (e := eVal (Value.int .i64) (fun _ => rfl)) (xs := p1) (j := i15) rfl rfl rfl rfl rfl sl59 ty3 rfl (fun w1 hw1 => rds_bor g1 w1 hw1) h24 (by rw [Nat.mul_one]) ?_
        refine ow_r rfl (dstOk_lt rfl) (ry_load1 rfl rfl ty3 (at_elV (fun w1 hw1 => rds_bor g1 w1 hw1) h24)) ?_
        refine ow_batch [.p] rfl ?_
        refine ow_nilQ ?_
        refine x_qs ?_
        refine c_if rfl (fun hb => ?_) (fun hb => ?_)
        · have H := of_if_t hb H
          refine c_seq ?_
          refine c_reg ?_
          refine ow_batch [.p] rfl ?_
          refine ow_nil ?_
          refine x_qs ?_
          refine c_ret ?_
          refine x_qb_ret ?_
          refine x_qs_ret ?_
          refine x_ql_ret ?_
          refine x_qb_ret ?_
          refine x_qs_ret ?_
          exact x_retR (rs := [.tmp 4]) (vs := [.bool false]) rfl ⟨rfl, trivial⟩ (fun w' hw' => by
              obtain rfl := of_some H
              exact ⟨rfl, hw'.ext⟩)
        · have H := of_if_f hb H
          refine c_skip ?_
          refine x_qb ?_
          refine x_qs ?_
          refine c_reg ?_
          refine ow_batch [.p, .p, .p] rfl ?_
          refine ow_nil ?_
          exact x_ql (RW.at (ihk1 (IntKind.i64.wrap (i15 + 1)) (H)) (fun _ h => St.sel [] rfl rfl h) ⟨rfl, rfl, rfl, trivial⟩)
      · have H := of_if_f hb H
        refine c_exit ?_
        refine x_qs_exit ?_
        refine x_ql_exit ?_
        refine x_qb_here ?_
        refine x_qs ?_
        refine c_seq ?_
        refine c_reg ?_
        refine ow_batch [.p] rfl ?_
        refine ow_nil ?_
        refine x_qs ?_
        refine c_ret ?_
        exact x_retR (rs := [.tmp 4]) (vs := [.bool true]) rfl ⟨rfl, trivial⟩ (fun w' hw' => by
            obtain rfl := of_some H
            exact ⟨rfl, hw'.ext⟩)
set_option maxHeartbeats 4000000 in
set_option maxRecDepth 100000 in
theorem laws_eqStringS_ok (w : World) {p0 : List (List UInt8)} {p1 : List (List UInt8)} {a_0 : Option Addr} {n_0 c_0 : Nat} {a_1 : Option Addr} {n_1 c_1 : Nat} {r : Bool} (H : laws_eqStringS p0 p1 = some r)  (g0 : (eList (eStr) 9).rd w [] p0 [.slice a_0 n_0 c_0]) (g1 : (eList (eStr) 9).rd w [] p1 [.slice a_1 n_1 c_1]) :
    Calls Tryz.prog 66 #[.slice a_0 n_0 c_0, .slice a_1 n_1 c_1] w (fun en w' => en = .returned (.bool r) ∧ Ext [] w w') := by
  obtain rfl := rd_n g0
  obtain rfl := rd_n g1
  unfold laws_eqStringS at H
  refine f_enter (vs := [.slice a_0 p0.length c_0, .slice a_1 p1.length c_1]) Tryz.func66 rfl Tryz.ntmps66 rfl (St.init w []) ?_
  refine c_seq ?_
  refine c_reg ?_
  refine ow_batch [.p] rfl ?_
  refine ow_nil ?_
  refine x_qs ?_
  refine c_seq ?_
  refine c_seq ?_
  refine c_reg ?_
  refine ow_batch [.p, .lenS 23 9 sl23, .p, .lenS 23 9 sl23, .p] rfl ?_
  refine ow_nil ?_
  refine x_qs ?_
  refine c_if rfl (fun hb => ?_) (fun hb => ?_)
  · have H := of_if_t hb H
    refine c_seq ?_
    refine c_reg ?_
    refine ow_batch [.p] rfl ?_
    refine ow_nil ?_
    refine x_qs ?_
    refine c_ret ?_
    refine x_qs_ret ?_
    exact x_retR (rs := [.tmp 4]) (vs := [.bool false]) rfl ⟨rfl, trivial⟩ (fun w' hw' => by
        obtain rfl := of_some H
        exact ⟨rfl, hw'.ext⟩)
  · have H := of_if_f hb H
    refine c_skip ?_
    refine x_qs ?_
    refine c_seq ?_
    refine c_seq ?_
    refine c_reg ?_
    refine ow_batch [.p] rfl ?_
    refine ow_nil ?_
    refine x_qs ?_
    refine c_block ?_
    refine CW.at (loopI1 (fun (i15 : Int) => St w [] []) (fun (i15 : Int) => [(0, .slice a_0 p0.length c_0), (1, .slice a_1 p1.length c_1), (5, .int .i64 i15)]) (fun kk => fun (i15 : Int) => laws_eqStringS_L1 p0 p1 kk i15 = some r) (fun _ H => ?_) (fun k1 ihk1 i15 H => ?_) Fuel (0) (H)) (fun _ h => St.sel [] rfl rfl h) ⟨rfl, rfl, rfl,  trivial⟩
    · unfold laws_eqStringS_L1 at H
      exact absurd H (by simp)
    · unfold laws_eqStringS_L1 at H
      refine c_seq ?_
      refine c_seq ?_
      refine c_reg ?_
      refine ow_batch [.p, .p, .lenS 23 9 sl23, .p] rfl ?_
      refine ow_nil ?_
      refine x_qs ?_
      refine c_if rfl (fun hb => ?_) (fun hb => ?_)
      · have H := of_if_t hb H
        refine c_skip ?_
        refine x_qs ?_
        refine c_seq ?_
        refine c_block ?_
        refine c_seq ?_
        refine c_regQ mixed (by kernel_rfl) ?_
        refine ow_batch [.p, .p] rfl ?_
        obtain ⟨e21, h22, H⟩ := of_bind H
        refine ow_ixE (e := eStr) (xs := p0) (j := i15) rfl rfl rfl rfl rfl sl23 ty9 rfl (fun w1 hw1 => rds_bor g0 w1 hw1) h22 (by rw [Nat.mul_one]) ?_
        refine ow_r rfl (dstOk_lt rfl) (ry_load1 rfl rfl ty9 (at_elV (fun w1 hw1 => rds_bor g0 w1 hw1) h22)) ?_
        refine ow_batch [.p, .p] rfl ?_
        obtain ⟨e23, h24, H⟩ := of_bind H
        refine ow_ixE (e := eStr) (xs := p1) (j := i15) rfl rfl rfl rfl rfl sl23 ty9 rfl (fun w1 hw1 => rds_bor g1 w1 hw1) h24 (by rw [Nat.mul_one]) ?_
        refine ow_r rfl (dstOk_lt rfl) (ry_load1 rfl rfl ty9 (at_elV (fun w1 hw1 => rds_bor g1 w1 hw1) h24)) ?_
        refine ow_batch [.p] rfl ?_
        refine ow_nilQ ?_
        refine x_qs ?_
        refine c_if rfl (fun hb => ?_) (fun hb => ?_)
        · have H := of_if_t hb H
          refine c_seq ?_
          refine c_reg ?_
          refine ow_batch [.p] rfl ?_
          refine ow_nil ?_
          refine x_qs ?_
          refine c_ret ?_
          refine x_qb_ret ?_
          refine x_qs_ret ?_
          refine x_ql_ret ?_
          refine x_qb_ret ?_
          refine x_qs_ret ?_
          exact x_retR (rs := [.tmp 4]) (vs := [.bool false]) rfl ⟨rfl, trivial⟩ (fun w' hw' => by
              obtain rfl := of_some H
              exact ⟨rfl, hw'.ext⟩)
        · have H := of_if_f hb H
          refine c_skip ?_
          refine x_qb ?_
          refine x_qs ?_
          refine c_reg ?_
          refine ow_batch [.p, .p, .p] rfl ?_
          refine ow_nil ?_
          exact x_ql (RW.at (ihk1 (IntKind.i64.wrap (i15 + 1)) (H)) (fun _ h => St.sel [] rfl rfl h) ⟨rfl, rfl, rfl, trivial⟩)
      · have H := of_if_f hb H
        refine c_exit ?_
        refine x_qs_exit ?_
        refine x_ql_exit ?_
        refine x_qb_here ?_
        refine x_qs ?_
        refine c_seq ?_
        refine c_reg ?_
        refine ow_batch [.p] rfl ?_
        refine ow_nil ?_
        refine x_qs ?_
        refine c_ret ?_
        exact x_retR (rs := [.tmp 4]) (vs := [.bool true]) rfl ⟨rfl, trivial⟩ (fun w' hw' => by
            obtain rfl := of_some H
            exact ⟨rfl, hw'.ext⟩)
set_option maxHeartbeats 4000000 in
set_option maxRecDepth 100000 in
theorem laws_eqAttr_ok (w : World) {p0 : Timpl_Attr} {p1 : Timpl_Attr} {cs0 : List Value} {cs1 : List Value} {r : Bool} (H : laws_eqAttr p0 p1 = some r)  (g0 : (eTimpl_Attr).rd w [] p0 cs0) (g1 : (eTimpl_Attr).rd w [] p1 cs1) :
    Calls Tryz.prog 140 #[.agg cs0.toArray, .agg cs1.toArray] w (fun en w' => en = .returned (.bool r) ∧ Ext [] w w') := by
  obtain ⟨c10, c11, c12, rfl, g13, g14, g15⟩ := rdo_Timpl_Attr g0
  obtain rfl : c10 = [vS p0.Name_] := g13
  obtain ⟨a16, c17, rfl⟩ := rd_sl1 g14
  obtain ⟨a18, c19, rfl⟩ := rd_sl1 g15
  obtain ⟨c20, c21, c22, rfl, g23, g24, g25⟩ := rdo_Timpl_Attr g1
  obtain rfl : c20 = [vS p1.Name_] := g23
  obtain ⟨a26, c27, rfl⟩ := rd_sl1 g24
  obtain ⟨a28, c29, rfl⟩ := rd_sl1 g25
  unfold laws_eqAttr at H
  refine f_enter (vs := [.agg #[vS p0.Name_, .slice a16 p0.Cuts_.length c17, .slice a18 p0.Values_.length c19], .agg #[vS p1.Name_, .slice a26 p1.Cuts_.length c27, .slice a28 p1.Values_.length c29]]) Tryz.func140 rfl Tryz.ntmps140 rfl (St.init w []) ?_
  refine c_seq ?_
  refine c_reg ?_
  refine ow_box (cs := [vS p0.Name_, .slice a16 p0.Cuts_.length c17, .slice a18 p0.Values_.length c19]) rfl rfl rfl rfl rfl rfl (fun _ => kp) (fun b30 => ?_)
  refine ow_box (cs := [vS p1.Name_, .slice a26 p1.Cuts_.length c27, .slice a28 p1.Values_.length c29]) rfl rfl rfl rfl rfl rfl (fun _ => kp) (fun b31 => ?_)
  refine ow_batch [.p] rfl ?_
  refine ow_nil ?_
  refine x_qs ?_
  refine c_seq ?_
  refine c_seq ?_
  refine c_reg ?_
  refine ow_batch [.fa 114 0 0 fa114_0] rfl ?_
  refine ow_r rfl (dstOk_lt rfl) (ry_box1 (off := 0) rfl rfl ty9 (boxIn (i := 0) rfl) rfl) ?_
  refine ow_batch [.fa 114 0 0 fa114_0] rfl ?_
  refine ow_r rfl (dstOk_lt rfl) (ry_box1 (off := 0) rfl rfl ty9 (boxIn (i := 1) rfl) rfl) ?_
  refine ow_batch [.p] rfl ?_
  refine ow_nil ?_
  refine x_qs ?_
  refine c_if rfl (fun hb => ?_) (fun hb => ?_)
  · have H := of_if_t hb H
    refine c_seq ?_
    refine c_reg ?_
    refine ow_batch [.p] rfl ?_
    refine ow_nil ?_
    refine x_qs ?_
    refine c_ret ?_
    refine x_qs_ret ?_
    exact x_retR (rs := [.tmp 4]) (vs := [.bool false]) rfl ⟨rfl, trivial⟩ (fun w' hw' => by
        obtain rfl := of_some H
        exact ⟨rfl, hw'.ext⟩)
  · have H := of_if_f hb H
    refine c_skip ?_
    refine x_qs ?_
    refine c_seq ?_
    refine c_seq ?_
    refine c_reg ?_
    refine ow_batch [.fa 114 1 1 fa114_1] rfl ?_
    refine ow_r rfl (dstOk_lt rfl) (ry_box1 (off := 1) rfl rfl ty59 (boxIn (i := 0) rfl) rfl) ?_
    refine ow_batch [.fa 114 1 1 fa114_1] rfl ?_
    refine ow_r rfl (dstOk_lt rfl) (ry_box1 (off := 1) rfl rfl ty59 (boxIn (i := 1) rfl) rfl) ?_
    obtain ⟨y32, h33, H⟩ := of_bind H
    refine ow_q rfl rfl (dstOk_lt rfl) (qy_call rfl fn92 rfl (fun w1 hw1 => laws_eqIntS_ok w1  h33 (rds_bor g14 w1 hw1) (rds_bor g24 w1 hw1))) (fun _ _ => trivial) ?_
    refine ow_batch [.p] rfl ?_
    refine ow_nil ?_
    refine x_qs ?_
    refine c_if rfl (fun hb => ?_) (fun hb => ?_)
    · have H := of_if_t hb H
      refine c_seq ?_
      refine c_reg ?_
      refine ow_batch [.p] rfl ?_
      refine ow_nil ?_
      refine x_qs ?_
      refine c_ret ?_
      refine x_qs_ret ?_
      exact x_retR (rs := [.tmp 4]) (vs := [.bool false]) rfl ⟨rfl, trivial⟩ (fun w' hw' => by
          obtain rfl := of_some H
          exact ⟨rfl, hw'.ext⟩)
    · have H := of_if_f hb H
      refine c_skip ?_
      refine x_qs ?_
      refine c_seq ?_
      refine c_seq ?_
      refine c_reg ?_
      refine ow_batch [.fa 114 2 2 fa114_2] rfl ?_
      refine ow_r rfl (dstOk_lt rfl) (ry_box1 (off := 2) rfl rfl ty23 (boxIn (i := 0) rfl) rfl) ?_
      refine ow_batch [.fa 114 2 2 fa114_2] rfl ?_
      refine ow_r rfl (dstOk_lt rfl) (ry_box1 (off := 2) rfl rfl ty23 (boxIn (i := 1) rfl) rfl) ?_
      obtain ⟨y34, h35, H⟩ := of_bind H
      refine ow_q rfl rfl (dstOk_lt rfl) (qy_call rfl fn66 rfl (fun w1 hw1 => laws_eqStringS_ok w1  h35 (rds_bor g15 w1 hw1) (rds_bor g25 w1 hw1))) (fun _ _ => trivial) ?_
      refine ow_batch [.p] rfl ?_
      refine ow_nil ?_
      refine x_qs ?_
      refine c_if rfl (fun hb => ?_) (fun hb => ?_)
      · have H := of_if_t hb H
        refine c_seq ?_
        refine c_reg ?_
        refine ow_batch [.p] rfl ?_
        refine ow_nil ?_
        refine x_qs ?_
        refine c_ret ?_
        refine x_qs_ret ?_
        exact x_retR (rs := [.tmp 4]) (vs := [.bool false]) rfl ⟨rfl, trivial⟩ (fun w' hw' => by
            obtain rfl := of_some H
            exact ⟨rfl, hw'.ext⟩)
      · have H := of_if_f hb H
        refine c_skip ?_
        refine x_qs ?_
        refine c_seq ?_
        refine c_reg ?_
        refine ow_batch [.p] rfl ?_
        refine ow_nil ?_
        refine x_qs ?_
        refine c_ret ?_
        exact x_retR (rs := [.tmp 4]) (vs := [.bool true]) rfl ⟨rfl, trivial⟩ (fun w' hw' => by
            obtain rfl := of_some H
            exact ⟨rfl, hw'.ext⟩)
set_option maxHeartbeats 4000000 in
set_option maxRecDepth 100000 in
theorem laws_eqAttrS_ok (w : World) {p0 : List Timpl_Attr} {p1 : List Timpl_Attr} {a_0 : Option Addr} {n_0 c_0 : Nat} {a_1 : Option Addr} {n_1 c_1 : Nat} {r : Bool} (H : laws_eqAttrS p0 p1 = some r)  (g0 : (eList (eTimpl_Attr) 114).rd w [] p0 [.slice a_0 n_0 c_0]) (g1 : (eList (eTimpl_Attr) 114).rd w [] p1 [.slice a_1 n_1 c_1]) :
    Calls Tryz.prog 65 #[.slice a_0 n_0 c_0, .slice a_1 n_1 c_1] w (fun en w' => en = .returned (.bool r) ∧ Ext [] w w') := by
  obtain rfl := rd_n g0
  obtain rfl := rd_n g1
  unfold laws_eqAttrS at H
  refine f_enter (vs := [.slice a_0 p0.length c_0, .slice a_1 p1.length c_1]) Tryz.func65 rfl Tryz.ntmps65 rfl (St.init w []) ?_
  refine c_seq ?_
  refine c_reg ?_
  refine ow_batch [.p] rfl ?_
  refine ow_nil ?_
  refine x_qs ?_
  refine c_seq ?_
  refine c_seq ?_
  refine c_reg ?_
  refine ow_batch [.p, .lenS 33 114 sl33, .p, .lenS 33 114 sl33, .p] rfl ?_
  refine ow_nil ?_
  refine x_qs ?_
  refine c_if rfl (fun hb => ?_) (fun hb => ?_)
  · have H := of_if_t hb H
    refine c_seq ?_
    refine c_reg ?_
    refine ow_batch [.p] rfl ?_
    refine ow_nil ?_
    refine x_qs ?_
    refine c_ret ?_
    refine x_qs_ret ?_
    exact x_retR (rs := [.tmp 4]) (vs := [.bool false]) rfl ⟨rfl, trivial⟩ (fun w' hw' => by
        obtain rfl := of_some H
        exact ⟨rfl, hw'.ext⟩)
  · have H := of_if_f hb H
    refine c_skip ?_
    refine x_qs ?_
    refine c_seq ?_
    refine c_seq ?_
    refine c_reg ?_
    refine ow_batch [.p] rfl ?_
    refine ow_nil ?_
    refine x_qs ?_
    refine c_block ?_
    refine CW.at (loopI1 (fun (i45 : Int) => St w [] []) (fun (i45 : Int) => [(0, .slice a_0 p0.length c_0), (1, .slice a_1 p1.length c_1), (5, .int .i64 i45)]) (fun kk => fun (i45 : Int) => laws_eqAttrS_L1 p0 p1 kk i45 = some r) (fun _ H => ?_) (fun k1 ihk1 i45 H => ?_) Fuel (0) (H)) (fun _ h => St.sel [] rfl rfl h) ⟨rfl, rfl, rfl,  trivial⟩
    · unfold laws_eqAttrS_L1 at H
      exact absurd H (by simp)
    · unfold laws_eqAttrS_L1 at H
      refine c_seq ?_
      refine c_seq ?_
      refine c_reg ?_
      refine ow_batch [.p, .p, .lenS 33 114 sl33, .p] rfl ?_
      refine ow_nil ?_
      refine x_qs ?_
      refine c_if rfl (fun hb => ?_) (fun hb => ?_)
      · have H := of_if_t hb H
        refine c_skip ?_
        refine x_qs ?_
        refine c_seq ?_
        refine c_block ?_
        refine c_seq ?_
        refine c_regQ mixed (by kernel_rfl) ?_
        refine ow_batch [.p, .p] rfl ?_
        obtain ⟨e81, h82, H⟩ := of_bind H
        refine ow_ixB rfl rfl rfl rfl rfl sl33 ty114 rfl g0 h82 (fun q85 c86 hd83 hA84 => ?_)
        obtain ⟨c87, c88, c89, rfl, g90, g91, g92⟩ := rdo_Timpl_Attr hd83
        obtain rfl : c87 = [vS e81.Name_] := g90
        obtain ⟨a93, c94, rfl⟩ := rd_sl1 g91
        obtain ⟨a95, c96, rfl⟩ := rd_sl1 g92
        refine ow_r rfl (dstOk_lt rfl) (ry_load (cs := [vS e81.Name_, .slice a93 e81.Cuts_.length c94, .slice a95 e81.Values_.length c96]) rfl rfl ty114 (at_bor bor hA84) rfl) ?_
        refine ow_batch [.p, .p] rfl ?_
        obtain ⟨e97, h98, H⟩ := of_bind H
        refine ow_ixB rfl rfl rfl rfl rfl sl33 ty114 rfl g1 h98 (fun q101 c102 hd99 hA100 => ?_)
        obtain ⟨c103, c104, c105, rfl, g106, g107, g108⟩ := rdo_Timpl_Attr hd99
        obtain rfl : c103 = [vS e97.Name_] := g106
        obtain ⟨a109, c110, rfl⟩ := rd_sl1 g107
        obtain ⟨a111, c112, rfl⟩ := rd_sl1 g108
        refine ow_r rfl (dstOk_lt rfl) (ry_load (cs := [vS e97.Name_, .slice a109 e97.Cuts_.length c110, .slice a111 e97.Values_.length c112]) rfl rfl ty114 (at_bor bor hA100) rfl) ?_
        obtain ⟨y113, h114, H⟩ := of_bind H
        refine ow_q rfl rfl (dstOk_lt rfl) (qy_call rfl fn140 rfl (fun w1 hw1 => laws_eqAttr_ok w1 (cs0 := [vS e81.Name_, .slice a93 e81.Cuts_.length c94, .slice a95 e81.Values_.length c96]) (cs1 := [vS e97.Name_, .slice a109 e97.Cuts_.length c110, .slice a111 e97.Values_.length c112]) h114 (rdm_Timpl_Attr (x := e81) (c0 := [vS e81.Name_]) (c1 := [.slice a93 e81.Cuts_.length c94]) (c2 := [.slice a95 e81.Values_.length c96]) rfl (rds_bor g91 w1 hw1) (rds_bor g92 w1 hw1)) (rdm_Timpl_Attr (x := e97) (c0 := [vS e97.Name_]) (c1 := [.slice a109 e97.Cuts_.length c110]) (c2 := [.slice a111 e97.Values_.length c112]) rfl (rds_bor g107 w1 hw1) (rds_bor g108 w1 hw1)))) (fun _ _ => trivial) ?_
        refine ow_batch [.p] rfl ?_
        refine ow_nilQ ?_
        refine x_qs ?_
        refine c_if rfl (fun hb => ?_) (fun hb => ?_)
        · have H := of_if_t hb H
          refine c_seq ?_
          refine c_reg ?_
          refine ow_batch [.p] rfl ?_
          refine ow_nil ?_
          refine x_qs ?_
          refine c_ret ?_
          refine x_qb_ret ?_
          refine x_qs_ret ?_
          refine x_ql_ret ?_
          refine x_qb_ret ?_
          refine x_qs_ret ?_
          exact x_retR (rs := [.tmp 4]) (vs := [.bool false]) rfl ⟨rfl, trivial⟩ (fun w' hw' => by
              obtain rfl := of_some H
              exact ⟨rfl, hw'.ext⟩)
        · have H := of_if_f hb H
          refine c_skip ?_
          refine x_qb ?_
          refine x_qs ?_
          refine c_reg ?_
          refine ow_batch [.p, .p, .p] rfl ?_
          refine ow_nil ?_
          exact x_ql (RW.at (ihk1 (IntKind.i64.wrap (i45 + 1)) (H)) (fun _ h => St.sel [] rfl rfl h) ⟨rfl, rfl, rfl, trivial⟩)
      · have H := of_if_f hb H
        refine c_exit ?_
        refine x_qs_exit ?_
        refine x_ql_exit ?_
        refine x_qb_here ?_
        refine x_qs ?_
        refine c_seq ?_
        refine c_reg ?_
        refine ow_batch [.p] rfl ?_
        refine ow_nil ?_
        refine x_qs ?_
        refine c_ret ?_
        exact x_retR (rs := [.tmp 4]) (vs := [.bool true]) rfl ⟨rfl, trivial⟩ (fun w' hw' => by
            obtain rfl := of_some H
            exact ⟨rfl, hw'.ext⟩)
set_option maxHeartbeats 4000000 in
set_option maxRecDepth 100000 in
theorem laws_eqSchema_ok (w : World) {p0 : Timpl_Schema} {p1 : Timpl_Schema} {cs0 : List Value} {cs1 : List Value} {r : Bool} (H : laws_eqSchema p0 p1 = some r)  (g0 : (eTimpl_Schema).rd w [] p0 cs0) (g1 : (eTimpl_Schema).rd w [] p1 cs1) :
    Calls Tryz.prog 15 #[.agg cs0.toArray, .agg cs1.toArray] w (fun en w' => en = .returned (.bool r) ∧ Ext [] w w') := by
  obtain ⟨c10, c11, rfl, g12, g13⟩ := rdo_Timpl_Schema g0
  obtain ⟨a14, c15, rfl⟩ := rd_sl1 g12
  obtain ⟨a16, c17, rfl⟩ := rd_sl1 g13
  obtain ⟨c18, c19, rfl, g20, g21⟩ := rdo_Timpl_Schema g1
  obtain ⟨a22, c23, rfl⟩ := rd_sl1 g20
  obtain ⟨a24, c25, rfl⟩ := rd_sl1 g21
  unfold laws_eqSchema at H
  refine f_enter (vs := [.agg #[.slice a14 p0.Attrs_.length c15, .slice a16 p0.Classes_.length c17], .agg #[.slice a22 p1.Attrs_.length c23, .slice a24 p1.Classes_.length c25]]) Tryz.func15 rfl Tryz.ntmps15 rfl (St.init w []) ?_
  refine c_seq ?_
  refine c_reg ?_
  refine ow_box (cs := [.slice a14 p0.Attrs_.length c15, .slice a16 p0.Classes_.length c17]) rfl rfl rfl rfl rfl rfl (fun _ => kp) (fun b26 => ?_)
  refine ow_box (cs := [.slice a22 p1.Attrs_.length c23, .slice a24 p1.Classes_.length c25]) rfl rfl rfl rfl rfl rfl (fun _ => kp) (fun b27 => ?_)
  refine ow_batch [.p] rfl ?_
  refine ow_nil ?_
  refine x_qs ?_
  refine c_seq ?_
  refine c_seq ?_
  refine c_reg ?_
  refine ow_batch [.fa 35 0 0 fa35_0] rfl ?_
  refine ow_r rfl (dstOk_lt rfl) (ry_box1 (off := 0) rfl rfl ty33 (boxIn (i := 0) rfl) rfl) ?_
  refine ow_batch [.fa 35 0 0 fa35_0] rfl ?_
  refine ow_r rfl (dstOk_lt rfl) (ry_box1 (off := 0) rfl rfl ty33 (boxIn (i := 1) rfl) rfl) ?_
  obtain ⟨y28, h29, H⟩ := of_bind H
  refine ow_q rfl rfl (dstOk_lt rfl) (qy_call rfl fn65 rfl (fun w1 hw1 => laws_eqAttrS_ok w1  h29 (rds_bor g12 w1 hw1) (rds_bor g20 w1 hw1))) (fun _ _ => trivial) ?_
  refine ow_batch [.p] rfl ?_
  refine ow_nil ?_
  refine x_qs ?_
  refine c_if rfl (fun hb => ?_) (fun hb => ?_)
  · have H := of_if_t hb H
    refine c_seq ?_
    refine c_reg ?_
    refine ow_batch [.p] rfl ?_
    refine ow_nil ?_
    refine x_qs ?_
    refine c_ret ?_
    refine x_qs_ret ?_
    exact x_retR (rs := [.tmp 4]) (vs := [.bool false]) rfl ⟨rfl, trivial⟩ (fun w' hw' => by
        obtain rfl := of_some H
        exact ⟨rfl, hw'.ext⟩)
  · have H := of_if_f hb H
    refine c_skip ?_
    refine x_qs ?_
    refine c_seq ?_
    refine c_seq ?_
    refine c_reg ?_
    refine ow_batch [.fa 35 1 1 fa35_1] rfl ?_
    refine ow_r rfl (dstOk_lt rfl) (ry_box1 (off := 1) rfl rfl ty23 (boxIn (i := 0) rfl) rfl) ?_
    refine ow_batch [.fa 35 1 1 fa35_1] rfl ?_
    refine ow_r rfl (dstOk_lt rfl) (ry_box1 (off := 1) rfl rfl ty23 (boxIn (i := 1) rfl) rfl) ?_
    obtain ⟨y30, h31, H⟩ := of_bind H
    refine ow_q rfl rfl (dstOk_lt rfl) (qy_call rfl fn66 rfl (fun w1 hw1 => laws_eqStringS_ok w1  h31 (rds_bor g13 w1 hw1) (rds_bor g21 w1 hw1))) (fun _ _ => trivial) ?_
    refine ow_batch [.p] rfl ?_
    refine ow_nil ?_
    refine x_qs ?_
    refine c_if rfl (fun hb => ?_) (fun hb => ?_)
    · have H := of_if_t hb H
      refine c_seq ?_
      refine c_reg ?_
      refine ow_batch [.p] rfl ?_
      refine ow_nil ?_
      refine x_qs ?_
      refine c_ret ?_
      refine x_qs_ret ?_
      exact x_retR (rs := [.tmp 4]) (vs := [.bool false]) rfl ⟨rfl, trivial⟩ (fun w' hw' => by
          obtain rfl := of_some H
          exact ⟨rfl, hw'.ext⟩)
    · have H := of_if_f hb H
      refine c_skip ?_
      refine x_qs ?_
      refine c_seq ?_
      refine c_reg ?_
      refine ow_batch [.p] rfl ?_
      refine ow_nil ?_
      refine x_qs ?_
      refine c_ret ?_
      exact x_retR (rs := [.tmp 4]) (vs := [.bool true]) rfl ⟨rfl, trivial⟩ (fun w' hw' => by
          obtain rfl := of_some H
          exact ⟨rfl, hw'.ext⟩)
set_option maxHeartbeats 4000000 in
set_option maxRecDepth 100000 in
theorem laws_eqFork_ok (w : World) {p0 : Timpl_Fork} {p1 : Timpl_Fork}  {r : Bool} (H : laws_eqFork p0 p1 = some r)   :
    Calls Tryz.prog 212 #[.agg #[.int .i64 p0.Attr_, .int .i64 p0.At_], .agg #[.int .i64 p1.Attr_, .int .i64 p1.At_]] w (fun en w' => en = .returned (.bool r) ∧ Ext [] w w') := by
  unfold laws_eqFork at H
  refine f_enter (vs := [.agg #[.int .i64 p0.Attr_, .int .i64 p0.At_], .agg #[.int .i64 p1.Attr_, .int .i64 p1.At_]]) Tryz.func212 rfl Tryz.ntmps212 rfl (St.init w []) ?_
  refine c_seq ?_
  refine c_reg ?_
  refine ow_box (cs := [.int .i64 p0.Attr_, .int .i64 p0.At_]) rfl rfl rfl rfl rfl rfl (fun _ => kp) (fun b10 => ?_)
  refine ow_box (cs := [.int .i64 p1.Attr_, .int .i64 p1.At_]) rfl rfl rfl rfl rfl rfl (fun _ => kp) (fun b11 => ?_)
  refine ow_batch [.p] rfl ?_
  refine ow_nil ?_
  refine x_qs ?_
  refine c_seq ?_
  refine c_seq ?_
  refine c_reg ?_
  refine ow_batch [.fa 116 0 0 fa116_0] rfl ?_
  refine ow_r rfl (dstOk_lt rfl) (ry_box1 (off := 0) rfl rfl ty3 (boxIn (i := 0) rfl) rfl) ?_
  refine ow_batch [.fa 116 0 0 fa116_0] rfl ?_
  refine ow_r rfl (dstOk_lt rfl) (ry_box1 (off := 0) rfl rfl ty3 (boxIn (i := 1) rfl) rfl) ?_
  refine ow_batch [.p] rfl ?_
  refine ow_nil ?_
  refine x_qs ?_
  refine c_if rfl (fun hb => ?_) (fun hb => ?_)
  · have H := of_if_t hb H
    refine c_seq ?_
    refine c_reg ?_
    refine ow_batch [.p] rfl ?_
    refine ow_nil ?_
    refine x_qs ?_
    refine c_ret ?_
    refine x_qs_ret ?_
    exact x_retR (rs := [.tmp 4]) (vs := [.bool false]) rfl ⟨rfl, trivial⟩ (fun w' hw' => by
        obtain rfl := of_some H
        exact ⟨rfl, hw'.ext⟩)
  · have H := of_if_f hb H
    refine c_skip ?_
    refine x_qs ?_
    refine c_seq ?_
    refine c_seq ?_
    refine c_reg ?_
    refine ow_batch [.fa 116 1 1 fa116_1] rfl ?_
    refine ow_r rfl (dstOk_lt rfl) (ry_box1 (off := 1) rfl rfl ty3 (boxIn (i := 0) rfl) rfl) ?_
    refine ow_batch [.fa 116 1 1 fa116_1] rfl ?_
    refine ow_r rfl (dstOk_lt rfl) (ry_box1 (off := 1) rfl rfl ty3 (boxIn (i := 1) rfl) rfl) ?_
    refine ow_batch [.p] rfl ?_
    refine ow_nil ?_
    refine x_qs ?_
    refine c_if rfl (fun hb => ?_) (fun hb => ?_)
    · have H := of_if_t hb H
      refine c_seq ?_
      refine c_reg ?_
      refine ow_batch [.p] rfl ?_
      refine ow_nil ?_
      refine x_qs ?_
      refine c_ret ?_
      refine x_qs_ret ?_
      exact x_retR (rs := [.tmp 4]) (vs := [.bool false]) rfl ⟨rfl, trivial⟩ (fun w' hw' => by
          obtain rfl := of_some H
          exact ⟨rfl, hw'.ext⟩)
    · have H := of_if_f hb H
      refine c_skip ?_
      refine x_qs ?_
      refine c_seq ?_
      refine c_reg ?_
      refine ow_batch [.p] rfl ?_
      refine ow_nil ?_
      refine x_qs ?_
      refine c_ret ?_
      exact x_retR (rs := [.tmp 4]) (vs := [.bool true]) rfl ⟨rfl, trivial⟩ (fun w' hw' => by
          obtain rfl := of_some H
          exact ⟨rfl, hw'.ext⟩)
set_option maxHeartbeats 4000000 in
set_option maxRecDepth 100000 in
theorem laws_eqIntSS_ok (w : World) {p0 : List (List Int)} {p1 : List (List Int)} {a_0 : Option Addr} {n_0 c_0 : Nat} {a_1 : Option Addr} {n_1 c_1 : Nat} {r : Bool} (H : laws_eqIntSS p0 p1 = some r)  (g0 : (eList (eList (eVal (Value.int .i64) (fun _ => rfl)) 3) 59).rd w [] p0 [.slice a_0 n_0 c_0]) (g1 : (eList (eList (eVal (Value.int .i64) (fun _ => rfl)) 3) 59).rd w [] p1 [.slice a_1 n_1 c_1]) :
    Calls Tryz.prog 93 #[.slice a_0 n_0 c_0, .slice a_1 n_1 c_1] w (fun en w' => en = .returned (.bool r) ∧ Ext [] w w') := by
  obtain rfl := rd_n g0
  obtain rfl := rd_n g1
  unfold laws_eqIntSS at H
  refine f_enter (vs := [.slice a_0 p0.length c_0, .slice a_1 p1.length c_1]) Tryz.func93 rfl Tryz.ntmps93 rfl (St.init w []) ?_
  refine c_seq ?_
  refine c_reg ?_
  refine ow_batch [.p] rfl ?_
  refine ow_nil ?_
  refine x_qs ?_
  refine c_seq ?_
  refine c_seq ?_
  refine c_reg ?_
  refine ow_batch [.p, .lenS 60 59 sl60, .p, .lenS 60 59 sl60, .p] rfl ?_
  refine ow_nil ?_
  refine x_qs ?_
  refine c_if rfl (fun hb => ?_) (fun hb => ?_)
  · have H := of_if_t hb H
    refine c_seq ?_
    refine c_reg ?_
    refine ow_batch [.p] rfl ?_
    refine ow_nil ?_
    refine x_qs ?_
    refine c_ret ?_
    refine x_qs_ret ?_
    exact x_retR (rs := [.tmp 4]) (vs := [.bool false]) rfl ⟨rfl, trivial⟩ (fun w' hw' => by
        obtain rfl := of_some H
        exact ⟨rfl, hw'.ext⟩)
  · have H := of_if_f hb H
    refine c_skip ?_
    refine x_qs ?_
    refine c_seq ?_
    refine c_seq ?_
    refine c_reg ?_
    refine ow_batch [.p] rfl ?_
    refine ow_nil ?_
    refine x_qs ?_
    refine c_block ?_
    refine CW.at (loopI1 (fun (i29 : Int) => St w [] []) (fun (i29 : Int) => [(0, .slice a_0 p0.length c_0), (1, .slice a_1 p1.length c_1), (5, .int .i64 i29)]) (fun kk => fun (i29 : Int) => laws_eqIntSS_L1 p0 p1 kk i29 = some r) (fun _ H => ?_) (fun k1 ihk1 i29 H => ?_) Fuel (0) (H)) (fun _ h => St.sel [] rfl rfl h) ⟨rfl, rfl, rfl,  trivial⟩
    · unfold laws_eqIntSS_L1 at H
      exact absurd H (by simp)
    · unfold laws_eqIntSS_L1 at H
      refine c_seq ?_
      refine c_seq ?_
      refine c_reg ?_
      refine ow_batch [.p, .p, .lenS 60 59 sl60, .p] rfl ?_
      refine ow_nil ?_
      refine x_qs ?_
      refine c_if rfl (fun hb => ?_) (fun hb => ?_)
      · have H := of_if_t hb H
        refine c_skip ?_
        refine x_qs ?_
        refine c_seq ?_
        refine c_block ?_
        refine c_seq ?_
        refine c_regQ mixed (by kernel_rfl) ?_
        refine ow_batch [.p, .p] rfl ?_
        obtain ⟨e49, h50, H⟩ := of_bind H
        refine ow_ixB rfl rfl rfl rfl rfl sl60 ty59 rfl g0 h50 (fun q53 c54 hd51 hA52 => ?_)
        obtain ⟨a55, c56, rfl⟩ := rd_sl1 hd51
        refine ow_r rfl (dstOk_lt rfl) (ry_load1 rfl rfl ty59 (at_bor bor hA52)) ?_
        refine ow_batch [.p, .p] rfl ?_
        obtain ⟨e57, h58, H⟩ := of_bind H
        refine ow_ixB rfl rfl rfl rfl rfl sl60 ty59 rfl g1 h58 (fun q61 c62 hd59 hA60 => ?_)
        obtain ⟨a63, c64, rfl⟩ := rd_sl1 hd59
        refine ow_r rfl (dstOk_lt rfl) (ry_load1 rfl rfl ty59 (at_bor bor hA60)) ?_
        obtain ⟨y65, h66, H⟩ := of_bind H
        refine ow_q rfl rfl (dstOk_lt rfl) (qy_call rfl fn92 rfl (fun w1 hw1 => laws_eqIntS_ok w1  h66 (rds_bor hd51 w1 hw1) (rds_bor hd59 w1 hw1))) (fun _ _ => trivial) ?_
        refine ow_batch [.p] rfl ?_
        refine ow_nilQ ?_
        refine x_qs ?_
        refine c_if rfl (fun hb => ?_) (fun hb => ?_)
        · have H := of_if_t hb H
          refine c_seq ?_
          refine c_reg ?_
          refine ow_batch [.p] rfl ?_
          refine ow_nil ?_
          refine x_qs ?_
          refine c_ret ?_
          refine x_qb_ret ?_
          refine x_qs_ret ?_
          refine x_ql_ret ?_
          refine x_qb_ret ?_
          refine x_qs_ret ?_
          exact x_retR (rs := [.tmp 4]) (vs := [.bool false]) rfl ⟨rfl, trivial⟩ (fun w' hw' => by
              obtain rfl := of_some H
              exact ⟨rfl, hw'.ext⟩)
        · have H := of_if_f hb H
          refine c_skip ?_
          refine x_qb ?_
          refine x_qs ?_
          refine c_reg ?_
          refine ow_batch [.p, .p, .p] rfl ?_
          refine ow_nil ?_
          exact x_ql (RW.at (ihk1 (IntKind.i64.wrap (i29 + 1)) (H)) (fun _ h => St.sel [] rfl rfl h) ⟨rfl, rfl, rfl, trivial⟩)
      · have H := of_if_f hb H
        refine c_exit ?_
        refine x_qs_exit ?_
        refine x_ql_exit ?_
        refine x_qb_here ?_
        refine x_qs ?_
        refine c_seq ?_
        refine c_reg ?_
        refine ow_batch [.p] rfl ?_
        refine ow_nil ?_
        refine x_qs ?_
        refine c_ret ?_
        exact x_retR (rs := [.tmp 4]) (vs := [.bool true]) rfl ⟨rfl, trivial⟩ (fun w' hw' => by
            obtain rfl := of_some H
            exact ⟨rfl, hw'.ext⟩)
set_option maxHeartbeats 4000000 in
set_option maxRecDepth 100000 in
theorem laws_eqStats_ok (w : World) {p0 : Timpl_Stats} {p1 : Timpl_Stats} {cs0 : List Value} {cs1 : List Value} {r : Bool} (H : laws_eqStats p0 p1 = some r)  (g0 : (eTimpl_Stats).rd w [] p0 cs0) (g1 : (eTimpl_Stats).rd w [] p1 cs1) :
    Calls Tryz.prog 29 #[.agg cs0.toArray, .agg cs1.toArray] w (fun en w' => en = .returned (.bool r) ∧ Ext [] w w') := by
  obtain ⟨c10, c11, rfl, g12, g13⟩ := rdo_Timpl_Stats g0
  obtain ⟨a14, c15, rfl⟩ := rd_sl1 g12
  obtain ⟨a16, c17, rfl⟩ := rd_sl1 g13
  obtain ⟨c18, c19, rfl, g20, g21⟩ := rdo_Timpl_Stats g1
  obtain ⟨a22, c23, rfl⟩ := rd_sl1 g20
  obtain ⟨a24, c25, rfl⟩ := rd_sl1 g21
  unfold laws_eqStats at H
  refine f_enter (vs := [.agg #[.slice a14 p0.Totals_.length c15, .slice a16 p0.Cells_.length c17], .agg #[.slice a22 p1.Totals_.length c23, .slice a24 p1.Cells_.length c25]]) Tryz.func29 rfl Tryz.ntmps29 rfl (St.init w []) ?_
  refine c_seq ?_
  refine c_reg ?_
  refine ow_box (cs := [.slice a14 p0.Totals_.length c15, .slice a16 p0.Cells_.length c17]) rfl rfl rfl rfl rfl rfl (fun _ => kp) (fun b26 => ?_)
  refine ow_box (cs := [.slice a22 p1.Totals_.length c23, .slice a24 p1.Cells_.length c25]) rfl rfl rfl rfl rfl rfl (fun _ => kp) (fun b27 => ?_)
  refine ow_batch [.p] rfl ?_
  refine ow_nil ?_
  refine x_qs ?_
  refine c_seq ?_
  refine c_seq ?_
  refine c_reg ?_
  refine ow_batch [.fa 62 0 0 fa62_0] rfl ?_
  refine ow_r rfl (dstOk_lt rfl) (ry_box1 (off := 0) rfl rfl ty59 (boxIn (i := 0) rfl) rfl) ?_
  refine ow_batch [.fa 62 0 0 fa62_0] rfl ?_
  refine ow_r rfl (dstOk_lt rfl) (ry_box1 (off := 0) rfl rfl ty59 (boxIn (i := 1) rfl) rfl) ?_
  obtain ⟨y28, h29, H⟩ := of_bind H
  refine ow_q rfl rfl (dstOk_lt rfl) (qy_call rfl fn92 rfl (fun w1 hw1 => laws_eqIntS_ok w1  h29 (rds_bor g12 w1 hw1) (rds_bor g20 w1 hw1))) (fun _ _ => trivial) ?_
  refine ow_batch [.p] rfl ?_
  refine ow_nil ?_
  refine x_qs ?_
  refine c_if rfl (fun hb => ?_) (fun hb => ?_)
  · have H := of_if_t hb H
    refine c_seq ?_
    refine c_reg ?_
    refine ow_batch [.p] rfl ?_
    refine ow_nil ?_
    refine x_qs ?_
    refine c_ret ?_
    refine x_qs_ret ?_
    exact x_retR (rs := [.tmp 4]) (vs := [.bool false]) rfl ⟨rfl, trivial⟩ (fun w' hw' => by
        obtain rfl := of_some H
        exact ⟨rfl, hw'.ext⟩)
  · have H := of_if_f hb H
    refine c_skip ?_
    refine x_qs ?_
    refine c_seq ?_
    refine c_seq ?_
    refine c_reg ?_
    refine ow_batch [.fa 62 1 1 fa62_1] rfl ?_
    refine ow_r rfl (dstOk_lt rfl) (ry_box1 (off := 1) rfl rfl ty60 (boxIn (i := 0) rfl) rfl) ?_
    refine ow_batch [.fa 62 1 1 fa62_1] rfl ?_
    refine ow_r rfl (dstOk_lt rfl) (ry_box1 (off := 1) rfl rfl ty60 (boxIn (i := 1) rfl) rfl) ?_
    obtain ⟨y30, h31, H⟩ := of_bind H
    refine ow_q rfl rfl (dstOk_lt rfl) (qy_call rfl fn93 rfl (fun w1 hw1 => laws_eqIntSS_ok w1  h31 (rds_bor g13 w1 hw1) (rds_bor g21 w1 hw1))) (fun _ _ => trivial) ?_
    refine ow_batch [.p] rfl ?_
    refine ow_nil ?_
    refine x_qs ?_
    refine c_if rfl (fun hb => ?_) (fun hb => ?_)
    · have H := of_if_t hb H
      refine c_seq ?_
      refine c_reg ?_
      refine ow_batch [.p] rfl ?_
      refine ow_nil ?_
      refine x_qs ?_
      refine c_ret ?_
      refine x_qs_ret ?_
      exact x_retR (rs := [.tmp 4]) (vs := [.bool false]) rfl ⟨rfl, trivial⟩ (fun w' hw' => by
          obtain rfl := of_some H
          exact ⟨rfl, hw'.ext⟩)
    · have H := of_if_f hb H
      refine c_skip ?_
      refine x_qs ?_
      refine c_seq ?_
      refine c_reg ?_
      refine ow_batch [.p] rfl ?_
      refine ow_nil ?_
      refine x_qs ?_
      refine c_ret ?_
      exact x_retR (rs := [.tmp 4]) (vs := [.bool true]) rfl ⟨rfl, trivial⟩ (fun w' hw' => by
          obtain rfl := of_some H
          exact ⟨rfl, hw'.ext⟩)
set_option maxHeartbeats 4000000 in
set_option maxRecDepth 100000 in
theorem laws_eqNode_ok (w : World) {p0 : Timpl_Node} {p1 : Timpl_Node} {cs0 : List Value} {cs1 : List Value} {r : Bool} (H : laws_eqNode p0 p1 = some r)  (g0 : (eTimpl_Node).rd w [] p0 cs0) (g1 : (eTimpl_Node).rd w [] p1 cs1) :
    Calls Tryz.prog 141 #[.agg cs0.toArray, .agg cs1.toArray] w (fun en w' => en = .returned (.bool r) ∧ Ext [] w w') := by
  obtain ⟨c10, c11, c12, c13, c14, c15, c16, c17, c18, c19, rfl, g20, g21, g22, g23, g24, g25, g26, g27, g28, g29⟩ := rdo_Timpl_Node g0
  obtain rfl : c10 = [.bool p0.Leaf_] := g20
  obtain rfl : c11 = [.int .i64 p0.Fork_.Attr_, .int .i64 p0.Fork_.At_] := g21
  obtain ⟨a30, c31, rfl⟩ := rd_sl1 g22
  obtain rfl : c13 = [.int .i64 p0.Miss_] := g23
  obtain ⟨c32, c33, rfl, g34, g35⟩ := rdo_Timpl_Stats g24
  obtain ⟨a36, c37, rfl⟩ := rd_sl1 g34
  obtain ⟨a38, c39, rfl⟩ := rd_sl1 g35
  obtain rfl : c15 = [.int .i64 p0.Since_] := g25
  obtain ⟨a40, c41, rfl⟩ := rd_sl1 g26
  obtain rfl : c17 = [.int .i64 p0.Depth_] := g27
  obtain rfl : c18 = [.int .i64 p0.Up_] := g28
  obtain rfl : c19 = [.int .i64 p0.Born_] := g29
  obtain ⟨c42, c43, c44, c45, c46, c47, c48, c49, c50, c51, rfl, g52, g53, g54, g55, g56, g57, g58, g59, g60, g61⟩ := rdo_Timpl_Node g1
  obtain rfl : c42 = [.bool p1.Leaf_] := g52
  obtain rfl : c43 = [.int .i64 p1.Fork_.Attr_, .int .i64 p1.Fork_.At_] := g53
  obtain ⟨a62, c63, rfl⟩ := rd_sl1 g54
  obtain rfl : c45 = [.int .i64 p1.Miss_] := g55
  obtain ⟨c64, c65, rfl, g66, g67⟩ := rdo_Timpl_Stats g56
  obtain ⟨a68, c69, rfl⟩ := rd_sl1 g66
  obtain ⟨a70, c71, rfl⟩ := rd_sl1 g67
  obtain rfl : c47 = [.int .i64 p1.Since_] := g57
  obtain ⟨a72, c73, rfl⟩ := rd_sl1 g58
  obtain rfl : c49 = [.int .i64 p1.Depth_] := g59
  obtain rfl : c50 = [.int .i64 p1.Up_] := g60
  obtain rfl : c51 = [.int .i64 p1.Born_] := g61
  unfold laws_eqNode at H
  refine f_enter (vs := [.agg #[.bool p0.Leaf_, .int .i64 p0.Fork_.Attr_, .int .i64 p0.Fork_.At_, .slice a30 p0.Kids_.length c31, .int .i64 p0.Miss_, .slice a36 p0.Stats_.Totals_.length c37, .slice a38 p0.Stats_.Cells_.length c39, .int .i64 p0.Since_, .slice a40 p0.Attrs_.length c41, .int .i64 p0.Depth_, .int .i64 p0.Up_, .int .i64 p0.Born_], .agg #[.bool p1.Leaf_, .int .i64 p1.Fork_.Attr_, .int .i64 p1.Fork_.At_, .slice a62 p1.Kids_.length c63, .int .i64 p1.Miss_, .slice a68 p1.Stats_.Totals_.length c69, .slice a70 p1.Stats_.Cells_.length c71, .int .i64 p1.Since_, .slice a72 p1.Attrs_.length c73, .int .i64 p1.Depth_, .int .i64 p1.Up_, .int .i64 p1.Born_]]) Tryz.func141 rfl Tryz.ntmps141 rfl (St.init w []) ?_
  refine c_seq ?_
  refine c_reg ?_
  refine ow_box (cs := [.bool p0.Leaf_, .int .i64 p0.Fork_.Attr_, .int .i64 p0.Fork_.At_, .slice a30 p0.Kids_.length c31, .int .i64 p0.Miss_, .slice a36 p0.Stats_.Totals_.length c37, .slice a38 p0.Stats_.Cells_.length c39, .int .i64 p0.Since_, .slice a40 p0.Attrs_.length c41, .int .i64 p0.Depth_, .int .i64 p0.Up_, .int .i64 p0.Born_]) rfl rfl rfl rfl rfl rfl (fun _ => kp) (fun b74 => ?_)
  refine ow_box (cs := [.bool p1.Leaf_, .int .i64 p1.Fork_.Attr_, .int .i64 p1.Fork_.At_, .slice a62 p1.Kids_.length c63, .int .i64 p1.Miss_, .slice a68 p1.Stats_.Totals_.length c69, .slice a70 p1.Stats_.Cells_.length c71, .int .i64 p1.Since_, .slice a72 p1.Attrs_.length c73, .int .i64 p1.Depth_, .int .i64 p1.Up_, .int .i64 p1.Born_]) rfl rfl rfl rfl rfl rfl (fun _ => kp) (fun b75 => ?_)
  refine ow_batch [.p] rfl ?_
  refine ow_nil ?_
  refine x_qs ?_
  refine c_seq ?_
  refine c_seq ?_
  refine c_reg ?_
  refine ow_batch [.fa 118 0 0 fa118_0] rfl ?_
  refine ow_r rfl (dstOk_lt rfl) (ry_box1 (off := 0) rfl rfl ty4 (boxIn (i := 0) rfl) rfl) ?_
  refine ow_batch [.fa 118 0 0 fa118_0] rfl ?_
  refine ow_r rfl (dstOk_lt rfl) (ry_box1 (off := 0) rfl rfl ty4 (boxIn (i := 1) rfl) rfl) ?_
  refine ow_r rfl (dstOk_lt rfl) (ry_bneq rfl rfl rfl bl4) ?_
  refine ow_nil ?_
  refine x_qs ?_
  refine c_if rfl (fun hb => ?_) (fun hb => ?_)
  · have H := of_if_t hb H
    refine c_seq ?_
    refine c_reg ?_
    refine ow_batch [.p] rfl ?_
    refine ow_nil ?_
    refine x_qs ?_
    refine c_ret ?_
    refine x_qs_ret ?_
    exact x_retR (rs := [.tmp 4]) (vs := [.bool false]) rfl ⟨rfl, trivial⟩ (fun w' hw' => by
        obtain rfl := of_some H
        exact ⟨rfl, hw'.ext⟩)
  · have H := of_if_f hb H
    refine c_skip ?_
    refine x_qs ?_
    refine c_seq ?_
    refine c_seq ?_
    refine c_reg ?_
    refine ow_batch [.fa 118 1 1 fa118_1] rfl ?_
    refine ow_r rfl (dstOk_lt rfl) (ry_box (off := 1) (ds := [.int .i64 p0.Fork_.Attr_, .int .i64 p0.Fork_.At_]) rfl rfl ty116 (boxIn (i := 0) rfl) rfl rfl) ?_
    refine ow_batch [.fa 118 1 1 fa118_1] rfl ?_
    refine ow_r rfl (dstOk_lt rfl) (ry_box (off := 1) (ds := [.int .i64 p1.Fork_.Attr_, .int .i64 p1.Fork_.At_]) rfl rfl ty116 (boxIn (i := 1) rfl) rfl rfl) ?_
    obtain ⟨y76, h77, H⟩ := of_bind H
    refine ow_q rfl rfl (dstOk_lt rfl) (qy_call rfl fn212 rfl (fun w1 hw1 => laws_eqFork_ok w1 (p0 := p0.Fork_) (p1 := p1.Fork_) h77)) (fun _ _ => trivial) ?_
    refine ow_batch [.p] rfl ?_
    refine ow_nil ?_
    refine x_qs ?_
    refine c_if rfl (fun hb => ?_) (fun hb => ?_)
    · have H := of_if_t hb H
      refine c_seq ?_
      refine c_reg ?_
      refine ow_batch [.p] rfl ?_
      refine ow_nil ?_
      refine x_qs ?_
      refine c_ret ?_
      refine x_qs_ret ?_
      exact x_retR (rs := [.tmp 4]) (vs := [.bool false]) rfl ⟨rfl, trivial⟩ (fun w' hw' => by
          obtain rfl := of_some H
          exact ⟨rfl, hw'.ext⟩)
    · have H := of_if_f hb H
      refine c_skip ?_
      refine x_qs ?_
      refine c_seq ?_
      refine c_seq ?_
      refine c_reg ?_
      refine ow_batch [.fa 118 2 3 fa118_2] rfl ?_
      refine ow_r rfl (dstOk_lt rfl) (ry_box1 (off := 3) rfl rfl ty59 (boxIn (i := 0) rfl) rfl) ?_
      refine ow_batch [.fa 118 2 3 fa118_2] rfl ?_
      refine ow_r rfl (dstOk_lt rfl) (ry_box1 (off := 3) rfl rfl ty59 (boxIn (i := 1) rfl) rfl) ?_
      obtain ⟨y78, h79, H⟩ := of_bind H
      refine ow_q rfl rfl (dstOk_lt rfl) (qy_call rfl fn92 rfl (fun w1 hw1 => laws_eqIntS_ok w1  h79 (rds_bor g22 w1 hw1) (rds_bor g54 w1 hw1))) (fun _ _ => trivial) ?_
      refine ow_batch [.p] rfl ?_
      refine ow_nil ?_
      refine x_qs ?_
      refine c_if rfl (fun hb => ?_) (fun hb => ?_)
      · have H := of_if_t hb H
        refine c_seq ?_
        refine c_reg ?_
        refine ow_batch [.p] rfl ?_
        refine ow_nil ?_
        refine x_qs ?_
        refine c_ret ?_
        refine x_qs_ret ?_
        exact x_retR (rs := [.tmp 4]) (vs := [.bool false]) rfl ⟨rfl, trivial⟩ (fun w' hw' => by
            obtain rfl := of_some H
            exact ⟨rfl, hw'.ext⟩)
      · have H := of_if_f hb H
        refine c_skip ?_
        refine x_qs ?_
        refine c_seq ?_
        refine c_seq ?_
        refine c_reg ?_
        refine ow_batch [.fa 118 3 4 fa118_3] rfl ?_
        refine ow_r rfl (dstOk_lt rfl) (ry_box1 (off := 4) rfl rfl ty3 (boxIn (i := 0) rfl) rfl) ?_
        refine ow_batch [.fa 118 3 4 fa118_3] rfl ?_
        refine ow_r rfl (dstOk_lt rfl) (ry_box1 (off := 4) rfl rfl ty3 (boxIn (i := 1) rfl) rfl) ?_
        refine ow_batch [.p] rfl ?_
        refine ow_nil ?_
        refine x_qs ?_
        refine c_if rfl (fun hb => ?_) (fun hb => ?_)
        · have H := of_if_t hb H
          refine c_seq ?_
          refine c_reg ?_
          refine ow_batch [.p] rfl ?_
          refine ow_nil ?_
          refine x_qs ?_
          refine c_ret ?_
          refine x_qs_ret ?_
          exact x_retR (rs := [.tmp 4]) (vs := [.bool false]) rfl ⟨rfl, trivial⟩ (fun w' hw' => by
              obtain rfl := of_some H
              exact ⟨rfl, hw'.ext⟩)
        · have H := of_if_f hb H
          refine c_skip ?_
          refine x_qs ?_
          refine c_seq ?_
          refine c_seq ?_
          refine c_reg ?_
          refine ow_batch [.fa 118 4 5 fa118_4] rfl ?_
          refine ow_r rfl (dstOk_lt rfl) (ry_box (off := 5) (ds := [.slice a36 p0.Stats_.Totals_.length c37, .slice a38 p0.Stats_.Cells_.length c39]) rfl rfl ty62 (boxIn (i := 0) rfl) rfl rfl) ?_
          refine ow_batch [.fa 118 4 5 fa118_4] rfl ?_
          refine ow_r rfl (dstOk_lt rfl) (ry_box (off := 5) (ds := [.slice a68 p1.Stats_.Totals_.length c69, .slice a70 p1.Stats_.Cells_.length c71]) rfl rfl ty62 (boxIn (i := 1) rfl) rfl rfl) ?_
          obtain ⟨y80, h81, H⟩ := of_bind H
          refine ow_q rfl rfl (dstOk_lt rfl) (qy_call rfl fn29 rfl (fun w1 hw1 => laws_eqStats_ok w1 (cs0 := [.slice a36 p0.Stats_.Totals_.length c37, .slice a38 p0.Stats_.Cells_.length c39]) (cs1 := [.slice a68 p1.Stats_.Totals_.length c69, .slice a70 p1.Stats_.Cells_.length c71]) h81 (rdm_Timpl_Stats (x := p0.Stats_) (c0 := [.slice a36 p0.Stats_.Totals_.length c37]) (c1 := [.slice a38 p0.Stats_.Cells_.length c39]) (rds_bor g34 w1 hw1) (rds_bor g35 w1 hw1)) (rdm_Timpl_Stats (x := p1.Stats_) (c0 := [.slice a68 p1.Stats_.Totals_.length c69]) (c1 := [.slice a70 p1.Stats_.Cells_.length c71]) (rds_bor g66 w1 hw1) (rds_bor g67 w1 hw1)))) (fun _ _ => trivial) ?_
          refine ow_batch [.p] rfl ?_
          refine ow_nil ?_
          refine x_qs ?_
          refine c_if rfl (fun hb => ?_) (fun hb => ?_)
          · have H := of_if_t hb H
            refine c_seq ?_
            refine c_reg ?_
            refine ow_batch [.p] rfl ?_
            refine ow_nil ?_
            refine x_qs ?_
            refine c_ret ?_
            refine x_qs_ret ?_
            exact x_retR (rs := [.tmp 4]) (vs := [.bool false]) rfl ⟨rfl, trivial⟩ (fun w' hw' => by
                obtain rfl := of_some H
                exact ⟨rfl, hw'.ext⟩)
          · have H := of_if_f hb H
            refine c_skip ?_
            refine x_qs ?_
            refine c_seq ?_
            refine c_seq ?_
            refine c_reg ?_
            refine ow_batch [.fa 118 5 7 fa118_5] rfl ?_
            refine ow_r rfl (dstOk_lt rfl) (ry_box1 (off := 7) rfl rfl ty3 (boxIn (i := 0) rfl) rfl) ?_
            refine ow_batch [.fa 118 5 7 fa118_5] rfl ?_
            refine ow_r rfl (dstOk_lt rfl) (ry_box1 (off := 7) rfl rfl ty3 (boxIn (i := 1) rfl) rfl) ?_
            refine ow_batch [.p] rfl ?_
            refine ow_nil ?_
            refine x_qs ?_
            refine c_if rfl (fun hb => ?_) (fun hb => ?_)
            · have H := of_if_t hb H
              refine c_seq ?_
              refine c_reg ?_
              refine ow_batch [.p] rfl ?_
              refine ow_nil ?_
              refine x_qs ?_
              refine c_ret ?_
              refine x_qs_ret ?_
              exact x_retR (rs := [.tmp 4]) (vs := [.bool false]) rfl ⟨rfl, trivial⟩ (fun w' hw' => by
                  obtain rfl := of_some H
                  exact ⟨rfl, hw'.ext⟩)
            · have H := of_if_f hb H
              refine c_skip ?_
              refine x_qs ?_
              refine c_seq ?_
              refine c_seq ?_
              refine c_reg ?_
              refine ow_batch [.fa 118 6 8 fa118_6] rfl ?_
              refine ow_r rfl (dstOk_lt rfl) (ry_box1 (off := 8) rfl rfl ty59 (boxIn (i := 0) rfl) rfl) ?_
              refine ow_batch [.fa 118 6 8 fa118_6] rfl ?_
              refine ow_r rfl (dstOk_lt rfl) (ry_box1 (off := 8) rfl rfl ty59 (boxIn (i := 1) rfl) rfl) ?_
              obtain ⟨y82, h83, H⟩ := of_bind H
              refine ow_q rfl rfl (dstOk_lt rfl) (qy_call rfl fn92 rfl (fun w1 hw1 => laws_eqIntS_ok w1  h83 (rds_bor g26 w1 hw1) (rds_bor g58 w1 hw1))) (fun _ _ => trivial) ?_
              refine ow_batch [.p] rfl ?_
              refine ow_nil ?_
              refine x_qs ?_
              refine c_if rfl (fun hb => ?_) (fun hb => ?_)
              · have H := of_if_t hb H
                refine c_seq ?_
                refine c_reg ?_
                refine ow_batch [.p] rfl ?_
                refine ow_nil ?_
                refine x_qs ?_
                refine c_ret ?_
                refine x_qs_ret ?_
                exact x_retR (rs := [.tmp 4]) (vs := [.bool false]) rfl ⟨rfl, trivial⟩ (fun w' hw' => by
                    obtain rfl := of_some H
                    exact ⟨rfl, hw'.ext⟩)
              · have H := of_if_f hb H
                refine c_skip ?_
                refine x_qs ?_
                refine c_seq ?_
                refine c_seq ?_
                refine c_reg ?_
                refine ow_batch [.fa 118 7 9 fa118_7] rfl ?_
                refine ow_r rfl (dstOk_lt rfl) (ry_box1 (off := 9) rfl rfl ty3 (boxIn (i := 0) rfl) rfl) ?_
                refine ow_batch [.fa 118 7 9 fa118_7] rfl ?_
                refine ow_r rfl (dstOk_lt rfl) (ry_box1 (off := 9) rfl rfl ty3 (boxIn (i := 1) rfl) rfl) ?_
                refine ow_batch [.p] rfl ?_
                refine ow_nil ?_
                refine x_qs ?_
                refine c_if rfl (fun hb => ?_) (fun hb => ?_)
                · have H := of_if_t hb H
                  refine c_seq ?_
                  refine c_reg ?_
                  refine ow_batch [.p] rfl ?_
                  refine ow_nil ?_
                  refine x_qs ?_
                  refine c_ret ?_
                  refine x_qs_ret ?_
                  exact x_retR (rs := [.tmp 4]) (vs := [.bool false]) rfl ⟨rfl, trivial⟩ (fun w' hw' => by
                      obtain rfl := of_some H
                      exact ⟨rfl, hw'.ext⟩)
                · have H := of_if_f hb H
                  refine c_skip ?_
                  refine x_qs ?_
                  refine c_seq ?_
                  refine c_seq ?_
                  refine c_reg ?_
                  refine ow_batch [.fa 118 8 10 fa118_8] rfl ?_
                  refine ow_r rfl (dstOk_lt rfl) (ry_box1 (off := 10) rfl rfl ty3 (boxIn (i := 0) rfl) rfl) ?_
                  refine ow_batch [.fa 118 8 10 fa118_8] rfl ?_
                  refine ow_r rfl (dstOk_lt rfl) (ry_box1 (off := 10) rfl rfl ty3 (boxIn (i := 1) rfl) rfl) ?_
                  refine ow_batch [.p] rfl ?_
                  refine ow_nil ?_
                  refine x_qs ?_
                  refine c_if rfl (fun hb => ?_) (fun hb => ?_)
                  · have H := of_if_t hb H
                    refine c_seq ?_
                    refine c_reg ?_
                    refine ow_batch [.p] rfl ?_
                    refine ow_nil ?_
                    refine x_qs ?_
                    refine c_ret ?_
                    refine x_qs_ret ?_
                    exact x_retR (rs := [.tmp 4]) (vs := [.bool false]) rfl ⟨rfl, trivial⟩ (fun w' hw' => by
                        obtain rfl := of_some H
                        exact ⟨rfl, hw'.ext⟩)
                  · have H := of_if_f hb H
                    refine c_skip ?_
                    refine x_qs ?_
                    refine c_seq ?_
                    refine c_seq ?_
                    refine c_reg ?_
                    refine ow_batch [.fa 118 9 11 fa118_9] rfl ?_
                    refine ow_r rfl (dstOk_lt rfl) (ry_box1 (off := 11) rfl rfl ty3 (boxIn (i := 0) rfl) rfl) ?_
                    refine ow_batch [.fa 118 9 11 fa118_9] rfl ?_
                    refine ow_r rfl (dstOk_lt rfl) (ry_box1 (off := 11) rfl rfl ty3 (boxIn (i := 1) rfl) rfl) ?_
                    refine ow_batch [.p] rfl ?_
                    refine ow_nil ?_
                    refine x_qs ?_
                    refine c_if rfl (fun hb => ?_) (fun hb => ?_)
                    · have H := of_if_t hb H
                      refine c_seq ?_
                      refine c_reg ?_
                      refine ow_batch [.p] rfl ?_
                      refine ow_nil ?_
                      refine x_qs ?_
                      refine c_ret ?_
                      refine x_qs_ret ?_
                      exact x_retR (rs := [.tmp 4]) (vs := [.bool false]) rfl ⟨rfl, trivial⟩ (fun w' hw' => by
                          obtain rfl := of_some H
                          exact ⟨rfl, hw'.ext⟩)
                    · have H := of_if_f hb H
                      refine c_skip ?_
                      refine x_qs ?_
                      refine c_seq ?_
                      refine c_reg ?_
                      refine ow_batch [.p] rfl ?_
                      refine ow_nil ?_
                      refine x_qs ?_
                      refine c_ret ?_
                      exact x_retR (rs := [.tmp 4]) (vs := [.bool true]) rfl ⟨rfl, trivial⟩ (fun w' hw' => by
                          obtain rfl := of_some H
                          exact ⟨rfl, hw'.ext⟩)
set_option maxHeartbeats 4000000 in
set_option maxRecDepth 100000 in
theorem laws_eqNodeS_ok (w : World) {p0 : List Timpl_Node} {p1 : List Timpl_Node} {a_0 : Option Addr} {n_0 c_0 : Nat} {a_1 : Option Addr} {n_1 c_1 : Nat} {r : Bool} (H : laws_eqNodeS p0 p1 = some r)  (g0 : (eList (eTimpl_Node) 118).rd w [] p0 [.slice a_0 n_0 c_0]) (g1 : (eList (eTimpl_Node) 118).rd w [] p1 [.slice a_1 n_1 c_1]) :
    Calls Tryz.prog 67 #[.slice a_0 n_0 c_0, .slice a_1 n_1 c_1] w (fun en w' => en = .returned (.bool r) ∧ Ext [] w w') := by
  obtain rfl := rd_n g0
  obtain rfl := rd_n g1
  unfold laws_eqNodeS at H
  refine f_enter (vs := [.slice a_0 p0.length c_0, .slice a_1 p1.length c_1]) Tryz.func67 rfl Tryz.ntmps67 rfl (St.init w []) ?_
  refine c_seq ?_
  refine c_reg ?_
  refine ow_batch [.p] rfl ?_
  refine ow_nil ?_
  refine x_qs ?_
  refine c_seq ?_
  refine c_seq ?_
  refine c_reg ?_
  refine ow_batch [.p, .lenS 37 118 sl37, .p, .lenS 37 118 sl37, .p] rfl ?_
  refine ow_nil ?_
  refine x_qs ?_
  refine c_if rfl (fun hb => ?_) (fun hb => ?_)
  · have H := of_if_t hb H
    refine c_seq ?_
    refine c_reg ?_
    refine ow_batch [.p] rfl ?_
    refine ow_nil ?_
    refine x_qs ?_
    refine c_ret ?_
    refine x_qs_ret ?_
    exact x_retR (rs := [.tmp 4]) (vs := [.bool false]) rfl ⟨rfl, trivial⟩ (fun w' hw' => by
        obtain rfl := of_some H
        exact ⟨rfl, hw'.ext⟩)
  · have H := of_if_f hb H
    refine c_skip ?_
    refine x_qs ?_
    refine c_seq ?_
    refine c_seq ?_
    refine c_reg ?_
    refine ow_batch [.p] rfl ?_
    refine ow_nil ?_
    refine x_qs ?_
    refine c_block ?_
    refine CW.at (loopI1 (fun (i89 : Int) => St w [] []) (fun (i89 : Int) => [(0, .slice a_0 p0.length c_0), (1, .slice a_1 p1.length c_1), (5, .int .i64 i89)]) (fun kk => fun (i89 : Int) => laws_eqNodeS_L1 p0 p1 kk i89 = some r) (fun _ H => ?_) (fun k1 ihk1 i89 H => ?_) Fuel (0) (H)) (fun _ h => St.sel [] rfl rfl h) ⟨rfl, rfl, rfl,  trivial⟩
    · unfold laws_eqNodeS_L1 at H
      exact absurd H (by simp)
    · unfold laws_eqNodeS_L1 at H
      refine c_seq ?_
      refine c_seq ?_
      refine c_reg ?_
      refine ow_batch [.p, .p, .lenS 37 118 sl37, .p] rfl ?_
      refine ow_nil ?_
      refine x_qs ?_
      refine c_if rfl (fun hb => ?_) (fun hb => ?_)
      · have H := of_if_t hb H
        refine c_skip ?_
        refine x_qs ?_
        refine c_seq ?_
        refine c_block ?_
        refine c_seq ?_
        refine c_regQ mixed (by kernel_rfl) ?_
        refine ow_batch [.p, .p] rfl ?_
        obtain ⟨e169, h170, H⟩ := of_bind H
        refine ow_ixB rfl rfl rfl rfl rfl sl37 ty118 rfl g0 h170 (fun q173 c174 hd171 hA172 => ?_)
        obtain ⟨c175, c176, c177, c178, c179, c180, c181, c182, c183, c184, rfl, g185, g186, g187, g188, g189, g190, g191, g192, g193, g194⟩ := rdo_Timpl_Node hd171
        obtain rfl : c175 = [.bool e169.Leaf_] := g185
        obtain rfl : c176 = [.int .i64 e169.Fork_.Attr_, .int .i64 e169.Fork_.At_] := g186
        obtain ⟨a195, c196, rfl⟩ := rd_sl1 g187
        obtain rfl : c178 = [.int .i64 e169.Miss_] := g188
        obtain ⟨c197, c198, rfl, g199, g200⟩ := rdo_Timpl_Stats g189
        obtain ⟨a201, c202, rfl⟩ := rd_sl1 g199
        obtain ⟨a203, c204, rfl⟩ := rd_sl1 g200
        obtain rfl : c180 = [.int .i64 e169.Since_] := g190
        obtain ⟨a205, c206, rfl⟩ := rd_sl1 g191
        obtain rfl : c182 = [.int .i64 e169.Depth_] := g192
        obtain rfl : c183 = [.int .i64 e169.Up_] := g193
        obtain rfl : c184 = [.int .i64 e169.Born_] := g194
        refine ow_r rfl (dstOk_lt rfl) (ry_load (cs := [.bool e169.Leaf_, .int .i64 e169.Fork_.Attr_, .int .i64 e169.Fork_.At_, .slice a195 e169.Kids_.length c196, .int .i64 e169.Miss_, .slice a201 e169.Stats_.Totals_.length c202, .slice a203 e169.Stats_.Cells_.length c204, .int .i64 e169.Since_, .slice a205 e169.Attrs_.length c206, .int .i64 e169.Depth_, .int .i64 e169.Up_, .int .i64 e169.Born_]) rfl rfl ty118 (at_bor bor hA172) rfl) ?_
        refine ow_batch [.p, .p] rfl ?_
        obtain ⟨e207, h208, H⟩ := of_bind H
        refine ow_ixB rfl rfl rfl rfl rfl sl37 ty118 rfl g1 h208 (fun q211 c212 hd209 hA210 => ?_)
        obtain ⟨c213, c214, c215, c216, c217, c218, c219, c220, c221, c222, rfl, g223, g224, g225, g226, g227, g228, g229, g230, g231, g232⟩ := rdo_Timpl_Node hd209
        obtain rfl : c213 = [.bool e207.Leaf_] := g223
        obtain rfl : c214 = [.int .i64 e207.Fork_.Attr_, .int .i64 e207.Fork_.At_] := g224
        obtain ⟨a233, c234, rfl⟩ := rd_sl1 g225
        obtain rfl : c216 = [.int .i64 e207.Miss_] := g226
        obtain ⟨c235, c236, rfl, g237, g238⟩ := rdo_Timpl_Stats g227
        obtain ⟨a239, c240, rfl⟩ := rd_sl1 g237
        obtain ⟨a241, c242, rfl⟩ := rd_sl1 g238
        obtain rfl : c218 = [.int .i64 e207.Since_] := g228
        obtain ⟨a243, c244, rfl⟩ := rd_sl1 g229
        obtain rfl : c220 = [.int .i64 e207.Depth_] := g230
        obtain rfl : c221 = [.int .i64 e207.Up_] := g231
        obtain rfl : c222 = [.int .i64 e207.Born_] := g232
        refine ow_r rfl (dstOk_lt rfl) (ry_load (cs := [.bool e207.Leaf_, .int .i64 e207.Fork_.Attr_, .int .i64 e207.Fork_.At_, .slice a233 e207.Kids_.length c234, .int .i64 e207.Miss_, .slice a239 e207.Stats_.Totals_.length c240, .slice a241 e207.Stats_.Cells_.length c242, .int .i64 e207.Since_, .slice a243 e207.Attrs_.length c244, .int .i64 e207.Depth_, .int .i64 e207.Up_, .int .i64 e207.Born_]) rfl rfl ty118 (at_bor bor hA210) rfl) ?_
        obtain ⟨y245, h246, H⟩ := of_bind H
        refine ow_q rfl rfl (dstOk_lt rfl) (qy_call rfl fn141 rfl (fun w1 hw1 => laws_eqNode_ok w1 (cs0 := [.bool e169.Leaf_, .int .i64 e169.Fork_.Attr_, .int .i64 e169.Fork_.At_, .slice a195 e169.Kids_.length c196, .int .i64 e169.Miss_, .slice a201 e169.Stats_.Totals_.length c202, .slice a203 e169.Stats_.Cells_.length c204, .int .i64 e169.Since_, .slice a205 e169.Attrs_.length c206, .int .i64 e169.Depth_, .int .i64 e169.Up_, .int .i64 e169.Born_]) (cs1 := [.bool e207.Leaf_, .int .i64 e207.Fork_.Attr_, .int .i64 e207.Fork_.At_, .slice a233 e207.Kids_.length c234, .int .i64 e207.Miss_, .slice a239 e207.Stats_.Totals_.length c240, .slice a241 e207.Stats_.Cells_.length c242, .int .i64 e207.Since_, .slice a243 e207.Attrs_.length c244, .int .i64 e207.Depth_, .int .i64 e207.Up_, .int .i64 e207.Born_]) h246 (rdm_Timpl_Node (x := e169) (c0 := [.bool e169.Leaf_]) (c1 := [.int .i64 e169.Fork_.Attr_, .int .i64 e169.Fork_.At_]) (c2 := [.slice a195 e169.Kids_.length c196]) (c3 := [.int .i64 e169.Miss_]) (c4 := [.slice a201 e169.Stats_.Totals_.length c202, .slice a203 e169.Stats_.Cells_.length c204]) (c5 := [.int .i64 e169.Since_]) (c6 := [.slice a205 e169.Attrs_.length c206]) (c7 := [.int .i64 e169.Depth_]) (c8 := [.int .i64 e169.Up_]) (c9 := [.int .i64 e169.Born_]) rfl rfl (rds_bor g187 w1 hw1) rfl (rdm_Timpl_Stats (x := e169.Stats_) (c0 := [.slice a201 e169.Stats_.Totals_.length c202]) (c1 := [.slice a203 e169.Stats_.Cells_.length c204]) (rds_bor g199 w1 hw1) (rds_bor g200 w1 hw1)) rfl (rds_bor g191 w1 hw1) rfl rfl rfl) (rdm_Timpl_Node (x := e207) (c0 := [.bool e207.Leaf_]) (c1 := [.int .i64 e207.Fork_.Attr_, .int .i64 e207.Fork_.At_]) (c2 := [.slice a233 e207.Kids_.length c234]) (c3 := [.int .i64 e207.Miss_]) (c4 := [.slice a239 e207.Stats_.Totals_.length c240, .slice a241 e207.Stats_.Cells_.length c242]) (c5 := [.int .i64 e207.Since_]) (c6 := [.slice a243 e207.Attrs_.length c244]) (c7 := [.int .i64 e207.Depth_]) (c8 := [.int .i64 e207.Up_]) (c9 := [.int .i64 e207.Born_]) rfl rfl (rds_bor g225 w1 hw1) rfl (rdm_Timpl_Stats (x := e207.Stats_) (c0 := [.slice a239 e207.Stats_.Totals_.length c240]) (c1 := [.slice a241 e207.Stats_.Cells_.length c242]) (rds_bor g237 w1 hw1) (rds_bor g238 w1 hw1)) rfl (rds_bor g229 w1 hw1) rfl rfl rfl))) (fun _ _ => trivial) ?_
        refine ow_batch [.p] rfl ?_
        refine ow_nilQ ?_
        refine x_qs ?_
        refine c_if rfl (fun hb => ?_) (fun hb => ?_)
        · have H := of_if_t hb H
          refine c_seq ?_
          refine c_reg ?_
          refine ow_batch [.p] rfl ?_
          refine ow_nil ?_
          refine x_qs ?_
          refine c_ret ?_
          refine x_qb_ret ?_
          refine x_qs_ret ?_
          refine x_ql_ret ?_
          refine x_qb_ret ?_
          refine x_qs_ret ?_
          exact x_retR (rs := [.tmp 4]) (vs := [.bool false]) rfl ⟨rfl, trivial⟩ (fun w' hw' => by
              obtain rfl := of_some H
              exact ⟨rfl, hw'.ext⟩)
        · have H := of_if_f hb H
          refine c_skip ?_
          refine x_qb ?_
          refine x_qs ?_
          refine c_reg ?_
          refine ow_batch [.p, .p, .p] rfl ?_
          refine ow_nil ?_
          exact x_ql (RW.at (ihk1 (IntKind.i64.wrap (i89 + 1)) (H)) (fun _ h => St.sel [] rfl rfl h) ⟨rfl, rfl, rfl, trivial⟩)
      · have H := of_if_f hb H
        refine c_exit ?_
        refine x_qs_exit ?_
        refine x_ql_exit ?_
        refine x_qb_here ?_
        refine x_qs ?_
        refine c_seq ?_
        refine c_reg ?_
        refine ow_batch [.p] rfl ?_
        refine ow_nil ?_
        refine x_qs ?_
        refine c_ret ?_
        exact x_retR (rs := [.tmp 4]) (vs := [.bool true]) rfl ⟨rfl, trivial⟩ (fun w' hw' => by
            obtain rfl := of_some H
            exact ⟨rfl, hw'.ext⟩)
set_option maxHeartbeats 4000000 in
set_option maxRecDepth 100000 in
theorem laws_eqTree_ok (w : World) {p0 : Timpl_Tree} {p1 : Timpl_Tree} {cs0 : List Value} {cs1 : List Value} {r : Bool} (H : laws_eqTree p0 p1 = some r)  (g0 : (eTimpl_Tree).rd w [] p0 cs0) (g1 : (eTimpl_Tree).rd w [] p1 cs1) :
    Calls Tryz.prog 16 #[.agg cs0.toArray, .agg cs1.toArray] w (fun en w' => en = .returned (.bool r) ∧ Ext [] w w') := by
  obtain ⟨c10, c11, rfl, g12, g13⟩ := rdo_Timpl_Tree g0
  obtain ⟨a14, c15, rfl⟩ := rd_sl1 g12
  obtain rfl : c11 = [.int .i64 p0.Seen_] := g13
  obtain ⟨c16, c17, rfl, g18, g19⟩ := rdo_Timpl_Tree g1
  obtain ⟨a20, c21, rfl⟩ := rd_sl1 g18
  obtain rfl : c17 = [.int .i64 p1.Seen_] := g19
  unfold laws_eqTree at H
  refine f_enter (vs := [.agg #[.slice a14 p0.Nodes_.length c15, .int .i64 p0.Seen_], .agg #[.slice a20 p1.Nodes_.length c21, .int .i64 p1.Seen_]]) Tryz.func16 rfl Tryz.ntmps16 rfl (St.init w []) ?_
  refine c_seq ?_
  refine c_reg ?_
  refine ow_box (cs := [.slice a14 p0.Nodes_.length c15, .int .i64 p0.Seen_]) rfl rfl rfl rfl rfl rfl (fun _ => kp) (fun b22 => ?_)
  refine ow_box (cs := [.slice a20 p1.Nodes_.length c21, .int .i64 p1.Seen_]) rfl rfl rfl rfl rfl rfl (fun _ => kp) (fun b23 => ?_)
  refine ow_batch [.p] rfl ?_
  refine ow_nil ?_
  refine x_qs ?_
  refine c_seq ?_
  refine c_seq ?_
  refine c_reg ?_
  refine ow_batch [.fa 39 0 0 fa39_0] rfl ?_
  refine ow_r rfl (dstOk_lt rfl) (ry_box1 (off := 0) rfl rfl ty37 (boxIn (i := 0) rfl) rfl) ?_
  refine ow_batch [.fa 39 0 0 fa39_0] rfl ?_
  refine ow_r rfl (dstOk_lt rfl) (ry_box1 (off := 0) rfl rfl ty37 (boxIn (i := 1) rfl) rfl) ?_
  obtain ⟨y24, h25, H⟩ := of_bind H
  refine ow_q rfl rfl (dstOk_lt rfl) (qy_call rfl fn67 rfl (fun w1 hw1 => laws_eqNodeS_ok w1  h25 (rds_bor g12 w1 hw1) (rds_bor g18 w1 hw1))) (fun _ _ => trivial) ?_
  refine ow_batch [.p] rfl ?_
  refine ow_nil ?_
  refine x_qs ?_
  refine c_if rfl (fun hb => ?_) (fun hb => ?_)
  · have H := of_if_t hb H
    refine c_seq ?_
    refine c_reg ?_
    refine ow_batch [.p] rfl ?_
    refine ow_nil ?_
    refine x_qs ?_
    refine c_ret ?_
    refine x_qs_ret ?_
    exact x_retR (rs := [.tmp 4]) (vs := [.bool false]) rfl ⟨rfl, trivial⟩ (fun w' hw' => by
        obtain rfl := of_some H
        exact ⟨rfl, hw'.ext⟩)
  · have H := of_if_f hb H
    refine c_skip ?_
    refine x_qs ?_
    refine c_seq ?_
    refine c_seq ?_
    refine c_reg ?_
    refine ow_batch [.fa 39 1 1 fa39_1] rfl ?_
    refine ow_r rfl (dstOk_lt rfl) (ry_box1 (off := 1) rfl rfl ty3 (boxIn (i := 0) rfl) rfl) ?_
    refine ow_batch [.fa 39 1 1 fa39_1] rfl ?_
    refine ow_r rfl (dstOk_lt rfl) (ry_box1 (off := 1) rfl rfl ty3 (boxIn (i := 1) rfl) rfl) ?_
    refine ow_batch [.p] rfl ?_
    refine ow_nil ?_
    refine x_qs ?_
    refine c_if rfl (fun hb => ?_) (fun hb => ?_)
    · have H := of_if_t hb H
      refine c_seq ?_
      refine c_reg ?_
      refine ow_batch [.p] rfl ?_
      refine ow_nil ?_
      refine x_qs ?_
      refine c_ret ?_
      refine x_qs_ret ?_
      exact x_retR (rs := [.tmp 4]) (vs := [.bool false]) rfl ⟨rfl, trivial⟩ (fun w' hw' => by
          obtain rfl := of_some H
          exact ⟨rfl, hw'.ext⟩)
    · have H := of_if_f hb H
      refine c_skip ?_
      refine x_qs ?_
      refine c_seq ?_
      refine c_reg ?_
      refine ow_batch [.p] rfl ?_
      refine ow_nil ?_
      refine x_qs ?_
      refine c_ret ?_
      exact x_retR (rs := [.tmp 4]) (vs := [.bool true]) rfl ⟨rfl, trivial⟩ (fun w' hw' => by
          obtain rfl := of_some H
          exact ⟨rfl, hw'.ext⟩)
set_option maxHeartbeats 4000000 in
set_option maxRecDepth 100000 in
theorem spec_Leaves_ok (w : World) {M0 : List Nat} {p0 : Timpl_Tree} {cs0 : List Value} {r : List Int} (H : spec_Leaves p0 = some r) (HS : St w M0 [] w) (g0 : (eTimpl_Tree).rd w M0 p0 cs0) :
    Calls Tryz.prog 53 #[.agg cs0.toArray] w (fun en w' => ∃ v, en = .returned v ∧ ∃ (a0 : Option Addr), ∃ (n0 : Nat), ∃ (c0 : Nat), ∃ (F0 : List Nat), v = .slice a0 n0 c0 ∧ St w M0 [Res.own (eList (eVal (Value.int .i64) (fun _ => rfl)) 3) F0 r [.slice a0 n0 c0]] w') := by
  obtain ⟨c10, c11, rfl, g12, g13⟩ := rdo_Timpl_Tree g0
  obtain ⟨a14, c15, rfl⟩ := rd_sl1 g12
  obtain rfl : c11 = [.int .i64 p0.Seen_] := g13
  unfold spec_Leaves at H
  refine f_enter (vs := [.agg #[.slice a14 p0.Nodes_.length c15, .int .i64 p0.Seen_]]) Tryz.func53 rfl Tryz.ntmps53 rfl (HS) ?_
  refine c_seq ?_
  refine c_reg ?_
  refine ow_box (cs := [.slice a14 p0.Nodes_.length c15, .int .i64 p0.Seen_]) rfl rfl rfl rfl rfl rfl (fun _ => kp) (fun b16 => ?_)
  refine ow_batch [.p] rfl ?_
  refine ow_nil ?_
  refine x_qs ?_
  refine c_seq ?_
  refine c_reg ?_
  refine ow_blit0 (e := eVal (Value.int .i64) (fun _ => rfl)) rfl rfl rfl rfl sl59 ty3 (fun _ => kp) (fun b17 => ?_)
  refine ow_batch [.p] rfl ?_
  refine ow_nil ?_
  refine x_qs ?_
  refine c_seq ?_
  refine c_seq ?_
  refine c_reg ?_
  refine ow_batch [.p] rfl ?_
  refine ow_nil ?_
  refine x_qs ?_
  refine c_block ?_
  refine CW.at (loopI5 (fun (l69 : List Int) (a70 : Option Addr) (c71 : Nat) (F72 : List Nat) (i74 : Int) => St w M0 [Res.box b16 39 [.slice a14 p0.Nodes_.length c15, .int .i64 p0.Seen_], Res.own (eList (eVal (Value.int .i64) (fun _ => rfl)) 3) F72 l69 [.slice a70 l69.length c71]]) (fun (l69 : List Int) (a70 : Option Addr) (c71 : Nat) (F72 : List Nat) (i74 : Int) => [(1, .pointer (some ⟨b16, 0, none⟩)), (3, .slice a70 l69.length c71), (4, .int .i64 i74)]) (fun kk => fun (l69 : List Int) (a70 : Option Addr) (c71 : Nat) (F72 : List Nat) (i74 : Int) => a70.isNone = false ∧ spec_Leaves_L1 p0 kk l69 i74 = some r) (fun _ _ _ _ _ H => ?_) (fun k1 ihk1 l69 a70 c71 F72 i74 ⟨hz73, H⟩ => ?_) Fuel (([] : List Int)) ((some ⟨b17, 0, none⟩)) (0) ([b17]) (0) (⟨rfl, H⟩)) (fun _ h => St.sel [0, 1] rfl rfl h) ⟨rfl, rfl, rfl,  trivial⟩
  · unfold spec_Leaves_L1 at H
    exact absurd H (by simp)
  · unfold spec_Leaves_L1 at H
    refine c_seq ?_
    refine c_seq ?_
    refine c_reg ?_
    refine ow_batch [.p, .fa 39 0 0 fa39_0] rfl ?_
    refine ow_r rfl (dstOk_lt rfl) (ry_box1 (off := 0) rfl rfl ty37 (boxIn (i := 0) rfl) rfl) ?_
    refine ow_batch [.lenS 37 118 sl37, .p] rfl ?_
    refine ow_nil ?_
    refine x_qs ?_
    refine c_if rfl (fun hb => ?_) (fun hb => ?_)
    · have H := of_if_t hb H
      refine c_skip ?_
      refine x_qs ?_
      refine c_seq ?_
      refine c_block ?_
      refine c_seq ?_
      refine c_reg ?_
      refine ow_batch [.fa 39 0 0 fa39_0] rfl ?_
      refine ow_r rfl (dstOk_lt rfl) (ry_box1 (off := 0) rfl rfl ty37 (boxIn (i := 0) rfl) rfl) ?_
      refine ow_batch [.p] rfl ?_
      obtain ⟨e126, h127, H⟩ := of_bind H
      refine ow_ixB rfl rfl rfl rfl rfl sl37 ty118 rfl g12 h127 (fun q130 c131 hd128 hA129 => ?_)
      obtain ⟨c132, c133, c134, c135, c136, c137, c138, c139, c140, c141, rfl, g142, g143, g144, g145, g146, g147, g148, g149, g150, g151⟩ := rdo_Timpl_Node hd128
      obtain rfl : c132 = [.bool e126.Leaf_] := g142
      obtain rfl : c133 = [.int .i64 e126.Fork_.Attr_, .int .i64 e126.Fork_.At_] := g143
      obtain ⟨a152, c153, rfl⟩ := rd_sl1 g144
      obtain rfl : c135 = [.int .i64 e126.Miss_] := g145
      obtain ⟨c154, c155, rfl, g156, g157⟩ := rdo_Timpl_Stats g146
      obtain ⟨a158, c159, rfl⟩ := rd_sl1 g156
      obtain ⟨a160, c161, rfl⟩ := rd_sl1 g157
      obtain rfl : c137 = [.int .i64 e126.Since_] := g147
      obtain ⟨a162, c163, rfl⟩ := rd_sl1 g148
      obtain rfl : c139 = [.int .i64 e126.Depth_] := g149
      obtain rfl : c140 = [.int .i64 e126.Up_] := g150
      obtain rfl : c141 = [.int .i64 e126.Born_] := g151
      refine ow_batch [.fa 118 0 0 fa118_0] rfl ?_
      refine ow_r rfl (dstOk_lt rfl) (ry_load1 rfl rfl ty4 (at_bor bor (at_K hA129 0 1))) ?_
      refine ow_nil ?_
      refine x_qs ?_
      refine c_if rfl (fun hb => ?_) (fun hb => ?_)
      · have H := of_if_t hb H
        refine c_reg ?_
        refine ow_batch [.p, .p] rfl ?_
        refine ow_blit (val := Value.int .i64) (h1 := fun _ => rfl) [i74] [(0, [.int .i64 i74])] rfl rfl rfl rfl rfl sl59 ty3 rfl rfl rfl ⟨rfl, rfl, Nat.le_of_ble_eq_true rfl,  trivial⟩ rfl rfl (fun _ => kp) (fun b164 => ?_)
        obtain ⟨l165, h166, H⟩ := of_bind H
        refine ow_appR (r := 1) (ys := ([i74] : List Int)) rfl rfl rfl rfl rfl rfl sl59 ty3 rfl rfl rfl (fun w1 hw1 => rds_own (e := eList (eVal (Value.int .i64) (fun _ => rfl)) 3) (r := 2) rfl w1 hw1) h166 (fun _ _ _ => kp) (fun a167 c168 F169 => ?_)
        refine ow_fact rfl (fun w1 hw1 => own_nn (i := 1) hw1 rfl (app_ne h166)) (fun hz170 => ?_)
        refine ow_batch [.p] rfl ?_
        refine ow_nil ?_
        refine x_qb ?_
        refine x_qs ?_
        refine c_reg ?_
        refine ow_batch [.p, .p, .p] rfl ?_
        refine ow_nil ?_
        exact x_ql (RW.at (ihk1 (l165) (a167) (c168) (F169) (IntKind.i64.wrap (i74 + 1)) (⟨hz170, H⟩)) (fun _ h => St.sel [0, 1] rfl rfl h) ⟨rfl, rfl, rfl, trivial⟩)
      · have H := of_if_f hb H
        refine c_skip ?_
        refine x_qb ?_
        refine x_qs ?_
        refine c_reg ?_
        refine ow_batch [.p, .p, .p] rfl ?_
        refine ow_nil ?_
        exact x_ql (RW.at (ihk1 (l69) (a70) (c71) (F72) (IntKind.i64.wrap (i74 + 1)) (⟨hz73, H⟩)) (fun _ h => St.sel [0, 1] rfl rfl h) ⟨rfl, rfl, rfl, trivial⟩)
    · have H := of_if_f hb H
      refine c_exit ?_
      refine x_qs_exit ?_
      refine x_ql_exit ?_
      refine x_qb_here ?_
      refine x_qs ?_
      refine c_seq ?_
      refine c_reg ?_
      refine ow_batch [.p, .p] rfl ?_
      refine ow_nil ?_
      refine x_qs ?_
      refine c_ret ?_
      exact x_retR (rs := [.tmp 2]) (vs := [.slice a70 l69.length c71]) rfl ⟨rfl, trivial⟩ (fun w' hw' => by
          obtain rfl := of_some H
          exact ⟨_, rfl, a70, l69.length, c71, F72, rfl, hw'.sel [1] rfl rfl⟩)
set_option maxHeartbeats 4000000 in
set_option maxRecDepth 100000 in
theorem spec_l16Power_ok (w : World) {p0 : Int}  {r : Int} (H : spec_l16Power p0 = some r)   :
    Calls Tryz.prog 127 #[.int .i64 p0] w (fun en w' => en = .returned (.int .i64 r) ∧ Ext [] w w') := by
  unfold spec_l16Power at H
  refine f_enter (vs := [.int .i64 p0]) Tryz.func127 rfl Tryz.ntmps127 rfl (St.init w []) ?_
  refine c_seq ?_
  refine c_reg ?_
  refine ow_batch [.p] rfl ?_
  refine ow_nil ?_
  refine x_qs ?_
  refine c_seq ?_
  refine c_reg ?_
  refine ow_batch [.p] rfl ?_
  refine ow_nil ?_
  refine x_qs ?_
  refine c_seq ?_
  refine c_seq ?_
  refine c_reg ?_
  refine ow_batch [.p] rfl ?_
  refine ow_nil ?_
  refine x_qs ?_
  refine c_block ?_
  refine CW.at (loopI2 (fun (i12 : Int) (i13 : Int) => St w [] []) (fun (i12 : Int) (i13 : Int) => [(0, .int .i64 p0), (3, .int .i64 i12), (4, .int .i64 i13)]) (fun kk => fun (i12 : Int) (i13 : Int) => spec_l16Power_L1 p0 kk i12 i13 = some r) (fun _ _ H => ?_) (fun k1 ihk1 i12 i13 H => ?_) Fuel (1) (0) (H)) (fun _ h => St.sel [] rfl rfl h) ⟨rfl, rfl, rfl,  trivial⟩
  · unfold spec_l16Power_L1 at H
    exact absurd H (by simp)
  · unfold spec_l16Power_L1 at H
    refine c_seq ?_
    refine c_seq ?_
    refine c_reg ?_
    refine ow_batch [.p, .p, .p] rfl ?_
    refine ow_nil ?_
    refine x_qs ?_
    refine c_if rfl (fun hb => ?_) (fun hb => ?_)
    · have H := of_if_t hb H
      refine c_skip ?_
      refine x_qs ?_
      refine c_seq ?_
      refine c_block ?_
      refine c_reg ?_
      refine ow_batch [.p, .p, .p] rfl ?_
      refine ow_nil ?_
      refine x_qb ?_
      refine x_qs ?_
      refine c_reg ?_
      refine ow_batch [.p, .p, .p] rfl ?_
      refine ow_nil ?_
      exact x_ql (RW.at (ihk1 (IntKind.i64.wrap (i12 * 2)) (IntKind.i64.wrap (i13 + 1)) (H)) (fun _ h => St.sel [] rfl rfl h) ⟨rfl, rfl, rfl, trivial⟩)
    · have H := of_if_f hb H
      refine c_exit ?_
      refine x_qs_exit ?_
      refine x_ql_exit ?_
      refine x_qb_here ?_
      refine x_qs ?_
      refine c_seq ?_
      refine c_reg ?_
      refine ow_batch [.p, .p] rfl ?_
      refine ow_nil ?_
      refine x_qs ?_
      refine c_ret ?_
      exact x_retR (rs := [.tmp 2]) (vs := [.int .i64 i12]) rfl ⟨rfl, trivial⟩ (fun w' hw' => by
          obtain rfl := of_some H
          exact ⟨rfl, hw'.ext⟩)
set_option maxHeartbeats 4000000 in
set_option maxRecDepth 100000 in
theorem spec_FullMask_ok (w : World) {p0 : Timpl_Attr} {cs0 : List Value} {r : Int} (H : spec_FullMask p0 = some r)  (g0 : (eTimpl_Attr).rd w [] p0 cs0) :
    Calls Tryz.prog 54 #[.agg cs0.toArray] w (fun en w' => en = .returned (.int .i64 r) ∧ Ext [] w w') := by
  obtain ⟨c10, c11, c12, rfl, g13, g14, g15⟩ := rdo_Timpl_Attr g0
  obtain rfl : c10 = [vS p0.Name_] := g13
  obtain ⟨a16, c17, rfl⟩ := rd_sl1 g14
  obtain ⟨a18, c19, rfl⟩ := rd_sl1 g15
  unfold spec_FullMask at H
  refine f_enter (vs := [.agg #[vS p0.Name_, .slice a16 p0.Cuts_.length c17, .slice a18 p0.Values_.length c19]]) Tryz.func54 rfl Tryz.ntmps54 rfl (St.init w []) ?_
  refine c_seq ?_
  refine c_reg ?_
  refine ow_box (cs := [vS p0.Name_, .slice a16 p0.Cuts_.length c17, .slice a18 p0.Values_.length c19]) rfl rfl rfl rfl rfl rfl (fun _ => kp) (fun b20 => ?_)
  refine ow_batch [.p] rfl ?_
  refine ow_nil ?_
  refine x_qs ?_
  refine c_seq ?_
  refine c_seq ?_
  refine c_reg ?_
  refine ow_r rfl (dstOk_lt rfl) (ry_box (off := 0) (ds := [vS p0.Name_, .slice a16 p0.Cuts_.length c17, .slice a18 p0.Values_.length c19]) rfl rfl ty114 (boxIn (i := 0) rfl) rfl rfl) ?_
  obtain ⟨y21, h22, H⟩ := of_bind H
  refine ow_q rfl rfl (dstOk_lt rfl) (qy_call rfl fn126 rfl (fun w1 hw1 => spec_AttrOk_ok w1 (cs0 := [vS p0.Name_, .slice a16 p0.Cuts_.length c17, .slice a18 p0.Values_.length c19]) h22 (rdm_Timpl_Attr (x := p0) (c0 := [vS p0.Name_]) (c1 := [.slice a16 p0.Cuts_.length c17]) (c2 := [.slice a18 p0.Values_.length c19]) rfl (rds_bor g14 w1 hw1) (rds_bor g15 w1 hw1)))) (fun _ _ => trivial) ?_
  refine ow_batch [.p] rfl ?_
  refine ow_nil ?_
  refine x_qs ?_
  refine c_if rfl (fun hb => ?_) (fun hb => ?_)
  · have H := of_if_t hb H
    refine c_seq ?_
    refine c_reg ?_
    refine ow_batch [.p] rfl ?_
    refine ow_nil ?_
    refine x_qs ?_
    refine c_ret ?_
    refine x_qs_ret ?_
    exact x_retR (rs := [.tmp 2]) (vs := [.int .i64 0]) rfl ⟨rfl, trivial⟩ (fun w' hw' => by
        obtain rfl := of_some H
        exact ⟨rfl, hw'.ext⟩)
  · have H := of_if_f hb H
    refine c_skip ?_
    refine x_qs ?_
    refine c_seq ?_
    refine c_reg ?_
    refine ow_r rfl (dstOk_lt rfl) (ry_box (off := 0) (ds := [vS p0.Name_, .slice a16 p0.Cuts_.length c17, .slice a18 p0.Values_.length c19]) rfl rfl ty114 (boxIn (i := 0) rfl) rfl rfl) ?_
    obtain ⟨y23, h24, H⟩ := of_bind H
    refine ow_q rfl rfl (dstOk_lt rfl) (qy_call rfl fn128 rfl (fun w1 hw1 => spec_Bins_ok w1 (cs0 := [vS p0.Name_, .slice a16 p0.Cuts_.length c17, .slice a18 p0.Values_.length c19]) h24 (rdm_Timpl_Attr (x := p0) (c0 := [vS p0.Name_]) (c1 := [.slice a16 p0.Cuts_.length c17]) (c2 := [.slice a18 p0.Values_.length c19]) rfl (rds_bor g14 w1 hw1) (rds_bor g15 w1 hw1)))) (fun _ _ => trivial) ?_
    obtain ⟨y25, h26, H⟩ := of_bind H
    refine ow_q rfl rfl (dstOk_lt rfl) (qy_call rfl fn127 rfl (fun w1 hw1 => spec_l16Power_ok w1  h26)) (fun _ _ => trivial) ?_
    refine ow_batch [.p, .p, .p] rfl ?_
    refine ow_nil ?_
    refine x_qs ?_
    refine c_ret ?_
    exact x_retR (rs := [.tmp 2]) (vs := [.int .i64 (IntKind.i64.wrap ((IntKind.i64.wrap (y25 - 1)) + 16))]) rfl ⟨rfl, trivial⟩ (fun w' hw' => by
        obtain rfl := of_some H
        exact ⟨rfl, hw'.ext⟩)
set_option maxHeartbeats 4000000 in
set_option maxRecDepth 100000 in
theorem spec_l31Branch_ok (w : World) {p0 : Timpl_Schema} {p1 : Timpl_Node} {p2 : Int} {cs0 : List Value} {cs1 : List Value} {r : Int} (H : spec_l31Branch p0 p1 p2 = some r)  (g0 : (eTimpl_Schema).rd w [] p0 cs0) (g1 : (eTimpl_Node).rd w [] p1 cs1) :
    Calls Tryz.prog 55 #[.agg cs0.toArray, .agg cs1.toArray, .int .i64 p2] w (fun en w' => en = .returned (.int .i64 r) ∧ Ext [] w w') := by
  obtain ⟨c10, c11, rfl, g12, g13⟩ := rdo_Timpl_Schema g0
  obtain ⟨a14, c15, rfl⟩ := rd_sl1 g12
  obtain ⟨a16, c17, rfl⟩ := rd_sl1 g13
  obtain ⟨c18, c19, c20, c21, c22, c23, c24, c25, c26, c27, rfl, g28, g29, g30, g31, g32, g33, g34, g35, g36, g37⟩ := rdo_Timpl_Node g1
  obtain rfl : c18 = [.bool p1.Leaf_] := g28
  obtain rfl : c19 = [.int .i64 p1.Fork_.Attr_, .int .i64 p1.Fork_.At_] := g29
  obtain ⟨a38, c39, rfl⟩ := rd_sl1 g30
  obtain rfl : c21 = [.int .i64 p1.Miss_] := g31
  obtain ⟨c40, c41, rfl, g42, g43⟩ := rdo_Timpl_Stats g32
  obtain ⟨a44, c45, rfl⟩ := rd_sl1 g42
  obtain ⟨a46, c47, rfl⟩ := rd_sl1 g43
  obtain rfl : c23 = [.int .i64 p1.Since_] := g33
  obtain ⟨a48, c49, rfl⟩ := rd_sl1 g34
  obtain rfl : c25 = [.int .i64 p1.Depth_] := g35
  obtain rfl : c26 = [.int .i64 p1.Up_] := g36
  obtain rfl : c27 = [.int .i64 p1.Born_] := g37
  unfold spec_l31Branch at H
  refine f_enter (vs := [.agg #[.slice a14 p0.Attrs_.length c15, .slice a16 p0.Classes_.length c17], .agg #[.bool p1.Leaf_, .int .i64 p1.Fork_.Attr_, .int .i64 p1.Fork_.At_, .slice a38 p1.Kids_.length c39, .int .i64 p1.Miss_, .slice a44 p1.Stats_.Totals_.length c45, .slice a46 p1.Stats_.Cells_.length c47, .int .i64 p1.Since_, .slice a48 p1.Attrs_.length c49, .int .i64 p1.Depth_, .int .i64 p1.Up_, .int .i64 p1.Born_], .int .i64 p2]) Tryz.func55 rfl Tryz.ntmps55 rfl (St.init w []) ?_
  refine c_seq ?_
  refine c_reg ?_
  refine ow_box (cs := [.slice a14 p0.Attrs_.length c15, .slice a16 p0.Classes_.length c17]) rfl rfl rfl rfl rfl rfl (fun _ => kp) (fun b50 => ?_)
  refine ow_box (cs := [.bool p1.Leaf_, .int .i64 p1.Fork_.Attr_, .int .i64 p1.Fork_.At_, .slice a38 p1.Kids_.length c39, .int .i64 p1.Miss_, .slice a44 p1.Stats_.Totals_.length c45, .slice a46 p1.Stats_.Cells_.length c47, .int .i64 p1.Since_, .slice a48 p1.Attrs_.length c49, .int .i64 p1.Depth_, .int .i64 p1.Up_, .int .i64 p1.Born_]) rfl rfl rfl rfl rfl rfl (fun _ => kp) (fun b51 => ?_)
  refine ow_batch [.p] rfl ?_
  refine ow_nil ?_
  refine x_qs ?_
  refine c_seq ?_
  refine c_reg ?_
  refine ow_batch [.p] rfl ?_
  refine ow_nil ?_
  refine x_qs ?_
  refine c_seq ?_
  refine c_seq ?_
  refine c_reg ?_
  refine ow_batch [.p] rfl ?_
  refine ow_nil ?_
  refine x_qs ?_
  refine c_block ?_
  refine CW.at (loopI2 (fun (i76 : Int) (i77 : Int) => St w [] [Res.box b50 35 [.slice a14 p0.Attrs_.length c15, .slice a16 p0.Classes_.length c17], Res.box b51 118 [.bool p1.Leaf_, .int .i64 p1.Fork_.Attr_, .int .i64 p1.Fork_.At_, .slice a38 p1.Kids_.length c39, .int .i64 p1.Miss_, .slice a44 p1.Stats_.Totals_.length c45, .slice a46 p1.Stats_.Cells_.length c47, .int .i64 p1.Since_, .slice a48 p1.Attrs_.length c49, .int .i64 p1.Depth_, .int .i64 p1.Up_, .int .i64 p1.Born_]]) (fun (i76 : Int) (i77 : Int) => [(2, .int .i64 p2), (3, .pointer (some ⟨b50, 0, none⟩)), (4, .pointer (some ⟨b51, 0, none⟩)), (7, .int .i64 i76), (8, .int .i64 i77)]) (fun kk => fun (i76 : Int) (i77 : Int) => spec_l31Branch_L1 p0 p1 p2 kk i76 i77 = some r) (fun _ _ H => ?_) (fun k1 ihk1 i76 i77 H => ?_) Fuel (0) (0) (H)) (fun _ h => St.sel [0, 1] rfl rfl h) ⟨rfl, rfl, rfl, rfl, rfl,  trivial⟩
  · unfold spec_l31Branch_L1 at H
    exact absurd H (by simp)
  · unfold spec_l31Branch_L1 at H
    refine c_seq ?_
    refine c_seq ?_
    refine c_reg ?_
    refine ow_batch [.p, .fa 35 0 0 fa35_0] rfl ?_
    refine ow_r rfl (dstOk_lt rfl) (ry_box1 (off := 0) rfl rfl ty33 (boxIn (i := 0) rfl) rfl) ?_
    refine ow_batch [.fa 118 1 1 fa118_1, .fa 116 0 0 fa116_0] rfl ?_
    refine ow_r rfl (dstOk_lt rfl) (ry_box1 (off := 1) rfl rfl ty3 (boxIn (i := 1) rfl) rfl) ?_
    obtain ⟨e102, h103, H⟩ := of_bind H
    refine ow_ixB rfl rfl rfl rfl rfl sl33 ty114 rfl g12 h103 (fun q106 c107 hd104 hA105 => ?_)
    obtain ⟨c108, c109, c110, rfl, g111, g112, g113⟩ := rdo_Timpl_Attr hd104
    obtain rfl : c108 = [vS e102.Name_] := g111
    obtain ⟨a114, c115, rfl⟩ := rd_sl1 g112
    obtain ⟨a116, c117, rfl⟩ := rd_sl1 g113
    refine ow_r rfl (dstOk_lt rfl) (ry_load (cs := [vS e102.Name_, .slice a114 e102.Cuts_.length c115, .slice a116 e102.Values_.length c117]) rfl rfl ty114 (at_bor bor hA105) rfl) ?_
    obtain ⟨y118, h119, H⟩ := of_bind H
    refine ow_q rfl rfl (dstOk_lt rfl) (qy_call rfl fn128 rfl (fun w1 hw1 => spec_Bins_ok w1 (cs0 := [vS e102.Name_, .slice a114 e102.Cuts_.length c115, .slice a116 e102.Values_.length c117]) h119 (rdm_Timpl_Attr (x := e102) (c0 := [vS e102.Name_]) (c1 := [.slice a114 e102.Cuts_.length c115]) (c2 := [.slice a116 e102.Values_.length c117]) rfl (rds_bor g112 w1 hw1) (rds_bor g113 w1 hw1)))) (fun _ _ => trivial) ?_
    refine ow_batch [.p] rfl ?_
    refine ow_nil ?_
    refine x_qs ?_
    refine c_if rfl (fun hb => ?_) (fun hb => ?_)
    · have H := of_if_t hb H
      refine c_skip ?_
      refine x_qs ?_
      refine c_seq ?_
      refine c_block ?_
      refine c_seq ?_
      refine c_reg ?_
      refine ow_r rfl (dstOk_lt rfl) (ry_box (off := 0) (ds := [.slice a14 p0.Attrs_.length c15, .slice a16 p0.Classes_.length c17]) rfl rfl ty35 (boxIn (i := 0) rfl) rfl rfl) ?_
      refine ow_batch [.fa 118 1 1 fa118_1] rfl ?_
      refine ow_r rfl (dstOk_lt rfl) (ry_box (off := 1) (ds := [.int .i64 p1.Fork_.Attr_, .int .i64 p1.Fork_.At_]) rfl rfl ty116 (boxIn (i := 1) rfl) rfl rfl) ?_
      refine ow_batch [.p] rfl ?_
      obtain ⟨y120, h121, H⟩ := of_bind H
      refine ow_q rfl rfl (dstOk_lt rfl) (qy_call rfl fn129 rfl (fun w1 hw1 => spec_BranchOf_ok w1 (p1 := p1.Fork_) (cs0 := [.slice a14 p0.Attrs_.length c15, .slice a16 p0.Classes_.length c17]) h121 (rdm_Timpl_Schema (x := p0) (c0 := [.slice a14 p0.Attrs_.length c15]) (c1 := [.slice a16 p0.Classes_.length c17]) (rds_bor g12 w1 hw1) (rds_bor g13 w1 hw1)))) (fun _ _ => trivial) ?_
      refine ow_batch [.p, .p] rfl ?_
      refine ow_nil ?_
      refine x_qs ?_
      refine c_if rfl (fun hb => ?_) (fun hb => ?_)
      · have H := of_if_t hb H
        refine c_reg ?_
        refine ow_batch [.p, .p] rfl ?_
        obtain ⟨y122, h123, H⟩ := of_bind H
        refine ow_q rfl rfl (dstOk_lt rfl) (qy_call rfl fn127 rfl (fun w1 hw1 => spec_l16Power_ok w1  h123)) (fun _ _ => trivial) ?_
        refine ow_batch [.p, .p] rfl ?_
        refine ow_nil ?_
        refine x_qb ?_
        refine x_qs ?_
        refine c_reg ?_
        refine ow_batch [.p, .p, .p] rfl ?_
        refine ow_nil ?_
        exact x_ql (RW.at (ihk1 (IntKind.i64.wrap (i76 + y122)) (IntKind.i64.wrap (i77 + 1)) (H)) (fun _ h => St.sel [0, 1] rfl rfl h) ⟨rfl, rfl, rfl, rfl, rfl, trivial⟩)
      · have H := of_if_f hb H
        refine c_skip ?_
        refine x_qb ?_
        refine x_qs ?_
        refine c_reg ?_
        refine ow_batch [.p, .p, .p] rfl ?_
        refine ow_nil ?_
        exact x_ql (RW.at (ihk1 (i76) (IntKind.i64.wrap (i77 + 1)) (H)) (fun _ h => St.sel [0, 1] rfl rfl h) ⟨rfl, rfl, rfl, rfl, rfl, trivial⟩)
    · have H := of_if_f hb H
      refine c_exit ?_
      refine x_qs_exit ?_
      refine x_ql_exit ?_
      refine x_qb_here ?_
      refine x_qs ?_
      refine c_seq ?_
      refine c_seq ?_
      refine c_reg ?_
      refine ow_batch [.fa 118 3 4 fa118_3] rfl ?_
      refine ow_r rfl (dstOk_lt rfl) (ry_box1 (off := 4) rfl rfl ty3 (boxIn (i := 1) rfl) rfl) ?_
      refine ow_batch [.p, .p] rfl ?_
      refine ow_nil ?_
      refine x_qs ?_
      refine c_if rfl (fun hb => ?_) (fun hb => ?_)
      · have H := of_if_t hb H
        refine c_reg ?_
        refine ow_batch [.p, .p, .p] rfl ?_
        refine ow_nil ?_
        refine x_qs ?_
        refine c_seq ?_
        refine c_reg ?_
        refine ow_batch [.p, .p] rfl ?_
        refine ow_nil ?_
        refine x_qs ?_
        refine c_ret ?_
        exact x_retR (rs := [.tmp 6]) (vs := [.int .i64 (IntKind.i64.wrap (i76 + 16))]) rfl ⟨rfl, trivial⟩ (fun w' hw' => by
            obtain rfl := of_some H
            exact ⟨rfl, hw'.ext⟩)
      · have H := of_if_f hb H
        refine c_skip ?_
        refine x_qs ?_
        refine c_seq ?_
        refine c_reg ?_
        refine ow_batch [.p, .p] rfl ?_
        refine ow_nil ?_
        refine x_qs ?_
        refine c_ret ?_
        exact x_retR (rs := [.tmp 6]) (vs := [.int .i64 i76]) rfl ⟨rfl, trivial⟩ (fun w' hw' => by
            obtain rfl := of_some H
            exact ⟨rfl, hw'.ext⟩)
set_option maxHeartbeats 4000000 in
set_option maxRecDepth 100000 in
theorem spec_WaysOf_ok (w : World) {M0 : List Nat} {p0 : Timpl_Schema} {p1 : Timpl_Tree} {cs0 : List Value} {cs1 : List Value} {r : List Timpl_Way} (H : spec_WaysOf p0 p1 = some r) (HS : St w M0 [] w) (g0 : (eTimpl_Schema).rd w M0 p0 cs0) (g1 : (eTimpl_Tree).rd w M0 p1 cs1) :
    Calls Tryz.prog 10 #[.agg cs0.toArray, .agg cs1.toArray] w (fun en w' => ∃ v, en = .returned v ∧ ∃ (a0 : Option Addr), ∃ (n0 : Nat), ∃ (c0 : Nat), ∃ (F0 : List Nat), v = .slice a0 n0 c0 ∧ St w M0 [Res.own (eList (eTimpl_Way) 111) F0 r [.slice a0 n0 c0]] w') := by
  obtain ⟨c10, c11, rfl, g12, g13⟩ := rdo_Timpl_Schema g0
  obtain ⟨a14, c15, rfl⟩ := rd_sl1 g12
  obtain ⟨a16, c17, rfl⟩ := rd_sl1 g13
  obtain ⟨c18, c19, rfl, g20, g21⟩ := rdo_Timpl_Tree g1
  obtain ⟨a22, c23, rfl⟩ := rd_sl1 g20
  obtain rfl : c19 = [.int .i64 p1.Seen_] := g21
  unfold spec_WaysOf at H
  refine f_enter (vs := [.agg #[.slice a14 p0.Attrs_.length c15, .slice a16 p0.Classes_.length c17], .agg #[.slice a22 p1.Nodes_.length c23, .int .i64 p1.Seen_]]) Tryz.func10 rfl Tryz.ntmps10 rfl (HS) ?_
  refine c_seq ?_
  refine c_reg ?_
  refine ow_box (cs := [.slice a14 p0.Attrs_.length c15, .slice a16 p0.Classes_.length c17]) rfl rfl rfl rfl rfl rfl (fun _ => kp) (fun b24 => ?_)
  refine ow_box (cs := [.slice a22 p1.Nodes_.length c23, .int .i64 p1.Seen_]) rfl rfl rfl rfl rfl rfl (fun _ => kp) (fun b25 => ?_)
  refine ow_batch [.p] rfl ?_
  refine ow_nil ?_
  refine x_qs ?_
  refine c_seq ?_
  refine c_reg ?_
  refine ow_blit0 (e := eTimpl_Way) rfl rfl rfl rfl sl31 ty111 (fun _ => kp) (fun b26 => ?_)
  refine ow_batch [.p] rfl ?_
  refine ow_nil ?_
  refine x_qs ?_
  refine c_seq ?_
  refine c_seq ?_
  refine c_reg ?_
  refine ow_r rfl (dstOk_lt rfl) (ry_box (off := 0) (ds := [.slice a14 p0.Attrs_.length c15, .slice a16 p0.Classes_.length c17]) rfl rfl ty35 (boxIn (i := 0) rfl) rfl rfl) ?_
  refine ow_r rfl (dstOk_lt rfl) (ry_box (off := 0) (ds := [.slice a22 p1.Nodes_.length c23, .int .i64 p1.Seen_]) rfl rfl ty39 (boxIn (i := 1) rfl) rfl rfl) ?_
  obtain ⟨y27, h28, H⟩ := of_bind H
  refine ow_q rfl rfl (dstOk_lt rfl) (qy_call rfl fn52 rfl (fun w1 hw1 => spec_TreeOk_ok w1 (cs0 := [.slice a14 p0.Attrs_.length c15, .slice a16 p0.Classes_.length c17]) (cs1 := [.slice a22 p1.Nodes_.length c23, .int .i64 p1.Seen_]) h28 (rdm_Timpl_Schema (x := p0) (c0 := [.slice a14 p0.Attrs_.length c15]) (c1 := [.slice a16 p0.Classes_.length c17]) (rds_bor g12 w1 hw1) (rds_bor g13 w1 hw1)) (rdm_Timpl_Tree (x := p1) (c0 := [.slice a22 p1.Nodes_.length c23]) (c1 := [.int .i64 p1.Seen_]) (rds_bor g20 w1 hw1) rfl))) (fun _ _ => trivial) ?_
  refine ow_batch [.p] rfl ?_
  refine ow_nil ?_
  refine x_qs ?_
  refine c_if rfl (fun hb => ?_) (fun hb => ?_)
  · have H := of_if_t hb H
    refine c_seq ?_
    refine c_reg ?_
    refine ow_batch [.p, .p] rfl ?_
    refine ow_nil ?_
    refine x_qs ?_
    refine c_ret ?_
    refine x_qs_ret ?_
    exact x_retR (rs := [.tmp 4]) (vs := [.slice (some ⟨b26, 0, none⟩) 0 0]) rfl ⟨rfl, trivial⟩ (fun w' hw' => by
        obtain rfl := of_some H
        exact ⟨_, rfl, (some ⟨b26, 0, none⟩), 0, 0, [b26], rfl, hw'.sel [2] rfl rfl⟩)
  · have H := of_if_f hb H
    refine c_skip ?_
    refine x_qs ?_
    refine c_seq ?_
    refine c_reg ?_
    refine ow_r rfl (dstOk_lt rfl) (ry_box (off := 0) (ds := [.slice a22 p1.Nodes_.length c23, .int .i64 p1.Seen_]) rfl rfl ty39 (boxIn (i := 1) rfl) rfl rfl) ?_
    obtain ⟨y29, h30, H⟩ := of_bind H
    refine ow_callS rfl fn53 rfl rfl rfl rfl (fun w1 hw1 => spec_Leaves_ok w1 (cs0 := [.slice a22 p1.Nodes_.length c23, .int .i64 p1.Seen_]) h30 (hw1.carve [] rfl rfl) (rdm_Timpl_Tree (x := p1) (c0 := [.slice a22 p1.Nodes_.length c23]) (c1 := [.int .i64 p1.Seen_]) (rds_bor g20 w1 hw1) rfl)) (fun v31 w1 w2 hw1 hR33 => ?_)
    obtain ⟨a34, n35, c36, F37, rfl, hS32⟩ := hR33
    obtain rfl := own_nS (i := 0) hS32 rfl
    refine ⟨St w M0 [_, _, _, _], hw1.comp [] rfl rfl hS32, fun _ _ => trivial, ?_⟩
    refine ow_batch [.p] rfl ?_
    refine ow_nil ?_
    refine x_qs ?_
    refine c_seq ?_
    refine c_seq ?_
    refine c_reg ?_
    refine ow_batch [.p] rfl ?_
    refine ow_nil ?_
    refine x_qs ?_
    refine c_block ?_
    refine CW.at (loopI5 (fun (l988 : List Timpl_Way) (a989 : Option Addr) (c990 : Nat) (F991 : List Nat) (i992 : Int) => St w M0 [Res.box b24 35 [.slice a14 p0.Attrs_.length c15, .slice a16 p0.Classes_.length c17], Res.box b25 39 [.slice a22 p1.Nodes_.length c23, .int .i64 p1.Seen_], Res.own (eList (eTimpl_Way) 111) F991 l988 [.slice a989 l988.length c990], Res.own (eList (eVal (Value.int .i64) (fun _ => rfl)) 3) F37 y29 [.slice a34 y29.length c36]]) (fun (l988 : List Timpl_Way) (a989 : Option Addr) (c990 : Nat) (F991 : List Nat) (i992 : Int) => [(2, .pointer (some ⟨b24, 0, none⟩)), (3, .pointer (some ⟨b25, 0, none⟩)), (5, .slice a989 l988.length c990), (6, .slice a34 y29.length c36), (7, .int .i64 i992)]) (fun kk => fun (l988 : List Timpl_Way) (a989 : Option Addr) (c990 : Nat) (F991 : List Nat) (i992 : Int) => spec_WaysOf_L1 y29 p0 p1 kk l988 i992 = some r) (fun _ _ _ _ _ H => ?_) (fun k1 ihk1 l988 a989 c990 F991 i992 H => ?_) Fuel (([] : List Timpl_Way)) ((some ⟨b26, 0, none⟩)) (0) ([b26]) (0) (H)) (fun _ h => St.sel [0, 1, 2, 3] rfl rfl h) ⟨rfl, rfl, rfl, rfl, rfl,  trivial⟩
    · unfold spec_WaysOf_L1 at H
      exact absurd H (by simp)
    · unfold spec_WaysOf_L1 at H
      refine c_seq ?_
      refine c_seq ?_
      refine c_reg ?_
      refine ow_batch [.p, .p, .lenS 59 3 sl59, .p] rfl ?_
      refine ow_nil ?_
      refine x_qs ?_
      refine c_if rfl (fun hb => ?_) (fun hb => ?_)
      · have H := of_if_t hb H
        refine c_skip ?_
        refine x_qs ?_
        refine c_seq ?_
        refine c_block ?_
        refine c_seq ?_
        refine c_reg ?_
        refine ow_batch [.p, .p] rfl ?_
        obtain ⟨e1943, h1944, H⟩ := of_bind H
        refine ow_ixE (e := eVal (Value.int .i64) (fun _ => rfl)) (xs := y29) (j := i992) rfl rfl rfl rfl rfl sl59 ty3 rfl (fun w1 hw1 => rds_own (e := eList (eVal (Value.int .i64) (fun _ => rfl)) 3) (r := 3) rfl w1 hw1) h1944 (by rw [Nat.mul_one]) ?_
        refine ow_r rfl (dstOk_lt rfl) (ry_load1 rfl rfl ty3 (at_elV (fun w1 hw1 => rds_own (e := eList (eVal (Value.int .i64) (fun _ => rfl)) 3) (r := 3) rfl w1 hw1) h1944)) ?_
        refine ow_r rfl (dstOk_lt rfl) (ry_build2 [(0, [.int .i64 e1943])] [.int .i64 e1943, .slice none 0 0] rfl rfl ty111 fs111 rfl ⟨rfl, rfl, Nat.le_of_ble_eq_true rfl,  trivial⟩ rfl) ?_
        refine ow_alloc rfl rfl rfl rfl ty111 (fun _ => kp) (fun b1945 => ?_)
        refine ow_storeC (off := 0) [.int .i64 e1943, .slice none 0 0] [_, _] (i := 4) rfl rfl rfl rfl rfl rfl ty111 rfl rfl (by intro u hu; simp only [List.mem_cons, List.not_mem_nil, or_false] at hu; rcases hu with rfl | rfl <;> rfl) rfl rfl rfl kp ?_
        refine ow_nil ?_
        refine x_qs ?_
        refine c_seq ?_
        refine c_seq ?_
        refine c_reg ?_
        refine ow_batch [.p] rfl ?_
        refine ow_nil ?_
        refine x_qs ?_
        refine c_block ?_
        refine CW.weak ?_ (fun _ h => St.pushNil (e := eVal (Value.int .i64) (fun _ => rfl)) (T := 3) h)
        refine CW.at (loopI5 (fun (l1995 : List Int) (a1996 : Option Addr) (c1997 : Nat) (F1998 : List Nat) (i1999 : Int) => St w M0 [Res.box b24 35 [.slice a14 p0.Attrs_.length c15, .slice a16 p0.Classes_.length c17], Res.box b25 39 [.slice a22 p1.Nodes_.length c23, .int .i64 p1.Seen_], Res.own (eList (eTimpl_Way) 111) F991 l988 [.slice a989 l988.length c990], Res.own (eList (eVal (Value.int .i64) (fun _ => rfl)) 3) F37 y29 [.slice a34 y29.length c36], Res.box b1945 111 [.int .i64 e1943, .slice a1996 l1995.length c1997], Res.own (eList (eVal (Value.int .i64) (fun _ => rfl)) 3) F1998 l1995 [.slice a1996 l1995.length c1997]]) (fun (l1995 : List Int) (a1996 : Option Addr) (c1997 : Nat) (F1998 : List Nat) (i1999 : Int) => [(2, .pointer (some ⟨b24, 0, none⟩)), (3, .pointer (some ⟨b25, 0, none⟩)), (5, .slice a989 l988.length c990), (6, .slice a34 y29.length c36), (7, .int .i64 i992), (8, .pointer (some ⟨b1945, 0, none⟩)), (9, .int .i64 i1999)]) (fun kk => fun (l1995 : List Int) (a1996 : Option Addr) (c1997 : Nat) (F1998 : List Nat) (i1999 : Int) => spec_WaysOf_L2 p0 y29 i992 p1 l988 e1943 (spec_WaysOf_L1 y29 p0 p1 k1) kk l1995 i1999 = some r) (fun _ _ _ _ _ H => ?_) (fun k2 ihk2 l1995 a1996 c1997 F1998 i1999 H => ?_) Fuel (([] : List Int)) (none) (0) ([]) (0) (H)) (fun _ h => St.sel [0, 1, 2, 3, 4, 5] rfl rfl h) ⟨rfl, rfl, rfl, rfl, rfl, rfl, rfl,  trivial⟩
        · unfold spec_WaysOf_L2 at H
          exact absurd H (by simp)
        · unfold spec_WaysOf_L2 at H
          refine c_seq ?_
          refine c_seq ?_
          refine c_reg ?_
          refine ow_batch [.p, .fa 35 0 0 fa35_0] rfl ?_
          refine ow_r rfl (dstOk_lt rfl) (ry_box1 (off := 0) rfl rfl ty33 (boxIn (i := 0) rfl) rfl) ?_
          refine ow_batch [.lenS 33 114 sl33, .p] rfl ?_
          refine ow_nil ?_
          refine x_qs ?_
          refine c_if rfl (fun hb => ?_) (fun hb => ?_)
          · have H := of_if_t hb H
            refine c_skip ?_
            refine x_qs ?_
            refine c_seq ?_
            refine c_block ?_
            refine c_regHT 9 [(0, true), (1, true), (2, true), (3, true), (4, true), (5, true), (6, true), (7, false), (8, false)] (St w M0 [Res.box b24 35 [.slice a14 p0.Attrs_.length c15, .slice a16 p0.Classes_.length c17], Res.box b25 39 [.slice a22 p1.Nodes_.length c23, .int .i64 p1.Seen_], Res.own (eList (eTimpl_Way) 111) F991 l988 [.slice a989 l988.length c990], Res.own (eList (eVal (Value.int .i64) (fun _ => rfl)) 3) F37 y29 [.slice a34 y29.length c36], Res.box b1945 111 [.int .i64 e1943, .slice a1996 l1995.length c1997], Res.own (eList (eVal (Value.int .i64) (fun _ => rfl)) 3) F1998 l1995 [.slice a1996 l1995.length c1997]]) mixed (by kernel_rfl) (panicOk_qb (panicOk_qs (panicOk_ql (panicOk_qb (panicOk_qs (panicOk_qb (panicOk_qs (panicOk_ql (panicOk_qb (panicOk_qs panicOk_body)))))))))) (fun _ h => St.mask [true, true, true, true, true, true] rfl h) ?_
            refine ow_batch [.fa 111 1 1 fa111_1] rfl ?_
            refine ow_rH rfl (dstOk_lt rfl) (ry_box1 (off := 1) rfl rfl ty59 (boxIn (i := 4) rfl) rfl) ?_
            refine ow_batch [.fa 35 0 0 fa35_0] rfl ?_
            refine ow_rH rfl (dstOk_lt rfl) (ry_box1 (off := 0) rfl rfl ty33 (boxIn (i := 0) rfl) rfl) ?_
            refine ow_batch [.p] rfl ?_
            obtain ⟨e2068, h2069, H⟩ := of_bind H
            refine ow_ixB rfl rfl rfl rfl rfl sl33 ty114 rfl g12 h2069 (fun q2072 c2073 hd2070 hA2071 => ?_)
            obtain ⟨c2074, c2075, c2076, rfl, g2077, g2078, g2079⟩ := rdo_Timpl_Attr hd2070
            obtain rfl : c2074 = [vS e2068.Name_] := g2077
            obtain ⟨a2080, c2081, rfl⟩ := rd_sl1 g2078
            obtain ⟨a2082, c2083, rfl⟩ := rd_sl1 g2079
            refine ow_rH rfl (dstOk_lt rfl) (ry_load (cs := [vS e2068.Name_, .slice a2080 e2068.Cuts_.length c2081, .slice a2082 e2068.Values_.length c2083]) rfl rfl ty114 (at_bor (fun _ h => h.ext) hA2071) rfl) ?_
            obtain ⟨y2084, h2085, H⟩ := of_bind H
            refine ow_q rfl rfl (dstOk_lt rfl) (qy_call rfl fn54 rfl (fun w1 hw1 => spec_FullMask_ok w1 (cs0 := [vS e2068.Name_, .slice a2080 e2068.Cuts_.length c2081, .slice a2082 e2068.Values_.length c2083]) h2085 (rdm_Timpl_Attr (x := e2068) (c0 := [vS e2068.Name_]) (c1 := [.slice a2080 e2068.Cuts_.length c2081]) (c2 := [.slice a2082 e2068.Values_.length c2083]) rfl (rds_bor g2078 w1 hw1) (rds_bor g2079 w1 hw1)))) (fun _ h => St.mask [true, true, true, true, true, true] rfl h) ?_
            refine ow_blit (val := Value.int .i64) (h1 := fun _ => rfl) [y2084] [(0, [.int .i64 y2084])] rfl rfl rfl rfl rfl sl59 ty3 rfl rfl rfl ⟨rfl, rfl, Nat.le_of_ble_eq_true rfl,  trivial⟩ rfl rfl (fun _ => (fun _ h => St.mask [true, true, true, true, true, true] rfl h)) (fun b2086 => ?_)
            refine ow_nilH ?_
            refine x_qt ?_
            obtain ⟨l2087, h2088, H⟩ := of_bind H
            refine ow_appR (r := 5) (ys := ([y2084] : List Int)) rfl rfl rfl rfl rfl rfl sl59 ty3 rfl rfl rfl (fun w1 hw1 => rds_own (e := eList (eVal (Value.int .i64) (fun _ => rfl)) 3) (r := 6) rfl w1 hw1) h2088 (fun _ _ _ => kp) (fun a2089 c2090 F2091 => ?_)
            refine ow_fact rfl (fun w1 hw1 => own_nn (i := 5) hw1 rfl (app_ne h2088)) (fun hz2092 => ?_)
            refine ow_batch [.fa 111 1 1 fa111_1] rfl ?_
            refine ow_storeC (off := 1) [.slice a2089 l2087.length c2090] [_, _] (i := 4) rfl rfl rfl rfl rfl rfl ty59 rfl rfl (by intro u hu; simp only [List.mem_cons, List.not_mem_nil, or_false] at hu; rcases hu with rfl <;> rfl) rfl rfl rfl kp ?_
            refine ow_nil ?_
            refine x_qb ?_
            refine x_qs ?_
            refine c_reg ?_
            refine ow_batch [.p, .p, .p] rfl ?_
            refine ow_nil ?_
            exact x_ql (RW.at (ihk2 (l2087) (a2089) (c2090) (F2091) (IntKind.i64.wrap (i1999 + 1)) (H)) (fun _ h => St.sel [0, 1, 2, 3, 4, 5] rfl rfl h) ⟨rfl, rfl, rfl, rfl, rfl, rfl, rfl, trivial⟩)
          · have H := of_if_f hb H
            refine c_exit ?_
            refine x_qs_exit ?_
            refine x_ql_exit ?_
            refine x_qb_here ?_
            refine x_qs ?_
            refine c_seq ?_
            refine c_reg ?_
            refine ow_batch [.p, .p] rfl ?_
            obtain ⟨e2093, h2094, H⟩ := of_bind H
            refine ow_ixE (e := eVal (Value.int .i64) (fun _ => rfl)) (xs := y29) (j := i992) rfl rfl rfl rfl rfl sl59 ty3 rfl (fun w1 hw1 => rds_own (e := eList (eVal (Value.int .i64) (fun _ => rfl)) 3) (r := 3) rfl w1 hw1) h2094 (by rw [Nat.mul_one]) ?_
            refine ow_r rfl (dstOk_lt rfl) (ry_load1 rfl rfl ty3 (at_elV (fun w1 hw1 => rds_own (e := eList (eVal (Value.int .i64) (fun _ => rfl)) 3) (r := 3) rfl w1 hw1) h2094)) ?_
            refine ow_batch [.p] rfl ?_
            refine ow_nil ?_
            refine x_qs ?_
            refine c_seq ?_
            refine c_block ?_
            refine CW.at (loopI2 (fun (i2357 : Int) (l2358 : List Int) => St w M0 [Res.box b24 35 [.slice a14 p0.Attrs_.length c15, .slice a16 p0.Classes_.length c17], Res.box b25 39 [.slice a22 p1.Nodes_.length c23, .int .i64 p1.Seen_], Res.own (eList (eTimpl_Way) 111) F991 l988 [.slice a989 l988.length c990], Res.own (eList (eVal (Value.int .i64) (fun _ => rfl)) 3) F37 y29 [.slice a34 y29.length c36], Res.box b1945 111 [.int .i64 e1943, .slice a1996 l1995.length c1997], Res.own (eList (eVal (Value.int .i64) (fun _ => rfl)) 3) F1998 l2358 [.slice a1996 l1995.length c1997]]) (fun (i2357 : Int) (l2358 : List Int) => [(2, .pointer (some ⟨b24, 0, none⟩)), (3, .pointer (some ⟨b25, 0, none⟩)), (5, .slice a989 l988.length c990), (6, .slice a34 y29.length c36), (7, .int .i64 i992), (8, .pointer (some ⟨b1945, 0, none⟩)), (10, .int .i64 i2357)]) (fun kk => fun (i2357 : Int) (l2358 : List Int) => spec_WaysOf_L3 p1 p0 l988 e1943 (spec_WaysOf_L1 y29 p0 p1 k1) i992 kk i2357 l2358 = some r) (fun _ _ H => ?_) (fun k3 ihk3 i2357 l2358 H => ?_) Fuel (e2093) (l1995) (H)) (fun _ h => St.sel [0, 1, 2, 3, 4, 5] rfl rfl h) ⟨rfl, rfl, rfl, rfl, rfl, rfl, rfl,  trivial⟩
            · unfold spec_WaysOf_L3 at H
              exact absurd H (by simp)
            · unfold spec_WaysOf_L3 at H
              refine c_seq ?_
              refine c_seq ?_
              refine c_reg ?_
              refine ow_batch [.fa 39 0 0 fa39_0] rfl ?_
              refine ow_r rfl (dstOk_lt rfl) (ry_box1 (off := 0) rfl rfl ty37 (boxIn (i := 1) rfl) rfl) ?_
              refine ow_batch [.p] rfl ?_
              obtain ⟨e2621, h2622, H⟩ := of_bind H
              refine ow_ixB rfl rfl rfl rfl rfl sl37 ty118 rfl g20 h2622 (fun q2625 c2626 hd2623 hA2624 => ?_)
              obtain ⟨c2627, c2628, c2629, c2630, c2631, c2632, c2633, c2634, c2635, c2636, rfl, g2637, g2638, g2639, g2640, g2641, g2642, g2643, g2644, g2645, g2646⟩ := rdo_Timpl_Node hd2623
              obtain rfl : c2627 = [.bool e2621.Leaf_] := g2637
              obtain rfl : c2628 = [.int .i64 e2621.Fork_.Attr_, .int .i64 e2621.Fork_.At_] := g2638
              obtain ⟨a2647, c2648, rfl⟩ := rd_sl1 g2639
              obtain rfl : c2630 = [.int .i64 e2621.Miss_] := g2640
              obtain ⟨c2649, c2650, rfl, g2651, g2652⟩ := rdo_Timpl_Stats g2641
              obtain ⟨a2653, c2654, rfl⟩ := rd_sl1 g2651
              obtain ⟨a2655, c2656, rfl⟩ := rd_sl1 g2652
              obtain rfl : c2632 = [.int .i64 e2621.Since_] := g2642
              obtain ⟨a2657, c2658, rfl⟩ := rd_sl1 g2643
              obtain rfl : c2634 = [.int .i64 e2621.Depth_] := g2644
              obtain rfl : c2635 = [.int .i64 e2621.Up_] := g2645
              obtain rfl : c2636 = [.int .i64 e2621.Born_] := g2646
              refine ow_batch [.fa 118 8 10 fa118_8] rfl ?_
              refine ow_r rfl (dstOk_lt rfl) (ry_load1 rfl rfl ty3 (at_bor bor (at_K hA2624 10 1))) ?_
              refine ow_batch [.p] rfl ?_
              refine ow_nil ?_
              refine x_qs ?_
              refine c_if rfl (fun hb => ?_) (fun hb => ?_)
              · have H := of_if_t hb H
                refine c_skip ?_
                refine x_qs ?_
                refine c_block ?_
                refine c_seq ?_
                refine c_regHT 11 [(0, true), (1, true), (2, true), (3, true), (4, true), (5, true), (6, true), (7, true), (8, true), (9, true), (10, false)] (St w M0 [Res.box b24 35 [.slice a14 p0.Attrs_.length c15, .slice a16 p0.Classes_.length c17], Res.box b25 39 [.slice a22 p1.Nodes_.length c23, .int .i64 p1.Seen_], Res.own (eList (eTimpl_Way) 111) F991 l988 [.slice a989 l988.length c990], Res.own (eList (eVal (Value.int .i64) (fun _ => rfl)) 3) F37 y29 [.slice a34 y29.length c36], Res.box b1945 111 [.int .i64 e1943, .slice a1996 l1995.length c1997], Res.own (eList (eVal (Value.int .i64) (fun _ => rfl)) 3) F1998 l2358 [.slice a1996 l1995.length c1997]]) mixed (by kernel_rfl) (panicOk_qs (panicOk_qb (panicOk_ql (panicOk_qb (panicOk_qs (panicOk_qb (panicOk_qs (panicOk_ql (panicOk_qb (panicOk_qs panicOk_body)))))))))) (fun _ h => St.mask [true, true, true, true, true, true] rfl h) ?_
                refine ow_batch [.fa 39 0 0 fa39_0] rfl ?_
                refine ow_rH rfl (dstOk_lt rfl) (ry_box1 (off := 0) rfl rfl ty37 (boxIn (i := 1) rfl) rfl) ?_
                refine ow_batch [.fa 39 0 0 fa39_0] rfl ?_
                refine ow_rH rfl (dstOk_lt rfl) (ry_box1 (off := 0) rfl rfl ty37 (boxIn (i := 1) rfl) rfl) ?_
                refine ow_batch [.p] rfl ?_
                obtain ⟨e2736, h2737, H⟩ := of_bind H
                refine ow_ixB rfl rfl rfl rfl rfl sl37 ty118 rfl g20 h2737 (fun q2740 c2741 hd2738 hA2739 => ?_)
                obtain ⟨c2742, c2743, c2744, c2745, c2746, c2747, c2748, c2749, c2750, c2751, rfl, g2752, g2753, g2754, g2755, g2756, g2757, g2758, g2759, g2760, g2761⟩ := rdo_Timpl_Node hd2738
                obtain rfl : c2742 = [.bool e2736.Leaf_] := g2752
                obtain rfl : c2743 = [.int .i64 e2736.Fork_.Attr_, .int .i64 e2736.Fork_.At_] := g2753
                obtain ⟨a2762, c2763, rfl⟩ := rd_sl1 g2754
                obtain rfl : c2745 = [.int .i64 e2736.Miss_] := g2755
                obtain ⟨c2764, c2765, rfl, g2766, g2767⟩ := rdo_Timpl_Stats g2756
                obtain ⟨a2768, c2769, rfl⟩ := rd_sl1 g2766
                obtain ⟨a2770, c2771, rfl⟩ := rd_sl1 g2767
                obtain rfl : c2747 = [.int .i64 e2736.Since_] := g2757
                obtain ⟨a2772, c2773, rfl⟩ := rd_sl1 g2758
                obtain rfl : c2749 = [.int .i64 e2736.Depth_] := g2759
                obtain rfl : c2750 = [.int .i64 e2736.Up_] := g2760
                obtain rfl : c2751 = [.int .i64 e2736.Born_] := g2761
                refine ow_batch [.fa 118 8 10 fa118_8] rfl ?_
                refine ow_rH rfl (dstOk_lt rfl) (ry_load1 rfl rfl ty3 (at_bor (fun _ h => h.ext) (at_K hA2739 10 1))) ?_
                obtain ⟨e2774, h2775, H⟩ := of_bind H
                refine ow_ixB rfl rfl rfl rfl rfl sl37 ty118 rfl g20 h2775 (fun q2778 c2779 hd2776 hA2777 => ?_)
                obtain ⟨c2780, c2781, c2782, c2783, c2784, c2785, c2786, c2787, c2788, c2789, rfl, g2790, g2791, g2792, g2793, g2794, g2795, g2796, g2797, g2798, g2799⟩ := rdo_Timpl_Node hd2776
                obtain rfl : c2780 = [.bool e2774.Leaf_] := g2790
                obtain rfl : c2781 = [.int .i64 e2774.Fork_.Attr_, .int .i64 e2774.Fork_.At_] := g2791
                obtain ⟨a2800, c2801, rfl⟩ := rd_sl1 g2792
                obtain rfl : c2783 = [.int .i64 e2774.Miss_] := g2793
                obtain ⟨c2802, c2803, rfl, g2804, g2805⟩ := rdo_Timpl_Stats g2794
                obtain ⟨a2806, c2807, rfl⟩ := rd_sl1 g2804
                obtain ⟨a2808, c2809, rfl⟩ := rd_sl1 g2805
                obtain rfl : c2785 = [.int .i64 e2774.Since_] := g2795
                obtain ⟨a2810, c2811, rfl⟩ := rd_sl1 g2796
                obtain rfl : c2787 = [.int .i64 e2774.Depth_] := g2797
                obtain rfl : c2788 = [.int .i64 e2774.Up_] := g2798
                obtain rfl : c2789 = [.int .i64 e2774.Born_] := g2799
                refine ow_rH rfl (dstOk_lt rfl) (ry_load (cs := [.bool e2774.Leaf_, .int .i64 e2774.Fork_.Attr_, .int .i64 e2774.Fork_.At_, .slice a2800 e2774.Kids_.length c2801, .int .i64 e2774.Miss_, .slice a2806 e2774.Stats_.Totals_.length c2807, .slice a2808 e2774.Stats_.Cells_.length c2809, .int .i64 e2774.Since_, .slice a2810 e2774.Attrs_.length c2811, .int .i64 e2774.Depth_, .int .i64 e2774.Up_, .int .i64 e2774.Born_]) rfl rfl ty118 (at_bor (fun _ h => h.ext) hA2777) rfl) ?_
                refine ow_alloc rfl rfl rfl rfl ty118 (fun _ => (fun _ h => St.mask [true, true, true, true, true, true] rfl h)) (fun b2812 => ?_)
                refine ow_nilH ?_
                refine x_qt ?_
                refine ow_storeC (off := 0) [.bool e2774.Leaf_, .int .i64 e2774.Fork_.Attr_, .int .i64 e2774.Fork_.At_, .slice a2800 e2774.Kids_.length c2801, .int .i64 e2774.Miss_, .slice a2806 e2774.Stats_.Totals_.length c2807, .slice a2808 e2774.Stats_.Cells_.length c2809, .int .i64 e2774.Since_, .slice a2810 e2774.Attrs_.length c2811, .int .i64 e2774.Depth_, .int .i64 e2774.Up_, .int .i64 e2774.Born_] [_, _, _, _, _, _, _, _, _, _, _, _] (i := 6) rfl rfl rfl rfl rfl rfl ty118 rfl rfl (by intro u hu; simp only [List.mem_cons, List.not_mem_nil, or_false] at hu; rcases hu with rfl | rfl | rfl | rfl | rfl | rfl | rfl | rfl | rfl | rfl | rfl | rfl <;> rfl) rfl rfl rfl kp ?_
                refine ow_nil ?_
                refine x_qs ?_
                refine c_seq ?_
                refine c_seq ?_
                refine c_reg ?_
                refine ow_batch [.p] rfl ?_
                refine ow_nil ?_
                refine x_qs ?_
                refine c_block ?_
                refine CW.at (loopI2 (fun (i2823 : Int) (l2824 : List Int) => St w M0 [Res.box b2812 118 [.bool e2774.Leaf_, .int .i64 e2774.Fork_.Attr_, .int .i64 e2774.Fork_.At_, .slice a2800 e2774.Kids_.length c2801, .int .i64 e2774.Miss_, .slice a2806 e2774.Stats_.Totals_.length c2807, .slice a2808 e2774.Stats_.Cells_.length c2809, .int .i64 e2774.Since_, .slice a2810 e2774.Attrs_.length c2811, .int .i64 e2774.Depth_, .int .i64 e2774.Up_, .int .i64 e2774.Born_], Res.box b24 35 [.slice a14 p0.Attrs_.length c15, .slice a16 p0.Classes_.length c17], Res.box b25 39 [.slice a22 p1.Nodes_.length c23, .int .i64 p1.Seen_], Res.own (eList (eTimpl_Way) 111) F991 l988 [.slice a989 l988.length c990], Res.own (eList (eVal (Value.int .i64) (fun _ => rfl)) 3) F37 y29 [.slice a34 y29.length c36], Res.box b1945 111 [.int .i64 e1943, .slice a1996 l1995.length c1997], Res.own (eList (eVal (Value.int .i64) (fun _ => rfl)) 3) F1998 l2824 [.slice a1996 l1995.length c1997]]) (fun (i2823 : Int) (l2824 : List Int) => [(2, .pointer (some ⟨b24, 0, none⟩)), (3, .pointer (some ⟨b25, 0, none⟩)), (5, .slice a989 l988.length c990), (6, .slice a34 y29.length c36), (7, .int .i64 i992), (8, .pointer (some ⟨b1945, 0, none⟩)), (10, .int .i64 i2357), (11, .pointer (some ⟨b2812, 0, none⟩)), (12, .int .i64 i2823)]) (fun kk => fun (i2823 : Int) (l2824 : List Int) => spec_WaysOf_L4 e2774 i2357 p0 p1 (spec_WaysOf_L3 p1 p0 l988 e1943 (spec_WaysOf_L1 y29 p0 p1 k1) i992 k3) kk i2823 l2824 = some r) (fun _ _ H => ?_) (fun k4 ihk4 i2823 l2824 H => ?_) Fuel (0) (l2358) (H)) (fun _ h => St.sel [6, 0, 1, 2, 3, 4, 5] rfl rfl h) ⟨rfl, rfl, rfl, rfl, rfl, rfl, rfl, rfl, rfl,  trivial⟩
                · unfold spec_WaysOf_L4 at H
                  exact absurd H (by simp)
                · unfold spec_WaysOf_L4 at H
                  refine c_seq ?_
                  refine c_seq ?_
                  refine c_reg ?_
                  refine ow_batch [.p, .fa 118 2 3 fa118_2] rfl ?_
                  refine ow_r rfl (dstOk_lt rfl) (ry_box1 (off := 3) rfl rfl ty59 (boxIn (i := 0) rfl) rfl) ?_
                  refine ow_batch [.lenS 59 3 sl59, .p] rfl ?_
                  refine ow_nil ?_
                  refine x_qs ?_
                  refine c_if rfl (fun hb => ?_) (fun hb => ?_)
                  · have H := of_if_t hb H
                    refine c_skip ?_
                    refine x_qs ?_
                    refine c_seq ?_
                    refine c_block ?_
                    refine c_seq ?_
                    refine c_reg ?_
                    refine ow_batch [.fa 118 2 3 fa118_2] rfl ?_
                    refine ow_r rfl (dstOk_lt rfl) (ry_box1 (off := 3) rfl rfl ty59 (boxIn (i := 0) rfl) rfl) ?_
                    refine ow_batch [.p] rfl ?_
                    obtain ⟨e2835, h2836, H⟩ := of_bind H
                    refine ow_ixE (e := eVal (Value.int .i64) (fun _ => rfl)) (xs := e2774.Kids_) (j := i2823) rfl rfl rfl rfl rfl sl59 ty3 rfl (fun w1 hw1 => rds_bor g2792 w1 hw1) h2836 (by rw [Nat.mul_one]) ?_
                    refine ow_r rfl (dstOk_lt rfl) (ry_load1 rfl rfl ty3 (at_elV (fun w1 hw1 => rds_bor g2792 w1 hw1) h2836)) ?_
                    refine ow_batch [.p, .p] rfl ?_
                    refine ow_nil ?_
                    refine x_qs ?_
                    refine c_if rfl (fun hb => ?_) (fun hb => ?_)
                    · have H := of_if_t hb H
                      refine c_regT 18 mixed (by kernel_rfl) ?_
                      refine ow_batch [.fa 111 1 1 fa111_1] rfl ?_
                      refine ow_r rfl (dstOk_lt rfl) (ry_box1 (off := 1) rfl rfl ty59 (boxIn (i := 5) rfl) rfl) ?_
                      refine ow_batch [.fa 118 1 1 fa118_1, .fa 116 0 0 fa116_0] rfl ?_
                      refine ow_r rfl (dstOk_lt rfl) (ry_box1 (off := 1) rfl rfl ty3 (boxIn (i := 0) rfl) rfl) ?_
                      refine ow_batch [.fa 111 1 1 fa111_1] rfl ?_
                      refine ow_r rfl (dstOk_lt rfl) (ry_box1 (off := 1) rfl rfl ty59 (boxIn (i := 5) rfl) rfl) ?_
                      refine ow_batch [.fa 118 1 1 fa118_1, .fa 116 0 0 fa116_0] rfl ?_
                      refine ow_r rfl (dstOk_lt rfl) (ry_box1 (off := 1) rfl rfl ty3 (boxIn (i := 0) rfl) rfl) ?_
                      obtain ⟨e2837, h2838, H⟩ := of_bind H
                      refine ow_ixE (e := eVal (Value.int .i64) (fun _ => rfl)) (xs := l2824) (j := e2774.Fork_.Attr_) rfl rfl rfl rfl rfl sl59 ty3 rfl (fun w1 hw1 => rds_own (e := eList (eVal (Value.int .i64) (fun _ => rfl)) 3) (r := 6) rfl w1 hw1) h2838 (by rw [Nat.mul_one]) ?_
                      refine ow_r rfl (dstOk_lt rfl) (ry_load1 rfl rfl ty3 (at_elV (fun w1 hw1 => rds_own (e := eList (eVal (Value.int .i64) (fun _ => rfl)) 3) (r := 6) rfl w1 hw1) h2838)) ?_
                      refine ow_r rfl (dstOk_lt rfl) (ry_box (off := 0) (ds := [.slice a14 p0.Attrs_.length c15, .slice a16 p0.Classes_.length c17]) rfl rfl ty35 (boxIn (i := 1) rfl) rfl rfl) ?_
                      refine ow_r rfl (dstOk_lt rfl) (ry_box (off := 0) (ds := [.bool e2774.Leaf_, .int .i64 e2774.Fork_.Attr_, .int .i64 e2774.Fork_.At_, .slice a2800 e2774.Kids_.length c2801, .int .i64 e2774.Miss_, .slice a2806 e2774.Stats_.Totals_.length c2807, .slice a2808 e2774.Stats_.Cells_.length c2809, .int .i64 e2774.Since_, .slice a2810 e2774.Attrs_.length c2811, .int .i64 e2774.Depth_, .int .i64 e2774.Up_, .int .i64 e2774.Born_]) rfl rfl ty118 (boxIn (i := 0) rfl) rfl rfl) ?_
                      refine ow_batch [.p] rfl ?_
                      obtain ⟨y2839, h2840, H⟩ := of_bind H
                      refine ow_q rfl rfl (dstOk_lt rfl) (qy_call rfl fn55 rfl (fun w1 hw1 => spec_l31Branch_ok w1 (cs0 := [.slice a14 p0.Attrs_.length c15, .slice a16 p0.Classes_.length c17]) (cs1 := [.bool e2774.Leaf_, .int .i64 e2774.Fork_.Attr_, .int .i64 e2774.Fork_.At_, .slice a2800 e2774.Kids_.length c2801, .int .i64 e2774.Miss_, .slice a2806 e2774.Stats_.Totals_.length c2807, .slice a2808 e2774.Stats_.Cells_.length c2809, .int .i64 e2774.Since_, .slice a2810 e2774.Attrs_.length c2811, .int .i64 e2774.Depth_, .int .i64 e2774.Up_, .int .i64 e2774.Born_]) h2840 (rdm_Timpl_Schema (x := p0) (c0 := [.slice a14 p0.Attrs_.length c15]) (c1 := [.slice a16 p0.Classes_.length c17]) (rds_bor g12 w1 hw1) (rds_bor g13 w1 hw1)) (rdm_Timpl_Node (x := e2774) (c0 := [.bool e2774.Leaf_]) (c1 := [.int .i64 e2774.Fork_.Attr_, .int .i64 e2774.Fork_.At_]) (c2 := [.slice a2800 e2774.Kids_.length c2801]) (c3 := [.int .i64 e2774.Miss_]) (c4 := [.slice a2806 e2774.Stats_.Totals_.length c2807, .slice a2808 e2774.Stats_.Cells_.length c2809]) (c5 := [.int .i64 e2774.Since_]) (c6 := [.slice a2810 e2774.Attrs_.length c2811]) (c7 := [.int .i64 e2774.Depth_]) (c8 := [.int .i64 e2774.Up_]) (c9 := [.int .i64 e2774.Born_]) rfl rfl (rds_bor g2792 w1 hw1) rfl (rdm_Timpl_Stats (x := e2774.Stats_) (c0 := [.slice a2806 e2774.Stats_.Totals_.length c2807]) (c1 := [.slice a2808 e2774.Stats_.Cells_.length c2809]) (rds_bor g2804 w1 hw1) (rds_bor g2805 w1 hw1)) rfl (rds_bor g2796 w1 hw1) rfl rfl rfl))) (fun _ _ => trivial) ?_
                      refine ow_batch [.p] rfl ?_
                      obtain ⟨e2841, h2842, H⟩ := of_bind H
                      refine ow_ixE (e := eVal (Value.int .i64) (fun _ => rfl)) (xs := l2824) (j := e2774.Fork_.Attr_) rfl rfl rfl rfl rfl sl59 ty3 rfl (fun w1 hw1 => rds_own (e := eList (eVal (Value.int .i64) (fun _ => rfl)) 3) (r := 6) rfl w1 hw1) h2842 (by rw [Nat.mul_one]) ?_
                      refine ow_nilQ ?_
                      refine ow_storeV (i := 6) (j := e2774.Fork_.Attr_) rfl rfl rfl rfl rfl rfl ty3 rfl h2842 (fun _ => rfl) kp ?_
                      refine ow_nil ?_
                      refine x_qb ?_
                      refine x_qs ?_
                      refine c_reg ?_
                      refine ow_batch [.p, .p, .p] rfl ?_
                      refine ow_nil ?_
                      exact x_ql (RW.at (ihk4 (IntKind.i64.wrap (i2823 + 1)) ((l2824.set e2774.Fork_.Attr_.toNat (ibits .and .i64 e2837 y2839))) (H)) (fun _ h => St.sel [0, 1, 2, 3, 4, 5, 6] rfl rfl h) ⟨rfl, rfl, rfl, rfl, rfl, rfl, rfl, rfl, rfl, trivial⟩)
                    · have H := of_if_f hb H
                      refine c_skip ?_
                      refine x_qb ?_
                      refine x_qs ?_
                      refine c_reg ?_
                      refine ow_batch [.p, .p, .p] rfl ?_
                      refine ow_nil ?_
                      exact x_ql (RW.at (ihk4 (IntKind.i64.wrap (i2823 + 1)) (l2824) (H)) (fun _ h => St.sel [0, 1, 2, 3, 4, 5, 6] rfl rfl h) ⟨rfl, rfl, rfl, rfl, rfl, rfl, rfl, rfl, rfl, trivial⟩)
                  · have H := of_if_f hb H
                    refine c_exit ?_
                    refine x_qs_exit ?_
                    refine x_ql_exit ?_
                    refine x_qb_here ?_
                    refine x_qs ?_
                    refine c_reg ?_
                    refine ow_batch [.fa 39 0 0 fa39_0] rfl ?_
                    refine ow_r rfl (dstOk_lt rfl) (ry_box1 (off := 0) rfl rfl ty37 (boxIn (i := 2) rfl) rfl) ?_
                    refine ow_batch [.p] rfl ?_
                    obtain ⟨e2843, h2844, H⟩ := of_bind H
                    refine ow_ixB rfl rfl rfl rfl rfl sl37 ty118 rfl g20 h2844 (fun q2847 c2848 hd2845 hA2846 => ?_)
                    obtain ⟨c2849, c2850, c2851, c2852, c2853, c2854, c2855, c2856, c2857, c2858, rfl, g2859, g2860, g2861, g2862, g2863, g2864, g2865, g2866, g2867, g2868⟩ := rdo_Timpl_Node hd2845
                    obtain rfl : c2849 = [.bool e2843.Leaf_] := g2859
                    obtain rfl : c2850 = [.int .i64 e2843.Fork_.Attr_, .int .i64 e2843.Fork_.At_] := g2860
                    obtain ⟨a2869, c2870, rfl⟩ := rd_sl1 g2861
                    obtain rfl : c2852 = [.int .i64 e2843.Miss_] := g2862
                    obtain ⟨c2871, c2872, rfl, g2873, g2874⟩ := rdo_Timpl_Stats g2863
                    obtain ⟨a2875, c2876, rfl⟩ := rd_sl1 g2873
                    obtain ⟨a2877, c2878, rfl⟩ := rd_sl1 g2874
                    obtain rfl : c2854 = [.int .i64 e2843.Since_] := g2864
                    obtain ⟨a2879, c2880, rfl⟩ := rd_sl1 g2865
                    obtain rfl : c2856 = [.int .i64 e2843.Depth_] := g2866
                    obtain rfl : c2857 = [.int .i64 e2843.Up_] := g2867
                    obtain rfl : c2858 = [.int .i64 e2843.Born_] := g2868
                    refine ow_batch [.fa 118 8 10 fa118_8] rfl ?_
                    refine ow_r rfl (dstOk_lt rfl) (ry_load1 rfl rfl ty3 (at_bor bor (at_K hA2846 10 1))) ?_
                    refine ow_batch [.p] rfl ?_
                    refine ow_nil ?_
                    refine x_qb ?_
                    exact x_ql (RW.at (ihk3 (e2843.Up_) (l2824) (H)) (fun _ h => St.sel [1, 2, 3, 4, 5, 6] rfl rfl h) ⟨rfl, rfl, rfl, rfl, rfl, rfl, rfl, trivial⟩)
              · have H := of_if_f hb H
                refine c_exit ?_
                refine x_qs_exit ?_
                refine x_ql_exit ?_
                refine x_qb_here ?_
                refine x_qs ?_
                refine c_reg ?_
                refine ow_batch [.p] rfl ?_
                refine ow_r rfl (dstOk_lt rfl) (ry_box (off := 0) (ds := [.int .i64 e1943, .slice a1996 l1995.length c1997]) rfl rfl ty111 (boxIn (i := 4) rfl) rfl rfl) ?_
                refine ow_ex rfl (fun w1 hw1 => fus_Timpl_Way (x0 := e1943) [5] hw1 rfl rfl) (fun F2882 => ?_)
                refine ow_st (C' := St w M0 [_, _, _, _, _, _, _]) rfl (fun _ h => h) ?_
                refine ow_bslice [(0, [.int .i64 e1943, .slice a1996 l1995.length c1997])] rfl rfl rfl rfl rfl sl31 ty111 rfl rfl ⟨rfl, rfl, Nat.le_of_ble_eq_true rfl,  trivial⟩ [.int .i64 e1943, .slice a1996 l1995.length c1997] rfl (fun _ => kp) (fun b2881 => ?_)
                refine ow_st rfl (fun _ h => lit1 (p := 7) (q := 6) h rfl rfl rfl) ?_
                obtain ⟨l2883, h2884, H⟩ := of_bind H
                refine ow_appM (r := 2) (j := 8) rfl rfl rfl rfl rfl rfl sl31 ty111 rfl rfl rfl rfl rfl rfl rfl h2884 (fun _ _ _ => kp) (fun a2885 c2886 F2887 => ?_)
                refine ow_batch [.p] rfl ?_
                refine ow_nil ?_
                refine x_qb ?_
                refine x_qs ?_
                refine CW.weak (C' := St w M0 [_, _, _, _, _]) ?_ (fun _ h => St.sel [0, 1, 3, 4, 9] rfl rfl h)
                refine c_reg ?_
                refine ow_batch [.p, .p, .p] rfl ?_
                refine ow_nil ?_
                exact x_ql (RW.at (ihk1 (l2883) (a2885) (c2886) (F2887) (IntKind.i64.wrap (i992 + 1)) (H)) (fun _ h => St.sel [0, 1, 4, 2] rfl rfl h) ⟨rfl, rfl, rfl, rfl, rfl, trivial⟩)
      · have H := of_if_f hb H
        refine c_exit ?_
        refine x_qs_exit ?_
        refine x_ql_exit ?_
        refine x_qb_here ?_
        refine x_qs ?_
        refine c_seq ?_
        refine c_reg ?_
        refine ow_batch [.p, .p] rfl ?_
        refine ow_nil ?_
        refine x_qs ?_
        refine c_ret ?_
        exact x_retR (rs := [.tmp 4]) (vs := [.slice a989 l988.length c990]) rfl ⟨rfl, trivial⟩ (fun w' hw' => by
            obtain rfl := of_some H
            exact ⟨_, rfl, a989, l988.length, c990, F991, rfl, hw'.sel [2] rfl rfl⟩)
set_option maxHeartbeats 4000000 in
set_option maxRecDepth 100000 in
theorem impl_Leaves_1_ok (w : World) {p0 : Timpl_Node} {cs0 : List Value} {r : Bool} (H : impl_Leaves_1 p0 = some r)  (g0 : (eTimpl_Node).rd w [] p0 cs0) :
    Calls Tryz.prog 136 #[.agg cs0.toArray] w (fun en w' => en = .returned (.bool r) ∧ Ext [] w w') := by
  obtain ⟨c10, c11, c12, c13, c14, c15, c16, c17, c18, c19, rfl, g20, g21, g22, g23, g24, g25, g26, g27, g28, g29⟩ := rdo_Timpl_Node g0
  obtain rfl : c10 = [.bool p0.Leaf_] := g20
  obtain rfl : c11 = [.int .i64 p0.Fork_.Attr_, .int .i64 p0.Fork_.At_] := g21
  obtain ⟨a30, c31, rfl⟩ := rd_sl1 g22
  obtain rfl : c13 = [.int .i64 p0.Miss_] := g23
  obtain ⟨c32, c33, rfl, g34, g35⟩ := rdo_Timpl_Stats g24
  obtain ⟨a36, c37, rfl⟩ := rd_sl1 g34
  obtain ⟨a38, c39, rfl⟩ := rd_sl1 g35
  obtain rfl : c15 = [.int .i64 p0.Since_] := g25
  obtain ⟨a40, c41, rfl⟩ := rd_sl1 g26
  obtain rfl : c17 = [.int .i64 p0.Depth_] := g27
  obtain rfl : c18 = [.int .i64 p0.Up_] := g28
  obtain rfl : c19 = [.int .i64 p0.Born_] := g29
  unfold impl_Leaves_1 at H
  refine f_enter (vs := [.agg #[.bool p0.Leaf_, .int .i64 p0.Fork_.Attr_, .int .i64 p0.Fork_.At_, .slice a30 p0.Kids_.length c31, .int .i64 p0.Miss_, .slice a36 p0.Stats_.Totals_.length c37, .slice a38 p0.Stats_.Cells_.length c39, .int .i64 p0.Since_, .slice a40 p0.Attrs_.length c41, .int .i64 p0.Depth_, .int .i64 p0.Up_, .int .i64 p0.Born_]]) Tryz.func136 rfl Tryz.ntmps136 rfl (St.init w []) ?_
  refine c_seq ?_
  refine c_reg ?_
  refine ow_box (cs := [.bool p0.Leaf_, .int .i64 p0.Fork_.Attr_, .int .i64 p0.Fork_.At_, .slice a30 p0.Kids_.length c31, .int .i64 p0.Miss_, .slice a36 p0.Stats_.Totals_.length c37, .slice a38 p0.Stats_.Cells_.length c39, .int .i64 p0.Since_, .slice a40 p0.Attrs_.length c41, .int .i64 p0.Depth_, .int .i64 p0.Up_, .int .i64 p0.Born_]) rfl rfl rfl rfl rfl rfl (fun _ => kp) (fun b42 => ?_)
  refine ow_batch [.p] rfl ?_
  refine ow_nil ?_
  refine x_qs ?_
  refine c_seq ?_
  refine c_reg ?_
  refine ow_batch [.fa 118 0 0 fa118_0] rfl ?_
  refine ow_r rfl (dstOk_lt rfl) (ry_box1 (off := 0) rfl rfl ty4 (boxIn (i := 0) rfl) rfl) ?_
  refine ow_batch [.p] rfl ?_
  refine ow_nil ?_
  refine x_qs ?_
  refine c_ret ?_
  exact x_retR (rs := [.tmp 2]) (vs := [.bool p0.Leaf_]) rfl ⟨rfl, trivial⟩ (fun w' hw' => by
      obtain rfl := of_some H
      exact ⟨rfl, hw'.ext⟩)
set_option maxHeartbeats 4000000 in
set_option maxRecDepth 100000 in
theorem impl_nodesWith__impl_Leaves_1_ok (w : World) {M0 : List Nat} {p0 : Timpl_Tree} {cs0 : List Value} {r : List Int} (H : impl_nodesWith__impl_Leaves_1 p0 = some r) (HS : St w M0 [] w) (g0 : (eTimpl_Tree).rd w M0 p0 cs0) :
    Calls Tryz.prog 135 #[.agg cs0.toArray, .func (.func 136) #[] #[]] w (fun en w' => ∃ v, en = .returned v ∧ ∃ (a0 : Option Addr), ∃ (n0 : Nat), ∃ (c0 : Nat), ∃ (F0 : List Nat), v = .slice a0 n0 c0 ∧ St w M0 [Res.own (eList (eVal (Value.int .i64) (fun _ => rfl)) 3) F0 r [.slice a0 n0 c0]] w') := by
  obtain ⟨c10, c11, rfl, g12, g13⟩ := rdo_Timpl_Tree g0
  obtain ⟨a14, c15, rfl⟩ := rd_sl1 g12
  obtain rfl : c11 = [.int .i64 p0.Seen_] := g13
  unfold impl_nodesWith__impl_Leaves_1 at H
  refine f_enter (vs := [.agg #[.slice a14 p0.Nodes_.length c15, .int .i64 p0.Seen_], .func (.func 136) #[] #[]]) Tryz.func135 rfl Tryz.ntmps135 rfl (HS) ?_
  refine c_seq ?_
  refine c_reg ?_
  refine ow_box (cs := [.slice a14 p0.Nodes_.length c15, .int .i64 p0.Seen_]) rfl rfl rfl rfl rfl rfl (fun _ => kp) (fun b16 => ?_)
  refine ow_batch [.p] rfl ?_
  refine ow_nil ?_
  refine x_qs ?_
  refine c_seq ?_
  refine c_reg ?_
  refine ow_blit0 (e := eVal (Value.int .i64) (fun _ => rfl)) rfl rfl rfl rfl sl59 ty3 (fun _ => kp) (fun b17 => ?_)
  refine ow_batch [.p] rfl ?_
  refine ow_nil ?_
  refine x_qs ?_
  refine c_seq ?_
  refine c_seq ?_
  refine c_reg ?_
  refine ow_batch [.fa 39 0 0 fa39_0] rfl ?_
  refine ow_r rfl (dstOk_lt rfl) (ry_box1 (off := 0) rfl rfl ty37 (boxIn (i := 0) rfl) rfl) ?_
  refine ow_batch [.lenS 37 118 sl37, .p] rfl ?_
  refine ow_nil ?_
  refine x_qs ?_
  refine c_block ?_
  refine CW.at (loopI5 (fun (i72 : Int) (l73 : List Int) (a74 : Option Addr) (c75 : Nat) (F76 : List Nat) => St w M0 [Res.own (eList (eVal (Value.int .i64) (fun _ => rfl)) 3) F76 l73 [.slice a74 l73.length c75]]) (fun (i72 : Int) (l73 : List Int) (a74 : Option Addr) (c75 : Nat) (F76 : List Nat) => [(1, .func (.func 136) #[] #[]), (5, .slice a74 l73.length c75), (10, .slice a14 p0.Nodes_.length c15), (11, .int .i64 (p0.Nodes_.length : Int)), (12, .int .i64 i72)]) (fun kk => fun (i72 : Int) (l73 : List Int) (a74 : Option Addr) (c75 : Nat) (F76 : List Nat) => a74.isNone = false ∧ impl_nodesWith__impl_Leaves_1_L1 p0 kk i72 l73 = some r) (fun _ _ _ _ _ H => ?_) (fun k1 ihk1 i72 l73 a74 c75 F76 ⟨hz77, H⟩ => ?_) Fuel (0) (([] : List Int)) ((some ⟨b17, 0, none⟩)) (0) ([b17]) (⟨rfl, H⟩)) (fun _ h => St.sel [1] rfl rfl h) ⟨rfl, rfl, rfl, rfl, rfl,  trivial⟩
  · unfold impl_nodesWith__impl_Leaves_1_L1 at H
    exact absurd H (by simp)
  · unfold impl_nodesWith__impl_Leaves_1_L1 at H
    refine c_seq ?_
    refine c_reg ?_
    refine ow_batch [.p] rfl ?_
    refine ow_nil ?_
    refine x_qs ?_
    refine c_seq ?_
    refine c_if rfl (fun hb => ?_) (fun hb => ?_)
    · have H := of_if_t hb H
      refine c_skip ?_
      refine x_qs ?_
      refine c_seq ?_
      refine c_block ?_
      refine c_seq ?_
      refine c_reg ?_
      refine ow_batch [.p] rfl ?_
      obtain ⟨e132, h133, H⟩ := of_bind H
      refine ow_ixB rfl rfl rfl rfl rfl sl37 ty118 rfl g12 h133 (fun q136 c137 hd134 hA135 => ?_)
      obtain ⟨c138, c139, c140, c141, c142, c143, c144, c145, c146, c147, rfl, g148, g149, g150, g151, g152, g153, g154, g155, g156, g157⟩ := rdo_Timpl_Node hd134
      obtain rfl : c138 = [.bool e132.Leaf_] := g148
      obtain rfl : c139 = [.int .i64 e132.Fork_.Attr_, .int .i64 e132.Fork_.At_] := g149
      obtain ⟨a158, c159, rfl⟩ := rd_sl1 g150
      obtain rfl : c141 = [.int .i64 e132.Miss_] := g151
      obtain ⟨c160, c161, rfl, g162, g163⟩ := rdo_Timpl_Stats g152
      obtain ⟨a164, c165, rfl⟩ := rd_sl1 g162
      obtain ⟨a166, c167, rfl⟩ := rd_sl1 g163
      obtain rfl : c143 = [.int .i64 e132.Since_] := g153
      obtain ⟨a168, c169, rfl⟩ := rd_sl1 g154
      obtain rfl : c145 = [.int .i64 e132.Depth_] := g155
      obtain rfl : c146 = [.int .i64 e132.Up_] := g156
      obtain rfl : c147 = [.int .i64 e132.Born_] := g157
      refine ow_r rfl (dstOk_lt rfl) (ry_load (cs := [.bool e132.Leaf_, .int .i64 e132.Fork_.Attr_, .int .i64 e132.Fork_.At_, .slice a158 e132.Kids_.length c159, .int .i64 e132.Miss_, .slice a164 e132.Stats_.Totals_.length c165, .slice a166 e132.Stats_.Cells_.length c167, .int .i64 e132.Since_, .slice a168 e132.Attrs_.length c169, .int .i64 e132.Depth_, .int .i64 e132.Up_, .int .i64 e132.Born_]) rfl rfl ty118 (at_bor bor hA135) rfl) ?_
      refine ow_alloc rfl rfl rfl rfl ty118 (fun _ => kp) (fun b170 => ?_)
      refine ow_batch [.p] rfl ?_
      refine ow_storeC (off := 0) [.bool e132.Leaf_, .int .i64 e132.Fork_.Attr_, .int .i64 e132.Fork_.At_, .slice a158 e132.Kids_.length c159, .int .i64 e132.Miss_, .slice a164 e132.Stats_.Totals_.length c165, .slice a166 e132.Stats_.Cells_.length c167, .int .i64 e132.Since_, .slice a168 e132.Attrs_.length c169, .int .i64 e132.Depth_, .int .i64 e132.Up_, .int .i64 e132.Born_] [_, _, _, _, _, _, _, _, _, _, _, _] (i := 1) rfl rfl rfl rfl rfl rfl ty118 rfl rfl (by intro u hu; simp only [List.mem_cons, List.not_mem_nil, or_false] at hu; rcases hu with rfl | rfl | rfl | rfl | rfl | rfl | rfl | rfl | rfl | rfl | rfl | rfl <;> rfl) rfl rfl rfl kp ?_
      refine ow_nil ?_
      refine x_qs ?_
      refine c_seq ?_
      refine c_reg ?_
      refine ow_batch [.p] rfl ?_
      refine ow_r rfl (dstOk_lt rfl) (ry_box (off := 0) (ds := [.bool e132.Leaf_, .int .i64 e132.Fork_.Attr_, .int .i64 e132.Fork_.At_, .slice a158 e132.Kids_.length c159, .int .i64 e132.Miss_, .slice a164 e132.Stats_.Totals_.length c165, .slice a166 e132.Stats_.Cells_.length c167, .int .i64 e132.Since_, .slice a168 e132.Attrs_.length c169, .int .i64 e132.Depth_, .int .i64 e132.Up_, .int .i64 e132.Born_]) rfl rfl ty118 (boxIn (i := 1) rfl) rfl rfl) ?_
      obtain ⟨y171, h172, H⟩ := of_bind H
      refine ow_q rfl rfl (dstOk_lt rfl) (qy_callV (cap := []) rfl fn136 rfl rfl (fun w1 hw1 => impl_Leaves_1_ok w1 (cs0 := [.bool e132.Leaf_, .int .i64 e132.Fork_.Attr_, .int .i64 e132.Fork_.At_, .slice a158 e132.Kids_.length c159, .int .i64 e132.Miss_, .slice a164 e132.Stats_.Totals_.length c165, .slice a166 e132.Stats_.Cells_.length c167, .int .i64 e132.Since_, .slice a168 e132.Attrs_.length c169, .int .i64 e132.Depth_, .int .i64 e132.Up_, .int .i64 e132.Born_]) h172 (rdm_Timpl_Node (x := e132) (c0 := [.bool e132.Leaf_]) (c1 := [.int .i64 e132.Fork_.Attr_, .int .i64 e132.Fork_.At_]) (c2 := [.slice a158 e132.Kids_.length c159]) (c3 := [.int .i64 e132.Miss_]) (c4 := [.slice a164 e132.Stats_.Totals_.length c165, .slice a166 e132.Stats_.Cells_.length c167]) (c5 := [.int .i64 e132.Since_]) (c6 := [.slice a168 e132.Attrs_.length c169]) (c7 := [.int .i64 e132.Depth_]) (c8 := [.int .i64 e132.Up_]) (c9 := [.int .i64 e132.Born_]) rfl rfl (rds_bor g150 w1 hw1) rfl (rdm_Timpl_Stats (x := e132.Stats_) (c0 := [.slice a164 e132.Stats_.Totals_.length c165]) (c1 := [.slice a166 e132.Stats_.Cells_.length c167]) (rds_bor g162 w1 hw1) (rds_bor g163 w1 hw1)) rfl (rds_bor g154 w1 hw1) rfl rfl rfl))) (fun _ _ => trivial) ?_
      refine ow_nil ?_
      refine x_qs ?_
      refine c_if rfl (fun hb => ?_) (fun hb => ?_)
      · have H := of_if_t hb H
        refine c_reg ?_
        refine ow_batch [.p, .p] rfl ?_
        refine ow_blit (val := Value.int .i64) (h1 := fun _ => rfl) [i72] [(0, [.int .i64 i72])] rfl rfl rfl rfl rfl sl59 ty3 rfl rfl rfl ⟨rfl, rfl, Nat.le_of_ble_eq_true rfl,  trivial⟩ rfl rfl (fun _ => kp) (fun b173 => ?_)
        obtain ⟨l174, h175, H⟩ := of_bind H
        refine ow_appR (r := 0) (ys := ([i72] : List Int)) rfl rfl rfl rfl rfl rfl sl59 ty3 rfl rfl rfl (fun w1 hw1 => rds_own (e := eList (eVal (Value.int .i64) (fun _ => rfl)) 3) (r := 2) rfl w1 hw1) h175 (fun _ _ _ => kp) (fun a176 c177 F178 => ?_)
        refine ow_fact rfl (fun w1 hw1 => own_nn (i := 0) hw1 rfl (app_ne h175)) (fun hz179 => ?_)
        refine ow_batch [.p] rfl ?_
        refine ow_nil ?_
        refine x_qb ?_
        refine x_qs ?_
        refine c_reg ?_
        refine ow_batch [.p, .p] rfl ?_
        refine ow_nil ?_
        exact x_ql (RW.at (ihk1 (IntKind.i64.wrap (i72 + 1)) (l174) (a176) (c177) (F178) (⟨hz179, H⟩)) (fun _ h => St.sel [0] rfl rfl h) ⟨rfl, rfl, rfl, rfl, rfl, trivial⟩)
      · have H := of_if_f hb H
        refine c_skip ?_
        refine x_qb ?_
        refine x_qs ?_
        refine c_reg ?_
        refine ow_batch [.p, .p] rfl ?_
        refine ow_nil ?_
        exact x_ql (RW.at (ihk1 (IntKind.i64.wrap (i72 + 1)) (l73) (a74) (c75) (F76) (⟨hz77, H⟩)) (fun _ h => St.sel [0] rfl rfl h) ⟨rfl, rfl, rfl, rfl, rfl, trivial⟩)
    · have H := of_if_f hb H
      refine c_exit ?_
      refine x_qs_exit ?_
      refine x_ql_exit ?_
      refine x_qb_here ?_
      refine x_qs ?_
      refine c_seq ?_
      refine c_reg ?_
      refine ow_batch [.p, .p] rfl ?_
      refine ow_nil ?_
      refine x_qs ?_
      refine c_ret ?_
      exact x_retR (rs := [.tmp 4]) (vs := [.slice a74 l73.length c75]) rfl ⟨rfl, trivial⟩ (fun w' hw' => by
          obtain rfl := of_some H
          exact ⟨_, rfl, a74, l73.length, c75, F76, rfl, hw'.sel [0] rfl rfl⟩)
set_option maxHeartbeats 4000000 in
set_option maxRecDepth 100000 in
theorem impl_Leaves_ok (w : World) {M0 : List Nat} {p0 : Timpl_Tree} {cs0 : List Value} {r : List Int} (H : impl_Leaves p0 = some r) (HS : St w M0 [] w) (g0 : (eTimpl_Tree).rd w M0 p0 cs0) :
    Calls Tryz.prog 60 #[.agg cs0.toArray] w (fun en w' => ∃ v, en = .returned v ∧ ∃ (a0 : Option Addr), ∃ (n0 : Nat), ∃ (c0 : Nat), ∃ (F0 : List Nat), v = .slice a0 n0 c0 ∧ St w M0 [Res.own (eList (eVal (Value.int .i64) (fun _ => rfl)) 3) F0 r [.slice a0 n0 c0]] w') := by
  obtain ⟨c10, c11, rfl, g12, g13⟩ := rdo_Timpl_Tree g0
  obtain ⟨a14, c15, rfl⟩ := rd_sl1 g12
  obtain rfl : c11 = [.int .i64 p0.Seen_] := g13
  unfold impl_Leaves at H
  refine f_enter (vs := [.agg #[.slice a14 p0.Nodes_.length c15, .int .i64 p0.Seen_]]) Tryz.func60 rfl Tryz.ntmps60 rfl (HS) ?_
  refine c_seq ?_
  refine c_reg ?_
  refine ow_box (cs := [.slice a14 p0.Nodes_.length c15, .int .i64 p0.Seen_]) rfl rfl rfl rfl rfl rfl (fun _ => kp) (fun b16 => ?_)
  refine ow_batch [.p] rfl ?_
  refine ow_nil ?_
  refine x_qs ?_
  refine c_seq ?_
  refine c_reg ?_
  refine ow_r rfl (dstOk_lt rfl) (ry_box (off := 0) (ds := [.slice a14 p0.Nodes_.length c15, .int .i64 p0.Seen_]) rfl rfl ty39 (boxIn (i := 0) rfl) rfl rfl) ?_
  obtain ⟨y17, h18, H⟩ := of_bind H
  refine ow_callS rfl fn135 rfl rfl rfl rfl (fun w1 hw1 => impl_nodesWith__impl_Leaves_1_ok w1 (cs0 := [.slice a14 p0.Nodes_.length c15, .int .i64 p0.Seen_]) h18 (hw1.carve [] rfl rfl) (rdm_Timpl_Tree (x := p0) (c0 := [.slice a14 p0.Nodes_.length c15]) (c1 := [.int .i64 p0.Seen_]) (rds_bor g12 w1 hw1) rfl)) (fun v19 w1 w2 hw1 hR21 => ?_)
  obtain ⟨a22, n23, c24, F25, rfl, hS20⟩ := hR21
  obtain rfl := own_nS (i := 0) hS20 rfl
  refine ⟨St w M0 [_, _], hw1.comp [] rfl rfl hS20, fun _ _ => trivial, ?_⟩
  refine ow_batch [.p] rfl ?_
  refine ow_nil ?_
  refine x_qs ?_
  refine c_ret ?_
  exact x_retR (rs := [.tmp 2]) (vs := [.slice a22 y17.length c24]) rfl ⟨rfl, trivial⟩ (fun w' hw' => by
      obtain rfl := of_some H
      exact ⟨_, rfl, a22, y17.length, c24, F25, rfl, hw'.sel [1] rfl rfl⟩)
set_option maxHeartbeats 4000000 in
set_option maxRecDepth 100000 in
theorem impl_FullMask_ok (w : World) {p0 : Timpl_Attr} {cs0 : List Value} {r : Int} (H : impl_FullMask p0 = some r)  (g0 : (eTimpl_Attr).rd w [] p0 cs0) :
    Calls Tryz.prog 61 #[.agg cs0.toArray] w (fun en w' => en = .returned (.int .i64 r) ∧ Ext [] w w') := by
  obtain ⟨c10, c11, c12, rfl, g13, g14, g15⟩ := rdo_Timpl_Attr g0
  obtain rfl : c10 = [vS p0.Name_] := g13
  obtain ⟨a16, c17, rfl⟩ := rd_sl1 g14
  obtain ⟨a18, c19, rfl⟩ := rd_sl1 g15
  unfold impl_FullMask at H
  refine f_enter (vs := [.agg #[vS p0.Name_, .slice a16 p0.Cuts_.length c17, .slice a18 p0.Values_.length c19]]) Tryz.func61 rfl Tryz.ntmps61 rfl (St.init w []) ?_
  refine c_seq ?_
  refine c_reg ?_
  refine ow_box (cs := [vS p0.Name_, .slice a16 p0.Cuts_.length c17, .slice a18 p0.Values_.length c19]) rfl rfl rfl rfl rfl rfl (fun _ => kp) (fun b20 => ?_)
  refine ow_batch [.p] rfl ?_
  refine ow_nil ?_
  refine x_qs ?_
  refine c_seq ?_
  refine c_seq ?_
  refine c_reg ?_
  refine ow_r rfl (dstOk_lt rfl) (ry_box (off := 0) (ds := [vS p0.Name_, .slice a16 p0.Cuts_.length c17, .slice a18 p0.Values_.length c19]) rfl rfl ty114 (boxIn (i := 0) rfl) rfl rfl) ?_
  obtain ⟨y21, h22, H⟩ := of_bind H
  refine ow_q rfl rfl (dstOk_lt rfl) (qy_call rfl fn137 rfl (fun w1 hw1 => impl_AttrOk_ok w1 (cs0 := [vS p0.Name_, .slice a16 p0.Cuts_.length c17, .slice a18 p0.Values_.length c19]) h22 (rdm_Timpl_Attr (x := p0) (c0 := [vS p0.Name_]) (c1 := [.slice a16 p0.Cuts_.length c17]) (c2 := [.slice a18 p0.Values_.length c19]) rfl (rds_bor g14 w1 hw1) (rds_bor g15 w1 hw1)))) (fun _ _ => trivial) ?_
  refine ow_batch [.p] rfl ?_
  refine ow_nil ?_
  refine x_qs ?_
  refine c_if rfl (fun hb => ?_) (fun hb => ?_)
  · have H := of_if_t hb H
    refine c_seq ?_
    refine c_reg ?_
    refine ow_batch [.p] rfl ?_
    refine ow_nil ?_
    refine x_qs ?_
    refine c_ret ?_
    refine x_qs_ret ?_
    exact x_retR (rs := [.tmp 2]) (vs := [.int .i64 0]) rfl ⟨rfl, trivial⟩ (fun w' hw' => by
        obtain rfl := of_some H
        exact ⟨rfl, hw'.ext⟩)
  · have H := of_if_f hb H
    refine c_skip ?_
    refine x_qs ?_
    refine c_seq ?_
    refine c_reg ?_
    refine ow_r rfl (dstOk_lt rfl) (ry_box (off := 0) (ds := [vS p0.Name_, .slice a16 p0.Cuts_.length c17, .slice a18 p0.Values_.length c19]) rfl rfl ty114 (boxIn (i := 0) rfl) rfl rfl) ?_
    obtain ⟨y23, h24, H⟩ := of_bind H
    refine ow_q rfl rfl (dstOk_lt rfl) (qy_call rfl fn138 rfl (fun w1 hw1 => impl_bins_ok w1 (cs0 := [vS p0.Name_, .slice a16 p0.Cuts_.length c17, .slice a18 p0.Values_.length c19]) h24 (rdm_Timpl_Attr (x := p0) (c0 := [vS p0.Name_]) (c1 := [.slice a16 p0.Cuts_.length c17]) (c2 := [.slice a18 p0.Values_.length c19]) rfl (rds_bor g14 w1 hw1) (rds_bor g15 w1 hw1)))) (fun _ _ => trivial) ?_
    obtain ⟨x25, h26, H⟩ := of_bind H
    refine ow_r rfl (dstOk_lt rfl) (ry_shl rfl rfl rfl h26) ?_
    refine ow_batch [.p, .p, .p] rfl ?_
    refine ow_nil ?_
    refine x_qs ?_
    refine c_ret ?_
    exact x_retR (rs := [.tmp 2]) (vs := [.int .i64 (ibits .or .i64 (IntKind.i64.wrap (x25 - 1)) 16)]) rfl ⟨rfl, trivial⟩ (fun w' hw' => by
        obtain rfl := of_some H
        exact ⟨rfl, hw'.ext⟩)
set_option maxHeartbeats 4000000 in
set_option maxRecDepth 100000 in
theorem impl_branchMask_ok (w : World) {p0 : Timpl_Schema} {p1 : Timpl_Node} {p2 : Int} {cs0 : List Value} {cs1 : List Value} {r : Int} (H : impl_branchMask p0 p1 p2 = some r)  (g0 : (eTimpl_Schema).rd w [] p0 cs0) (g1 : (eTimpl_Node).rd w [] p1 cs1) :
    Calls Tryz.prog 62 #[.agg cs0.toArray, .agg cs1.toArray, .int .i64 p2] w (fun en w' => en = .returned (.int .i64 r) ∧ Ext [] w w') := by
  obtain ⟨c10, c11, rfl, g12, g13⟩ := rdo_Timpl_Schema g0
  obtain ⟨a14, c15, rfl⟩ := rd_sl1 g12
  obtain ⟨a16, c17, rfl⟩ := rd_sl1 g13
  obtain ⟨c18, c19, c20, c21, c22, c23, c24, c25, c26, c27, rfl, g28, g29, g30, g31, g32, g33, g34, g35, g36, g37⟩ := rdo_Timpl_Node g1
  obtain rfl : c18 = [.bool p1.Leaf_] := g28
  obtain rfl : c19 = [.int .i64 p1.Fork_.Attr_, .int .i64 p1.Fork_.At_] := g29
  obtain ⟨a38, c39, rfl⟩ := rd_sl1 g30
  obtain rfl : c21 = [.int .i64 p1.Miss_] := g31
  obtain ⟨c40, c41, rfl, g42, g43⟩ := rdo_Timpl_Stats g32
  obtain ⟨a44, c45, rfl⟩ := rd_sl1 g42
  obtain ⟨a46, c47, rfl⟩ := rd_sl1 g43
  obtain rfl : c23 = [.int .i64 p1.Since_] := g33
  obtain ⟨a48, c49, rfl⟩ := rd_sl1 g34
  obtain rfl : c25 = [.int .i64 p1.Depth_] := g35
  obtain rfl : c26 = [.int .i64 p1.Up_] := g36
  obtain rfl : c27 = [.int .i64 p1.Born_] := g37
  unfold impl_branchMask at H
  refine f_enter (vs := [.agg #[.slice a14 p0.Attrs_.length c15, .slice a16 p0.Classes_.length c17], .agg #[.bool p1.Leaf_, .int .i64 p1.Fork_.Attr_, .int .i64 p1.Fork_.At_, .slice a38 p1.Kids_.length c39, .int .i64 p1.Miss_, .slice a44 p1.Stats_.Totals_.length c45, .slice a46 p1.Stats_.Cells_.length c47, .int .i64 p1.Since_, .slice a48 p1.Attrs_.length c49, .int .i64 p1.Depth_, .int .i64 p1.Up_, .int .i64 p1.Born_], .int .i64 p2]) Tryz.func62 rfl Tryz.ntmps62 rfl (St.init w []) ?_
  refine c_seq ?_
  refine c_reg ?_
  refine ow_box (cs := [.slice a14 p0.Attrs_.length c15, .slice a16 p0.Classes_.length c17]) rfl rfl rfl rfl rfl rfl (fun _ => kp) (fun b50 => ?_)
  refine ow_box (cs := [.bool p1.Leaf_, .int .i64 p1.Fork_.Attr_, .int .i64 p1.Fork_.At_, .slice a38 p1.Kids_.length c39, .int .i64 p1.Miss_, .slice a44 p1.Stats_.Totals_.length c45, .slice a46 p1.Stats_.Cells_.length c47, .int .i64 p1.Since_, .slice a48 p1.Attrs_.length c49, .int .i64 p1.Depth_, .int .i64 p1.Up_, .int .i64 p1.Born_]) rfl rfl rfl rfl rfl rfl (fun _ => kp) (fun b51 => ?_)
  refine ow_batch [.p] rfl ?_
  refine ow_nil ?_
  refine x_qs ?_
  refine c_seq ?_
  refine c_reg ?_
  refine ow_batch [.p] rfl ?_
  refine ow_nil ?_
  refine x_qs ?_
  refine c_seq ?_
  refine c_seq ?_
  refine c_reg ?_
  refine ow_batch [.fa 35 0 0 fa35_0] rfl ?_
  refine ow_r rfl (dstOk_lt rfl) (ry_box1 (off := 0) rfl rfl ty33 (boxIn (i := 0) rfl) rfl) ?_
  refine ow_batch [.fa 118 1 1 fa118_1, .fa 116 0 0 fa116_0] rfl ?_
  refine ow_r rfl (dstOk_lt rfl) (ry_box1 (off := 1) rfl rfl ty3 (boxIn (i := 1) rfl) rfl) ?_
  obtain ⟨e52, h53, H⟩ := of_bind H
  refine ow_ixB rfl rfl rfl rfl rfl sl33 ty114 rfl g12 h53 (fun q56 c57 hd54 hA55 => ?_)
  obtain ⟨c58, c59, c60, rfl, g61, g62, g63⟩ := rdo_Timpl_Attr hd54
  obtain rfl : c58 = [vS e52.Name_] := g61
  obtain ⟨a64, c65, rfl⟩ := rd_sl1 g62
  obtain ⟨a66, c67, rfl⟩ := rd_sl1 g63
  refine ow_r rfl (dstOk_lt rfl) (ry_load (cs := [vS e52.Name_, .slice a64 e52.Cuts_.length c65, .slice a66 e52.Values_.length c67]) rfl rfl ty114 (at_bor bor hA55) rfl) ?_
  obtain ⟨y68, h69, H⟩ := of_bind H
  refine ow_q rfl rfl (dstOk_lt rfl) (qy_call rfl fn138 rfl (fun w1 hw1 => impl_bins_ok w1 (cs0 := [vS e52.Name_, .slice a64 e52.Cuts_.length c65, .slice a66 e52.Values_.length c67]) h69 (rdm_Timpl_Attr (x := e52) (c0 := [vS e52.Name_]) (c1 := [.slice a64 e52.Cuts_.length c65]) (c2 := [.slice a66 e52.Values_.length c67]) rfl (rds_bor g62 w1 hw1) (rds_bor g63 w1 hw1)))) (fun _ _ => trivial) ?_
  refine ow_batch [.p] rfl ?_
  refine ow_nil ?_
  refine x_qs ?_
  refine c_block ?_
  refine CW.at (loopI2 (fun (i74 : Int) (i75 : Int) => St w [] [Res.box b50 35 [.slice a14 p0.Attrs_.length c15, .slice a16 p0.Classes_.length c17], Res.box b51 118 [.bool p1.Leaf_, .int .i64 p1.Fork_.Attr_, .int .i64 p1.Fork_.At_, .slice a38 p1.Kids_.length c39, .int .i64 p1.Miss_, .slice a44 p1.Stats_.Totals_.length c45, .slice a46 p1.Stats_.Cells_.length c47, .int .i64 p1.Since_, .slice a48 p1.Attrs_.length c49, .int .i64 p1.Depth_, .int .i64 p1.Up_, .int .i64 p1.Born_]]) (fun (i74 : Int) (i75 : Int) => [(2, .int .i64 p2), (3, .pointer (some ⟨b50, 0, none⟩)), (4, .pointer (some ⟨b51, 0, none⟩)), (7, .int .i64 i75), (16, .int .i64 y68), (17, .int .i64 i74)]) (fun kk => fun (i74 : Int) (i75 : Int) => impl_branchMask_L1 y68 p0 p1 p2 kk i74 i75 = some r) (fun _ _ H => ?_) (fun k1 ihk1 i74 i75 H => ?_) Fuel (0) (0) (H)) (fun _ h => St.sel [0, 1] rfl rfl h) ⟨rfl, rfl, rfl, rfl, rfl, rfl,  trivial⟩
  · unfold impl_branchMask_L1 at H
    exact absurd H (by simp)
  · unfold impl_branchMask_L1 at H
    refine c_seq ?_
    refine c_reg ?_
    refine ow_batch [.p] rfl ?_
    refine ow_nil ?_
    refine x_qs ?_
    refine c_seq ?_
    refine c_if rfl (fun hb => ?_) (fun hb => ?_)
    · have H := of_if_t hb H
      refine c_skip ?_
      refine x_qs ?_
      refine c_seq ?_
      refine c_block ?_
      refine c_seq ?_
      refine c_reg ?_
      refine ow_batch [.p, .p] rfl ?_
      refine ow_nil ?_
      refine x_qs ?_
      refine c_seq ?_
      refine c_reg ?_
      refine ow_r rfl (dstOk_lt rfl) (ry_box (off := 0) (ds := [.slice a14 p0.Attrs_.length c15, .slice a16 p0.Classes_.length c17]) rfl rfl ty35 (boxIn (i := 0) rfl) rfl rfl) ?_
      refine ow_batch [.fa 118 1 1 fa118_1] rfl ?_
      refine ow_r rfl (dstOk_lt rfl) (ry_box (off := 1) (ds := [.int .i64 p1.Fork_.Attr_, .int .i64 p1.Fork_.At_]) rfl rfl ty116 (boxIn (i := 1) rfl) rfl rfl) ?_
      refine ow_batch [.p] rfl ?_
      obtain ⟨y82, h83, H⟩ := of_bind H
      refine ow_q rfl rfl (dstOk_lt rfl) (qy_call rfl fn139 rfl (fun w1 hw1 => impl_BranchOf_ok w1 (p1 := p1.Fork_) (cs0 := [.slice a14 p0.Attrs_.length c15, .slice a16 p0.Classes_.length c17]) h83 (rdm_Timpl_Schema (x := p0) (c0 := [.slice a14 p0.Attrs_.length c15]) (c1 := [.slice a16 p0.Classes_.length c17]) (rds_bor g12 w1 hw1) (rds_bor g13 w1 hw1)))) (fun _ _ => trivial) ?_
      refine ow_batch [.p, .p] rfl ?_
      refine ow_nil ?_
      refine x_qs ?_
      refine c_if rfl (fun hb => ?_) (fun hb => ?_)
      · have H := of_if_t hb H
        refine c_reg ?_
        refine ow_batch [.p, .p] rfl ?_
        obtain ⟨x84, h85, H⟩ := of_bind H
        refine ow_r rfl (dstOk_lt rfl) (ry_shl rfl rfl rfl h85) ?_
        refine ow_batch [.p, .p] rfl ?_
        refine ow_nil ?_
        refine x_qb ?_
        refine x_qs ?_
        refine c_reg ?_
        refine ow_batch [.p, .p] rfl ?_
        refine ow_nil ?_
        exact x_ql (RW.at (ihk1 (IntKind.i64.wrap (i74 + 1)) (ibits .or .i64 i75 x84) (H)) (fun _ h => St.sel [0, 1] rfl rfl h) ⟨rfl, rfl, rfl, rfl, rfl, rfl, trivial⟩)
      · have H := of_if_f hb H
        refine c_skip ?_
        refine x_qb ?_
        refine x_qs ?_
        refine c_reg ?_
        refine ow_batch [.p, .p] rfl ?_
        refine ow_nil ?_
        exact x_ql (RW.at (ihk1 (IntKind.i64.wrap (i74 + 1)) (i75) (H)) (fun _ h => St.sel [0, 1] rfl rfl h) ⟨rfl, rfl, rfl, rfl, rfl, rfl, trivial⟩)
    · have H := of_if_f hb H
      refine c_exit ?_
      refine x_qs_exit ?_
      refine x_ql_exit ?_
      refine x_qb_here ?_
      refine x_qs ?_
      refine c_seq ?_
      refine c_seq ?_
      refine c_reg ?_
      refine ow_batch [.fa 118 3 4 fa118_3] rfl ?_
      refine ow_r rfl (dstOk_lt rfl) (ry_box1 (off := 4) rfl rfl ty3 (boxIn (i := 1) rfl) rfl) ?_
      refine ow_batch [.p, .p] rfl ?_
      refine ow_nil ?_
      refine x_qs ?_
      refine c_if rfl (fun hb => ?_) (fun hb => ?_)
      · have H := of_if_t hb H
        refine c_reg ?_
        refine ow_batch [.p, .p, .p] rfl ?_
        refine ow_nil ?_
        refine x_qs ?_
        refine c_seq ?_
        refine c_reg ?_
        refine ow_batch [.p, .p] rfl ?_
        refine ow_nil ?_
        refine x_qs ?_
        refine c_ret ?_
        exact x_retR (rs := [.tmp 6]) (vs := [.int .i64 (ibits .or .i64 i75 16)]) rfl ⟨rfl, trivial⟩ (fun w' hw' => by
            obtain rfl := of_some H
            exact ⟨rfl, hw'.ext⟩)
      · have H := of_if_f hb H
        refine c_skip ?_
        refine x_qs ?_
        refine c_seq ?_
        refine c_reg ?_
        refine ow_batch [.p, .p] rfl ?_
        refine ow_nil ?_
        refine x_qs ?_
        refine c_ret ?_
        exact x_retR (rs := [.tmp 6]) (vs := [.int .i64 i75]) rfl ⟨rfl, trivial⟩ (fun w' hw' => by
            obtain rfl := of_some H
            exact ⟨rfl, hw'.ext⟩)
end Go.Vk
