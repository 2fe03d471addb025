/- The code does what the functions of data say. Printed by program. -/
import Derived.Test.YtddoligbabahbaaGreatWNodeTruthB
namespace Go.Vk
open Go.Proofs Go.RowKit
set_option maxHeartbeats 4000000
set_option maxRecDepth 100000
theorem impl_TreeOk_ok (w : World) {p0 : Timpl_Schema} {p1 : Timpl_Tree} {cs0 : List Value} {cs1 : List Value} {r : Bool} (H : impl_TreeOk p0 p1 = some r)  (g0 : (eTimpl_Schema).rd w [] p0 cs0) (g1 : (eTimpl_Tree).rd w [] p1 cs1) :
    Calls Tryz.prog 59 #[.agg cs0.toArray, .agg cs1.toArray] w (fun en w' => en = .returned (.bool r) ∧ Ext [] w w') := by
 obtain ⟨c10, c11, rfl, g12, g13⟩ := rdo_Timpl_Schema g0
 obtain ⟨a14, c15, rfl⟩ := rd_sl1 g12
 obtain ⟨a16, c17, rfl⟩ := rd_sl1 g13
 obtain ⟨c18, c19, rfl, g20, g21⟩ := rdo_Timpl_Tree g1
 obtain ⟨a22, c23, rfl⟩ := rd_sl1 g20
 obtain rfl : c19 = [.int .i64 p1.Seen_] := g21
 unfold impl_TreeOk at H
 refine f_enter (vs := [.agg #[.slice a14 p0.Attrs_.length c15, .slice a16 p0.Classes_.length c17], .agg #[.slice a22 p1.Nodes_.length c23, .int .i64 p1.Seen_]]) Tryz.func59 rfl Tryz.ntmps59 rfl (St.init w []) <| c_seq <| c_reg <| ob [.slice a14 p0.Attrs_.length c15, .slice a16 p0.Classes_.length c17] rfl fun b24 => ob [.slice a22 p1.Nodes_.length c23, .int .i64 p1.Seen_] rfl fun b25 => ow_batch [.p] rfl <| ow_nil <| x_qs <| c_seq <| c_seq <| c_reg <| o1 rfl (rx 0 0 [.slice a14 p0.Attrs_.length c15, .slice a16 p0.Classes_.length c17] rfl ty35 rfl) <| bE H fun y26 h27 H => oq rfl (qc rfl fn132 (fun w1 hw1 => impl_SchemaOk_ok w1 (cs0 := [.slice a14 p0.Attrs_.length c15, .slice a16 p0.Classes_.length c17]) h27 (rdm_Timpl_Schema (x := p0) (c0 := [.slice a14 p0.Attrs_.length c15]) (c1 := [.slice a16 p0.Classes_.length c17]) (rds_bor g12 w1 hw1) (rds_bor g13 w1 hw1)))) tt2 <| ow_batch [.p, .p] rfl <| bE H fun u28 hu32 H => ow_cut [(17, .bool u28), (2, .pointer (some ⟨b24, 0, none⟩)), (3, .pointer (some ⟨b25, 0, none⟩))] 6 ?_ (fun key => OW.sub (R := [(2, .pointer (some ⟨b24, 0, none⟩)), (3, .pointer (some ⟨b25, 0, none⟩)), (11, .bool (!y26))]) ?_ (sb rfl))
 ·refine ow_batch [.p] rfl <| bE H fun u33 hu37 H => ow_cut [(23, .bool u33), (2, .pointer (some ⟨b24, 0, none⟩)), (3, .pointer (some ⟨b25, 0, none⟩))] 5 ?_ (fun key => OW.sub (R := [(2, .pointer (some ⟨b24, 0, none⟩)), (3, .pointer (some ⟨b25, 0, none⟩)), (18, .bool u28)]) ?_ (sb rfl))
  ·refine ow_nil <| x_qs <| cI H rfl (fun H => ?_) (fun H => ?_)
   ·exact c_seq <| c_reg <| ow_batch [.p] rfl <| ow_nil <| x_qs <| c_ret <| x_qs_ret <| xr 4 rfl (by cases H; exact q1)
   ·refine c_skip <| x_qs <| c_seq <| c_seq <| c_reg <| ow_batch [.fa 39 0 0 fa39_0] rfl <| o1 rfl (r1 0 1 rfl ty37 rfl) <| ow_batch [.lenS 37 118 sl37, .p] rfl <| ow_nil <| x_qs <| c_block <| CW.at (loopI1 (fun (i134 : Int) => St w [] [Res.box b24 35 [.slice a14 p0.Attrs_.length c15, .slice a16 p0.Classes_.length c17], Res.box b25 39 [.slice a22 p1.Nodes_.length c23, .int .i64 p1.Seen_]]) (fun (i134 : Int) => [(2, .pointer (some ⟨b24, 0, none⟩)), (3, .pointer (some ⟨b25, 0, none⟩)), (25, .slice a22 p1.Nodes_.length c23), (26, .int .i64 (p1.Nodes_.length : Int)), (27, .int .i64 i134)]) (fun kk => fun (i134 : Int) => impl_TreeOk_L1 p1 p0 kk i134 = some r) (fun _ H => ?_) (fun k1 ihk1 i134 H => ?_) Fuel (0) (H)) (fun _ h => St.sel [0, 1] rfl rfl h) ⟨rfl, rfl, rfl, rfl, rfl,  trivial⟩
    ·unfold impl_TreeOk_L1 at H
     exact absurd H (by simp)
    ·unfold impl_TreeOk_L1 at H
     refine c_seq <| c_reg <| ow_batch [.p] rfl <| ow_nil <| x_qs <| c_seq <| cI H rfl (fun H => ?_) (fun H => ?_)
     ·refine c_skip <| x_qs <| c_seq <| c_block <| c_seq <| c_reg <| ow_batch [.p] rfl <| bE H fun e231 h232 H => ow_ixB rfl rfl rfl rfl rfl sl37 ty118 rfl g20 h232 fun q235 c236 hd233 hA234 => ?_
      obtain ⟨c237, c238, c239, c240, c241, c242, c243, c244, c245, c246, rfl, g247, g248, g249, g250, g251, g252, g253, g254, g255, g256⟩ := rdo_Timpl_Node hd233
      obtain rfl : c237 = [.bool e231.Leaf_] := g247
      obtain rfl : c238 = [.int .i64 e231.Fork_.Attr_, .int .i64 e231.Fork_.At_] := g248
      obtain ⟨a257, c258, rfl⟩ := rd_sl1 g249
      obtain rfl : c240 = [.int .i64 e231.Miss_] := g250
      obtain ⟨c259, c260, rfl, g261, g262⟩ := rdo_Timpl_Stats g251
      obtain ⟨a263, c264, rfl⟩ := rd_sl1 g261
      obtain ⟨a265, c266, rfl⟩ := rd_sl1 g262
      obtain rfl : c242 = [.int .i64 e231.Since_] := g252
      obtain ⟨a267, c268, rfl⟩ := rd_sl1 g253
      obtain rfl : c244 = [.int .i64 e231.Depth_] := g254
      obtain rfl : c245 = [.int .i64 e231.Up_] := g255
      obtain rfl : c246 = [.int .i64 e231.Born_] := g256
      refine o1 rfl (ry_load (cs := [.bool e231.Leaf_, .int .i64 e231.Fork_.Attr_, .int .i64 e231.Fork_.At_, .slice a257 e231.Kids_.length c258, .int .i64 e231.Miss_, .slice a263 e231.Stats_.Totals_.length c264, .slice a265 e231.Stats_.Cells_.length c266, .int .i64 e231.Since_, .slice a267 e231.Attrs_.length c268, .int .i64 e231.Depth_, .int .i64 e231.Up_, .int .i64 e231.Born_]) rfl rfl ty118 (at_bor bor hA234) rfl) <| ow_alloc rfl rfl rfl rfl ty118 (fun _ => kp) fun b269 => ow_batch [.p] rfl <| sC 0 [.bool e231.Leaf_, .int .i64 e231.Fork_.Attr_, .int .i64 e231.Fork_.At_, .slice a257 e231.Kids_.length c258, .int .i64 e231.Miss_, .slice a263 e231.Stats_.Totals_.length c264, .slice a265 e231.Stats_.Cells_.length c266, .int .i64 e231.Since_, .slice a267 e231.Attrs_.length c268, .int .i64 e231.Depth_, .int .i64 e231.Up_, .int .i64 e231.Born_] [_, _, _, _, _, _, _, _, _, _, _, _] 2 rfl ty118 rfl <| ow_nil <| x_qs <| c_seq <| c_seq <| c_reg <| o1 rfl (rx 0 0 [.slice a14 p0.Attrs_.length c15, .slice a16 p0.Classes_.length c17] rfl ty35 rfl) <| o1 rfl (rx 0 1 [.slice a22 p1.Nodes_.length c23, .int .i64 p1.Seen_] rfl ty39 rfl) <| ow_batch [.p] rfl <| bE H fun y270 h271 H => oq rfl (qc rfl fn133 (fun w1 hw1 => impl_nodeOk_ok w1 (cs0 := [.slice a14 p0.Attrs_.length c15, .slice a16 p0.Classes_.length c17]) (cs1 := [.slice a22 p1.Nodes_.length c23, .int .i64 p1.Seen_]) h271 (rdm_Timpl_Schema (x := p0) (c0 := [.slice a14 p0.Attrs_.length c15]) (c1 := [.slice a16 p0.Classes_.length c17]) (rds_bor g12 w1 hw1) (rds_bor g13 w1 hw1)) (rdm_Timpl_Tree (x := p1) (c0 := [.slice a22 p1.Nodes_.length c23]) (c1 := [.int .i64 p1.Seen_]) (rds_bor g20 w1 hw1) rfl))) tt2 <| ow_batch [.p] rfl <| ow_nil <| x_qs <| cI H rfl (fun H => ?_) (fun H => ?_)
      ·exact c_seq <| c_reg <| ow_batch [.p] rfl <| ow_nil <| x_qs <| c_ret <| x_qs_ret <| x_qb_ret <| x_qs_ret <| x_ql_ret <| x_qb_ret <| x_qs_ret <| xr 4 rfl (by cases H; exact q1)
      ·refine c_skip <| x_qs <| c_seq <| c_seq <| c_reg <| ow_batch [.p, .p] rfl <| ow_nil <| x_qs <| cI H rfl (fun H => ?_) (fun H => ?_)
       ·refine c_seq <| c_seq <| c_reg <| ow_batch [.fa 118 8 10 fa118_8] rfl <| o1 rfl (r1 10 2 rfl ty3 rfl) <| ow_batch [.p, .p] rfl <| ow_cut [(46, .bool ((e231.Up_ != (-1)) || (e231.Depth_ != 0))), (2, .pointer (some ⟨b24, 0, none⟩)), (3, .pointer (some ⟨b25, 0, none⟩)), (6, .pointer (some ⟨b269, 0, none⟩)), (25, .slice a22 p1.Nodes_.length c23), (26, .int .i64 (p1.Nodes_.length : Int)), (27, .int .i64 i134)] 4 ?_ (fun key => OW.sub (R := [(2, .pointer (some ⟨b24, 0, none⟩)), (3, .pointer (some ⟨b25, 0, none⟩)), (6, .pointer (some ⟨b269, 0, none⟩)), (25, .slice a22 p1.Nodes_.length c23), (26, .int .i64 (p1.Nodes_.length : Int)), (27, .int .i64 i134), (42, .bool (e231.Up_ != (-1)))]) ?_ (sb rfl))
        ·refine ow_batch [.p] rfl <| ow_cut [(51, .bool (((e231.Up_ != (-1)) || (e231.Depth_ != 0)) || (e231.Born_ != 0))), (2, .pointer (some ⟨b24, 0, none⟩)), (3, .pointer (some ⟨b25, 0, none⟩)), (25, .slice a22 p1.Nodes_.length c23), (26, .int .i64 (p1.Nodes_.length : Int)), (27, .int .i64 i134)] 4 ?_ (fun key => OW.sub (R := [(2, .pointer (some ⟨b24, 0, none⟩)), (3, .pointer (some ⟨b25, 0, none⟩)), (6, .pointer (some ⟨b269, 0, none⟩)), (25, .slice a22 p1.Nodes_.length c23), (26, .int .i64 (p1.Nodes_.length : Int)), (27, .int .i64 i134), (47, .bool ((e231.Up_ != (-1)) || (e231.Depth_ != 0)))]) ?_ (sb rfl))
         ·refine ow_nil <| x_qs <| cI H rfl (fun H => ?_) (fun H => ?_)
          ·exact c_seq <| c_reg <| ow_batch [.p] rfl <| ow_nil <| x_qs <| c_ret <| x_qs_ret <| x_qs_ret <| x_qb_ret <| x_qs_ret <| x_ql_ret <| x_qb_ret <| x_qs_ret <| xr 4 rfl (by cases H; exact q1)
          ·exact c_skip <| x_qs <| c_exit <| x_qs_exit <| x_qb_here <| x_qs <| c_reg <| ow_batch [.p, .p] rfl <| ow_nil <| x_ql (RW.at (ihk1 (IntKind.i64.wrap (i134 + 1)) (H)) (fun _ h => St.sel [0, 1] rfl rfl h) ⟨rfl, rfl, rfl, rfl, rfl, trivial⟩)
         ·generalize ((e231.Up_ != (-1)) || (e231.Depth_ != 0)) = t275 at key ⊢
          cases t275
          ·exact ow_batch [.fa 118 9 11 fa118_9] rfl <| o1 rfl (r1 11 2 rfl ty3 rfl) <| ow_batch [.p] rfl <| ow_batch [.p] rfl <| OW.sub key (sb rfl)
          ·exact ow_batch [.p, .p, .p, .p] rfl <| OW.sub key (sb rfl)
        ·generalize (e231.Up_ != (-1)) = t273 at key ⊢
         cases t273
         ·exact ow_batch [.fa 118 7 9 fa118_7] rfl <| o1 rfl (r1 9 2 rfl ty3 rfl) <| ow_batch [.p] rfl <| ow_batch [.p] rfl <| OW.sub key (sb rfl)
         ·exact ow_batch [.p, .p, .p, .p] rfl <| OW.sub key (sb rfl)
       ·refine c_skip <| x_qs <| c_seq <| c_seq <| c_reg <| ow_batch [.fa 118 8 10 fa118_8] rfl <| o1 rfl (r1 10 2 rfl ty3 rfl) <| ow_batch [.p, .p] rfl <| bE H fun y276 h277 H => oq rfl (qc rfl fn91 (fun w1 hw1 => impl_within_ok w1  h277)) tt2 <| ow_batch [.p] rfl <| ow_nil <| x_qs <| cI H rfl (fun H => ?_) (fun H => ?_)
        ·exact c_seq <| c_reg <| ow_batch [.p] rfl <| ow_nil <| x_qs <| c_ret <| x_qs_ret <| x_qb_ret <| x_qs_ret <| x_ql_ret <| x_qb_ret <| x_qs_ret <| xr 4 rfl (by cases H; exact q1)
        ·refine c_skip <| x_qs <| c_seq <| c_reg <| ow_batch [.fa 39 0 0 fa39_0] rfl <| o1 rfl (r1 0 1 rfl ty37 rfl) <| ow_batch [.fa 118 8 10 fa118_8] rfl <| o1 rfl (r1 10 2 rfl ty3 rfl) <| bE H fun e278 h279 H => ow_ixB rfl rfl rfl rfl rfl sl37 ty118 rfl g20 h279 fun q282 c283 hd280 hA281 => ?_
         obtain ⟨c284, c285, c286, c287, c288, c289, c290, c291, c292, c293, rfl, g294, g295, g296, g297, g298, g299, g300, g301, g302, g303⟩ := rdo_Timpl_Node hd280
         obtain rfl : c284 = [.bool e278.Leaf_] := g294
         obtain rfl : c285 = [.int .i64 e278.Fork_.Attr_, .int .i64 e278.Fork_.At_] := g295
         obtain ⟨a304, c305, rfl⟩ := rd_sl1 g296
         obtain rfl : c287 = [.int .i64 e278.Miss_] := g297
         obtain ⟨c306, c307, rfl, g308, g309⟩ := rdo_Timpl_Stats g298
         obtain ⟨a310, c311, rfl⟩ := rd_sl1 g308
         obtain ⟨a312, c313, rfl⟩ := rd_sl1 g309
         obtain rfl : c289 = [.int .i64 e278.Since_] := g299
         obtain ⟨a314, c315, rfl⟩ := rd_sl1 g300
         obtain rfl : c291 = [.int .i64 e278.Depth_] := g301
         obtain rfl : c292 = [.int .i64 e278.Up_] := g302
         obtain rfl : c293 = [.int .i64 e278.Born_] := g303
         refine o1 rfl (ry_load (cs := [.bool e278.Leaf_, .int .i64 e278.Fork_.Attr_, .int .i64 e278.Fork_.At_, .slice a304 e278.Kids_.length c305, .int .i64 e278.Miss_, .slice a310 e278.Stats_.Totals_.length c311, .slice a312 e278.Stats_.Cells_.length c313, .int .i64 e278.Since_, .slice a314 e278.Attrs_.length c315, .int .i64 e278.Depth_, .int .i64 e278.Up_, .int .i64 e278.Born_]) rfl rfl ty118 (at_bor bor hA281) rfl) <| ow_alloc rfl rfl rfl rfl ty118 (fun _ => kp) fun b316 => sC 0 [.bool e278.Leaf_, .int .i64 e278.Fork_.Attr_, .int .i64 e278.Fork_.At_, .slice a304 e278.Kids_.length c305, .int .i64 e278.Miss_, .slice a310 e278.Stats_.Totals_.length c311, .slice a312 e278.Stats_.Cells_.length c313, .int .i64 e278.Since_, .slice a314 e278.Attrs_.length c315, .int .i64 e278.Depth_, .int .i64 e278.Up_, .int .i64 e278.Born_] [_, _, _, _, _, _, _, _, _, _, _, _] 3 rfl ty118 rfl <| ow_nil <| x_qs <| c_seq <| c_reg <| ow_batch [.fa 118 0 0 fa118_0] rfl <| o1 rfl (r1 0 3 rfl ty4 rfl) <| ow_batch [.p] rfl <| bE H fun u317 hu321 H => ow_cut [(72, .bool u317), (2, .pointer (some ⟨b24, 0, none⟩)), (3, .pointer (some ⟨b25, 0, none⟩)), (6, .pointer (some ⟨b269, 0, none⟩)), (7, .pointer (some ⟨b316, 0, none⟩)), (25, .slice a22 p1.Nodes_.length c23), (26, .int .i64 (p1.Nodes_.length : Int)), (27, .int .i64 i134)] 6 ?_ (fun key => OW.sub (R := [(2, .pointer (some ⟨b24, 0, none⟩)), (3, .pointer (some ⟨b25, 0, none⟩)), (5, .int .i64 i134), (6, .pointer (some ⟨b269, 0, none⟩)), (7, .pointer (some ⟨b316, 0, none⟩)), (25, .slice a22 p1.Nodes_.length c23), (26, .int .i64 (p1.Nodes_.length : Int)), (27, .int .i64 i134), (66, .bool e278.Leaf_)]) ?_ (sb rfl))
         ·refine ow_batch [.p] rfl <| ow_cut [(80, .bool (u317 || (e278.Depth_ != (IntKind.i64.wrap (e231.Depth_ - 1))))), (2, .pointer (some ⟨b24, 0, none⟩)), (3, .pointer (some ⟨b25, 0, none⟩)), (6, .pointer (some ⟨b269, 0, none⟩)), (7, .pointer (some ⟨b316, 0, none⟩)), (25, .slice a22 p1.Nodes_.length c23), (26, .int .i64 (p1.Nodes_.length : Int)), (27, .int .i64 i134)] 7 ?_ (fun key => OW.sub (R := [(2, .pointer (some ⟨b24, 0, none⟩)), (3, .pointer (some ⟨b25, 0, none⟩)), (6, .pointer (some ⟨b269, 0, none⟩)), (7, .pointer (some ⟨b316, 0, none⟩)), (25, .slice a22 p1.Nodes_.length c23), (26, .int .i64 (p1.Nodes_.length : Int)), (27, .int .i64 i134), (73, .bool u317)]) ?_ (sb rfl))
          ·refine ow_batch [.p] rfl <| ow_cut [(87, .bool ((u317 || (e278.Depth_ != (IntKind.i64.wrap (e231.Depth_ - 1)))) || (decide (e278.Born_ > e231.Born_)))), (2, .pointer (some ⟨b24, 0, none⟩)), (3, .pointer (some ⟨b25, 0, none⟩)), (25, .slice a22 p1.Nodes_.length c23), (26, .int .i64 (p1.Nodes_.length : Int)), (27, .int .i64 i134)] 6 ?_ (fun key => OW.sub (R := [(2, .pointer (some ⟨b24, 0, none⟩)), (3, .pointer (some ⟨b25, 0, none⟩)), (6, .pointer (some ⟨b269, 0, none⟩)), (7, .pointer (some ⟨b316, 0, none⟩)), (25, .slice a22 p1.Nodes_.length c23), (26, .int .i64 (p1.Nodes_.length : Int)), (27, .int .i64 i134), (81, .bool (u317 || (e278.Depth_ != (IntKind.i64.wrap (e231.Depth_ - 1)))))]) ?_ (sb rfl))
           ·refine ow_nil <| x_qs <| cI H rfl (fun H => ?_) (fun H => ?_)
            ·exact c_seq <| c_reg <| ow_batch [.p] rfl <| ow_nil <| x_qs <| c_ret <| x_qb_ret <| x_qs_ret <| x_ql_ret <| x_qb_ret <| x_qs_ret <| xr 4 rfl (by cases H; exact q1)
            ·exact c_skip <| x_qb <| x_qs <| c_reg <| ow_batch [.p, .p] rfl <| ow_nil <| x_ql (RW.at (ihk1 (IntKind.i64.wrap (i134 + 1)) (H)) (fun _ h => St.sel [0, 1] rfl rfl h) ⟨rfl, rfl, rfl, rfl, rfl, trivial⟩)
           ·generalize (u317 || (e278.Depth_ != (IntKind.i64.wrap (e231.Depth_ - 1)))) = t325 at key ⊢
            cases t325
            ·exact ow_batch [.fa 118 9 11 fa118_9] rfl <| o1 rfl (r1 11 3 rfl ty3 rfl) <| ow_batch [.fa 118 9 11 fa118_9] rfl <| o1 rfl (r1 11 2 rfl ty3 rfl) <| ow_batch [.p] rfl <| ow_batch [.p] rfl <| OW.sub key (sb rfl)
            ·exact ow_batch [.p, .p, .p, .p, .p, .p] rfl <| OW.sub key (sb rfl)
          ·generalize u317 = t323 at key ⊢
           cases t323
           ·exact ow_batch [.fa 118 7 9 fa118_7] rfl <| o1 rfl (r1 9 3 rfl ty3 rfl) <| ow_batch [.fa 118 7 9 fa118_7] rfl <| o1 rfl (r1 9 2 rfl ty3 rfl) <| ow_batch [.p, .p] rfl <| ow_batch [.p] rfl <| OW.sub key (sb rfl)
           ·exact ow_batch [.p, .p, .p, .p, .p, .p, .p] rfl <| OW.sub key (sb rfl)
         ·clear H
          have H := hu321
          clear hu321
          generalize e278.Leaf_ = t320 at H key ⊢
          cases t320
          ·have H := of_if_f rfl H
           refine ow_batch [.fa 118 2 3 fa118_2] rfl <| o1 rfl (r1 3 3 rfl ty59 rfl) <| ow_batch [.p] rfl <| bE H fun y318 h319 H => oq rfl (qc rfl fn134 (fun w1 hw1 => lib_slices_Contains___int_int__ok w1  h319 (rds_bor g296 w1 hw1))) tt2 <| ow_batch [.p] rfl <| ow_batch [.p] rfl <| ?_
           obtain rfl := of_some H
           exact OW.sub key (sb rfl)
          ·have H := of_if_t rfl H
           refine ow_batch [.p, .p, .p, .p, .p, .p] rfl ?_
           obtain rfl := of_some H
           exact OW.sub key (sb rfl)
     ·exact c_exit <| x_qs_exit <| x_ql_exit <| x_qb_here <| x_qs <| c_seq <| c_reg <| ow_batch [.p] rfl <| ow_nil <| x_qs <| c_ret <| xr 4 rfl (by cases H; exact q1)
  ·clear H
   have H := hu37
   clear hu37
   generalize u28 = t36 at H key ⊢
   cases t36
   ·have H := of_if_f rfl H
    refine ow_batch [.fa 39 1 1 fa39_1] rfl <| o1 rfl (r1 1 1 rfl ty3 rfl) <| bE H fun y34 h35 H => oq rfl (qc rfl fn91 (fun w1 hw1 => impl_within_ok w1  h35)) tt2 <| ow_batch [.p] rfl <| ow_batch [.p] rfl <| ?_
    obtain rfl := of_some H
    exact OW.sub key (sb rfl)
   ·have H := of_if_t rfl H
    refine ow_batch [.p, .p, .p, .p, .p] rfl ?_
    obtain rfl := of_some H
    exact OW.sub key (sb rfl)
 ·clear H
  have H := hu32
  clear hu32
  generalize (!y26) = t31 at H key ⊢
  cases t31
  ·have H := of_if_f rfl H
   refine ow_batch [.fa 39 0 0 fa39_0] rfl <| o1 rfl (r1 0 1 rfl ty37 rfl) <| ow_batch [.lenS 37 118 sl37] rfl <| bE H fun y29 h30 H => oq rfl (qc rfl fn91 (fun w1 hw1 => impl_within_ok w1  h30)) tt2 <| ow_batch [.p] rfl <| ow_batch [.p] rfl <| ?_
   obtain rfl := of_some H
   exact OW.sub key (sb rfl)
  ·have H := of_if_t rfl H
   refine ow_batch [.p, .p, .p, .p, .p, .p] rfl ?_
   obtain rfl := of_some H
   exact OW.sub key (sb rfl)
theorem impl_ExOk_ok (w : World) {p0 : Timpl_Schema} {p1 : Timpl_Ex} {cs0 : List Value} {cs1 : List Value} {r : Bool} (H : impl_ExOk p0 p1 = some r)  (g0 : (eTimpl_Schema).rd w [] p0 cs0) (g1 : (eTimpl_Ex).rd w [] p1 cs1) :
    Calls Tryz.prog 150 #[.agg cs0.toArray, .agg cs1.toArray] w (fun en w' => en = .returned (.bool r) ∧ Ext [] w w') := by
 obtain ⟨c10, c11, rfl, g12, g13⟩ := rdo_Timpl_Schema g0
 obtain ⟨a14, c15, rfl⟩ := rd_sl1 g12
 obtain ⟨a16, c17, rfl⟩ := rd_sl1 g13
 obtain ⟨c18, c19, rfl, g20, g21⟩ := rdo_Timpl_Ex g1
 obtain ⟨a22, c23, rfl⟩ := rd_sl1 g20
 obtain rfl : c19 = [.int .i64 p1.Class_] := g21
 unfold impl_ExOk at H
 refine f_enter (vs := [.agg #[.slice a14 p0.Attrs_.length c15, .slice a16 p0.Classes_.length c17], .agg #[.slice a22 p1.Bins_.length c23, .int .i64 p1.Class_]]) Tryz.func150 rfl Tryz.ntmps150 rfl (St.init w []) <| c_seq <| c_reg <| ob [.slice a14 p0.Attrs_.length c15, .slice a16 p0.Classes_.length c17] rfl fun b24 => ob [.slice a22 p1.Bins_.length c23, .int .i64 p1.Class_] rfl fun b25 => ow_batch [.p] rfl <| ow_nil <| x_qs <| c_seq <| c_seq <| c_reg <| o1 rfl (rx 0 0 [.slice a14 p0.Attrs_.length c15, .slice a16 p0.Classes_.length c17] rfl ty35 rfl) <| bE H fun y26 h27 H => oq rfl (qc rfl fn132 (fun w1 hw1 => impl_SchemaOk_ok w1 (cs0 := [.slice a14 p0.Attrs_.length c15, .slice a16 p0.Classes_.length c17]) h27 (rdm_Timpl_Schema (x := p0) (c0 := [.slice a14 p0.Attrs_.length c15]) (c1 := [.slice a16 p0.Classes_.length c17]) (rds_bor g12 w1 hw1) (rds_bor g13 w1 hw1)))) tt2 <| ow_batch [.p, .p] rfl <| ow_cut [(18, .bool ((!y26) || ((p1.Bins_.length : Int) != (p0.Attrs_.length : Int)))), (2, .pointer (some ⟨b24, 0, none⟩)), (3, .pointer (some ⟨b25, 0, none⟩))] 8 ?_ (fun key => OW.sub (R := [(2, .pointer (some ⟨b24, 0, none⟩)), (3, .pointer (some ⟨b25, 0, none⟩)), (10, .bool (!y26))]) ?_ (sb rfl))
 ·refine ow_batch [.p] rfl <| bE H fun u30 hu34 H => ow_cut [(28, .bool u30), (2, .pointer (some ⟨b24, 0, none⟩)), (3, .pointer (some ⟨b25, 0, none⟩))] 9 ?_ (fun key => OW.sub (R := [(2, .pointer (some ⟨b24, 0, none⟩)), (3, .pointer (some ⟨b25, 0, none⟩)), (19, .bool ((!y26) || ((p1.Bins_.length : Int) != (p0.Attrs_.length : Int))))]) ?_ (sb rfl))
  ·refine ow_nil <| x_qs <| cI H rfl (fun H => ?_) (fun H => ?_)
   ·exact c_seq <| c_reg <| ow_batch [.p] rfl <| ow_nil <| x_qs <| c_ret <| x_qs_ret <| xr 4 rfl (by cases H; exact q1)
   ·refine c_skip <| x_qs <| c_seq <| c_seq <| c_reg <| ow_batch [.fa 142 0 0 fa142_0] rfl <| o1 rfl (r1 0 1 rfl ty59 rfl) <| ow_batch [.lenS 59 3 sl59, .p] rfl <| ow_nil <| x_qs <| c_block <| CW.at (loopI1 (fun (i58 : Int) => St w [] [Res.box b24 35 [.slice a14 p0.Attrs_.length c15, .slice a16 p0.Classes_.length c17]]) (fun (i58 : Int) => [(2, .pointer (some ⟨b24, 0, none⟩)), (30, .slice a22 p1.Bins_.length c23), (31, .int .i64 (p1.Bins_.length : Int)), (32, .int .i64 i58)]) (fun kk => fun (i58 : Int) => impl_ExOk_L1 p1 p0 kk i58 = some r) (fun _ H => ?_) (fun k1 ihk1 i58 H => ?_) Fuel (0) (H)) (fun _ h => St.sel [0] rfl rfl h) ⟨rfl, rfl, rfl, rfl,  trivial⟩
    ·unfold impl_ExOk_L1 at H
     exact absurd H (by simp)
    ·unfold impl_ExOk_L1 at H
     refine c_seq <| c_reg <| ow_batch [.p] rfl <| ow_nil <| x_qs <| c_seq <| cI H rfl (fun H => ?_) (fun H => ?_)
     ·refine c_skip <| x_qs <| c_seq <| c_block <| c_seq <| c_reg <| ow_batch [.p] rfl <| bE H fun e82 h83 H => ow_ixE (e := eVal (Value.int .i64) (fun _ => rfl)) (xs := p1.Bins_) (j := i58) rfl rfl rfl rfl rfl sl59 ty3 rfl (fun w1 hw1 => rds_bor g20 w1 hw1) h83 (by rw [Nat.mul_one]) <| o1 rfl (ry_load1 rfl rfl ty3 (at_elV (fun w1 hw1 => rds_bor g20 w1 hw1) h83)) <| ow_batch [.p, .p] rfl <| ow_nil <| x_qs <| c_seq <| c_reg <| ow_batch [.p, .fa 35 0 0 fa35_0] rfl <| o1 rfl (r1 0 0 rfl ty33 rfl) <| ow_batch [.p] rfl <| bE H fun e84 h85 H => ow_ixB rfl rfl rfl rfl rfl sl33 ty114 rfl g12 h85 fun q88 c89 hd86 hA87 => ?_
      obtain ⟨c90, c91, c92, rfl, g93, g94, g95⟩ := rdo_Timpl_Attr hd86
      obtain rfl : c90 = [vS e84.Name_] := g93
      obtain ⟨a96, c97, rfl⟩ := rd_sl1 g94
      obtain ⟨a98, c99, rfl⟩ := rd_sl1 g95
      refine o1 rfl (ry_load (cs := [vS e84.Name_, .slice a96 e84.Cuts_.length c97, .slice a98 e84.Values_.length c99]) rfl rfl ty114 (at_bor bor hA87) rfl) <| bE H fun y100 h101 H => oq rfl (qc rfl fn138 (fun w1 hw1 => impl_bins_ok w1 (cs0 := [vS e84.Name_, .slice a96 e84.Cuts_.length c97, .slice a98 e84.Values_.length c99]) h101 (rdm_Timpl_Attr (x := e84) (c0 := [vS e84.Name_]) (c1 := [.slice a96 e84.Cuts_.length c97]) (c2 := [.slice a98 e84.Values_.length c99]) rfl (rds_bor g94 w1 hw1) (rds_bor g95 w1 hw1)))) tt2 <| ow_batch [.p] rfl <| bE H fun y102 h103 H => oq rfl (qc rfl fn91 (fun w1 hw1 => impl_within_ok w1  h103)) tt2 <| ow_batch [.p] rfl <| ow_nil <| x_qs <| cI H rfl (fun H => ?_) (fun H => ?_)
      ·exact c_seq <| c_reg <| ow_batch [.p] rfl <| ow_nil <| x_qs <| c_ret <| x_qb_ret <| x_qs_ret <| x_ql_ret <| x_qb_ret <| x_qs_ret <| xr 4 rfl (by cases H; exact q1)
      ·exact c_skip <| x_qb <| x_qs <| c_reg <| ow_batch [.p, .p] rfl <| ow_nil <| x_ql (RW.at (ihk1 (IntKind.i64.wrap (i58 + 1)) (H)) (fun _ h => St.sel [0] rfl rfl h) ⟨rfl, rfl, rfl, rfl, trivial⟩)
     ·exact c_exit <| x_qs_exit <| x_ql_exit <| x_qb_here <| x_qs <| c_seq <| c_reg <| ow_batch [.p] rfl <| ow_nil <| x_qs <| c_ret <| xr 4 rfl (by cases H; exact q1)
  ·clear H
   have H := hu34
   clear hu34
   generalize ((!y26) || ((p1.Bins_.length : Int) != (p0.Attrs_.length : Int))) = t33 at H key ⊢
   cases t33
   ·have H := of_if_f rfl H
    refine ow_batch [.fa 142 1 1 fa142_1] rfl <| o1 rfl (r1 1 1 rfl ty3 rfl) <| ow_batch [.fa 35 1 1 fa35_1] rfl <| o1 rfl (r1 1 0 rfl ty23 rfl) <| ow_batch [.lenS 23 9 sl23, .p] rfl <| bE H fun y31 h32 H => oq rfl (qc rfl fn91 (fun w1 hw1 => impl_within_ok w1  h32)) tt2 <| ow_batch [.p] rfl <| ow_batch [.p] rfl <| ?_
    obtain rfl := of_some H
    exact OW.sub key (sb rfl)
   ·have H := of_if_t rfl H
    refine ow_batch [.p, .p, .p, .p, .p, .p, .p, .p, .p] rfl ?_
    obtain rfl := of_some H
    exact OW.sub key (sb rfl)
 ·generalize (!y26) = t29 at key ⊢
  cases t29
  ·exact ow_batch [.fa 142 0 0 fa142_0] rfl <| o1 rfl (r1 0 1 rfl ty59 rfl) <| ow_batch [.lenS 59 3 sl59, .fa 35 0 0 fa35_0] rfl <| o1 rfl (r1 0 0 rfl ty33 rfl) <| ow_batch [.lenS 33 114 sl33, .p] rfl <| ow_batch [.p] rfl <| OW.sub key (sb rfl)
  ·exact ow_batch [.p, .p, .p, .p, .p, .p, .p, .p] rfl <| OW.sub key (sb rfl)
theorem impl_EntriesOk_1_ok (w : World) {p0 : Timpl_Entry} {p1 : Timpl_Schema} {cs0 : List Value} {q_1 : Addr} {cs_1 : List Value} {r : Bool} (H : impl_EntriesOk_1 p0 p1 = some r)  (g0 : (eTimpl_Entry).rd w [] p0 cs0) (g_1 : (eTimpl_Schema).rd w [] p1 cs_1) (hA_1 : At w [] q_1 cs_1) :
    Calls Tryz.prog 149 #[.agg cs0.toArray, .pointer (some q_1)] w (fun en w' => en = .returned (.bool r) ∧ Ext [] w w') := by
 obtain ⟨c10, c11, rfl, g12, g13⟩ := rdo_Timpl_Entry g0
 obtain ⟨c14, c15, rfl, g16, g17⟩ := rdo_Timpl_Ex g12
 obtain ⟨a18, c19, rfl⟩ := rd_sl1 g16
 obtain rfl : c15 = [.int .i64 p0.Ex_.Class_] := g17
 obtain rfl : c11 = [.int .i64 p0.Weight_] := g13
 obtain ⟨c20, c21, rfl, g22, g23⟩ := rdo_Timpl_Schema g_1
 obtain ⟨a24, c25, rfl⟩ := rd_sl1 g22
 obtain ⟨a26, c27, rfl⟩ := rd_sl1 g23
 unfold impl_EntriesOk_1 at H
 refine f_enter (vs := [.agg #[.slice a18 p0.Ex_.Bins_.length c19, .int .i64 p0.Ex_.Class_, .int .i64 p0.Weight_], .pointer (some q_1)]) Tryz.func149 rfl Tryz.ntmps149 rfl (St.init w []) <| c_seq <| c_reg <| ob [.slice a18 p0.Ex_.Bins_.length c19, .int .i64 p0.Ex_.Class_, .int .i64 p0.Weight_] rfl fun b28 => ow_batch [.p] rfl <| ow_nil <| x_qs <| c_seq <| c_reg <| o1 rfl (ry_load (cs := [.slice a24 p1.Attrs_.length c25, .slice a26 p1.Classes_.length c27]) rfl rfl ty35 (at_bor bor hA_1) rfl) <| ow_batch [.fa 144 0 0 fa144_0] rfl <| o1 rfl (rx 0 0 [.slice a18 p0.Ex_.Bins_.length c19, .int .i64 p0.Ex_.Class_] rfl ty142 rfl) <| bE H fun y29 h30 H => oq rfl (qc rfl fn150 (fun w1 hw1 => impl_ExOk_ok w1 (cs0 := [.slice a24 p1.Attrs_.length c25, .slice a26 p1.Classes_.length c27]) (cs1 := [.slice a18 p0.Ex_.Bins_.length c19, .int .i64 p0.Ex_.Class_]) h30 (rdm_Timpl_Schema (x := p1) (c0 := [.slice a24 p1.Attrs_.length c25]) (c1 := [.slice a26 p1.Classes_.length c27]) (rds_bor g22 w1 hw1) (rds_bor g23 w1 hw1)) (rdm_Timpl_Ex (x := p0.Ex_) (c0 := [.slice a18 p0.Ex_.Bins_.length c19]) (c1 := [.int .i64 p0.Ex_.Class_]) (rds_bor g16 w1 hw1) rfl))) tt2 <| ow_batch [.p, .p] rfl <| ow_cut [(14, .bool ((!y29) || (decide (p0.Ex_.Class_ < 0)))), (2, .pointer (some ⟨b28, 0, none⟩)), (3, .bool false)] 5 ?_ (fun key => OW.sub (R := [(2, .pointer (some ⟨b28, 0, none⟩)), (3, .bool false), (9, .bool (!y29))]) ?_ (sb rfl))
 ·refine ow_batch [.p] rfl <| bE H fun u33 hu37 H => ow_cut [(20, .bool u33), (3, .bool false)] 5 ?_ (fun key => OW.sub (R := [(2, .pointer (some ⟨b28, 0, none⟩)), (3, .bool false), (15, .bool ((!y29) || (decide (p0.Ex_.Class_ < 0))))]) ?_ (sb rfl))
  ·exact ow_batch [.p] rfl <| ow_nil <| x_qs <| c_ret <| xr 3 rfl (by cases H; exact q1)
  ·clear H
   have H := hu37
   clear hu37
   generalize ((!y29) || (decide (p0.Ex_.Class_ < 0))) = t36 at H key ⊢
   cases t36
   ·have H := of_if_f rfl H
    refine ow_batch [.fa 144 1 2 fa144_1] rfl <| o1 rfl (r1 2 0 rfl ty3 rfl) <| bE H fun y34 h35 H => oq rfl (qc rfl fn91 (fun w1 hw1 => impl_within_ok w1  h35)) tt2 <| ow_batch [.p] rfl <| ow_batch [.p] rfl <| ?_
    obtain rfl := of_some H
    exact OW.sub key (sb rfl)
   ·have H := of_if_t rfl H
    refine ow_batch [.p, .p, .p, .p, .p] rfl ?_
    obtain rfl := of_some H
    exact OW.sub key (sb rfl)
 ·generalize (!y29) = t32 at key ⊢
  cases t32
  ·exact ow_batch [.fa 144 0 0 fa144_0, .fa 142 1 1 fa142_1] rfl <| o1 rfl (r1 1 0 rfl ty3 rfl) <| ow_batch [.p] rfl <| ow_batch [.p] rfl <| OW.sub key (sb rfl)
  ·exact ow_batch [.p, .p, .p, .p, .p] rfl <| OW.sub key (sb rfl)
theorem lib_slices_IndexFunc___impl_Entry_impl_Entry___impl_EntriesOk_1_ok (w : World) {p0 : List Timpl_Entry} {p1_0 : Timpl_Schema} {a_0 : Option Addr} {n_0 c_0 : Nat} {q_1_0 : Addr} {cs_1_0 : List Value} {r : Int} (H : lib_slices_IndexFunc___impl_Entry_impl_Entry___impl_EntriesOk_1 p0 p1_0 = some r)  (g0 : (eList (eTimpl_Entry) 144).rd w [] p0 [.slice a_0 n_0 c_0]) (g_1_0 : (eTimpl_Schema).rd w [] p1_0 cs_1_0) (hA_1_0 : At w [] q_1_0 cs_1_0) :
    Calls Tryz.prog 213 #[.slice a_0 n_0 c_0, .func (.func 149) #[] #[.pointer (some q_1_0)]] w (fun en w' => en = .returned (.int .i64 r) ∧ Ext [] w w') := by
 obtain rfl := rd_n g0
 obtain ⟨c10, c11, rfl, g12, g13⟩ := rdo_Timpl_Schema g_1_0
 obtain ⟨a14, c15, rfl⟩ := rd_sl1 g12
 obtain ⟨a16, c17, rfl⟩ := rd_sl1 g13
 unfold lib_slices_IndexFunc___impl_Entry_impl_Entry___impl_EntriesOk_1 at H
 refine f_enter (vs := [.slice a_0 p0.length c_0, .func (.func 149) #[] #[.pointer (some q_1_0)]]) Tryz.func213 rfl Tryz.ntmps213 rfl (St.init w []) <| c_seq <| c_reg <| ow_batch [.p] rfl <| ow_nil <| x_qs <| c_seq <| c_seq <| c_reg <| ow_batch [.p, .lenS 55 144 sl55, .p] rfl <| ow_nil <| x_qs <| c_block <| CW.at (loopI1 (fun (i37 : Int) => St w [] []) (fun (i37 : Int) => [(0, .slice a_0 p0.length c_0), (1, .func (.func 149) #[] #[.pointer (some q_1_0)]), (7, .int .i64 (p0.length : Int)), (8, .int .i64 i37)]) (fun kk => fun (i37 : Int) => lib_slices_IndexFunc___impl_Entry_impl_Entry___impl_EntriesOk_1_L1 p0 p1_0 kk i37 = some r) (fun _ H => ?_) (fun k1 ihk1 i37 H => ?_) Fuel (0) (H)) (fun _ h => St.sel [] rfl rfl h) ⟨rfl, rfl, rfl, rfl,  trivial⟩
 ·unfold lib_slices_IndexFunc___impl_Entry_impl_Entry___impl_EntriesOk_1_L1 at H
  exact absurd H (by simp)
 ·unfold lib_slices_IndexFunc___impl_Entry_impl_Entry___impl_EntriesOk_1_L1 at H
  refine c_seq <| c_reg <| ow_batch [.p] rfl <| ow_nil <| x_qs <| c_seq <| cI H rfl (fun H => ?_) (fun H => ?_)
  ·refine c_skip <| x_qs <| c_seq <| c_block <| c_seq <| c_reg <| ow_batch [.p, .p] rfl <| ow_nil <| x_qs <| c_seq <| c_reg <| ow_batch [.p, .p, .p] rfl <| bE H fun e57 h58 H => ow_ixB rfl rfl rfl rfl rfl sl55 ty144 rfl g0 h58 fun q61 c62 hd59 hA60 => ?_
   obtain ⟨c63, c64, rfl, g65, g66⟩ := rdo_Timpl_Entry hd59
   obtain ⟨c67, c68, rfl, g69, g70⟩ := rdo_Timpl_Ex g65
   obtain ⟨a71, c72, rfl⟩ := rd_sl1 g69
   obtain rfl : c68 = [.int .i64 e57.Ex_.Class_] := g70
   obtain rfl : c64 = [.int .i64 e57.Weight_] := g66
   refine o1 rfl (ry_load (cs := [.slice a71 e57.Ex_.Bins_.length c72, .int .i64 e57.Ex_.Class_, .int .i64 e57.Weight_]) rfl rfl ty144 (at_bor bor hA60) rfl) <| bE H fun y73 h74 H => ow_q rfl rfl (dstOk_lt rfl) (qy_callV (cap := [.pointer (some q_1_0)]) rfl fn149 rfl rfl (fun w1 hw1 => impl_EntriesOk_1_ok w1 (cs0 := [.slice a71 e57.Ex_.Bins_.length c72, .int .i64 e57.Ex_.Class_, .int .i64 e57.Weight_]) (cs_1 := [.slice a14 p1_0.Attrs_.length c15, .slice a16 p1_0.Classes_.length c17]) h74 (rdm_Timpl_Entry (x := e57) (c0 := [.slice a71 e57.Ex_.Bins_.length c72, .int .i64 e57.Ex_.Class_]) (c1 := [.int .i64 e57.Weight_]) (rdm_Timpl_Ex (x := e57.Ex_) (c0 := [.slice a71 e57.Ex_.Bins_.length c72]) (c1 := [.int .i64 e57.Ex_.Class_]) (rds_bor g69 w1 hw1) rfl) rfl) (rdm_Timpl_Schema (x := p1_0) (c0 := [.slice a14 p1_0.Attrs_.length c15]) (c1 := [.slice a16 p1_0.Classes_.length c17]) (rds_bor g12 w1 hw1) (rds_bor g13 w1 hw1)) (at_bor bor hA_1_0 w1 hw1))) (fun _ _ => trivial) <| ow_nil <| x_qs <| cI H rfl (fun H => ?_) (fun H => ?_)
   ·exact c_seq <| c_reg <| ow_batch [.p, .p] rfl <| ow_nil <| x_qs <| c_ret <| x_qb_ret <| x_qs_ret <| x_ql_ret <| x_qb_ret <| x_qs_ret <| xr 4 rfl (by cases H; exact q1)
   ·exact c_skip <| x_qb <| x_qs <| c_reg <| ow_batch [.p, .p] rfl <| ow_nil <| x_ql (RW.at (ihk1 (IntKind.i64.wrap (i37 + 1)) (H)) (fun _ h => St.sel [] rfl rfl h) ⟨rfl, rfl, rfl, rfl, trivial⟩)
  ·exact c_exit <| x_qs_exit <| x_ql_exit <| x_qb_here <| x_qs <| c_seq <| c_reg <| ow_batch [.p] rfl <| ow_nil <| x_qs <| c_ret <| xr 4 rfl (by cases H; exact q1)
theorem lib_slices_ContainsFunc___impl_Entry_impl_Entry___impl_EntriesOk_1_ok (w : World) {p0 : List Timpl_Entry} {p1_0 : Timpl_Schema} {a_0 : Option Addr} {n_0 c_0 : Nat} {q_1_0 : Addr} {cs_1_0 : List Value} {r : Bool} (H : lib_slices_ContainsFunc___impl_Entry_impl_Entry___impl_EntriesOk_1 p0 p1_0 = some r)  (g0 : (eList (eTimpl_Entry) 144).rd w [] p0 [.slice a_0 n_0 c_0]) (g_1_0 : (eTimpl_Schema).rd w [] p1_0 cs_1_0) (hA_1_0 : At w [] q_1_0 cs_1_0) :
    Calls Tryz.prog 148 #[.slice a_0 n_0 c_0, .func (.func 149) #[] #[.pointer (some q_1_0)]] w (fun en w' => en = .returned (.bool r) ∧ Ext [] w w') := by
 obtain rfl := rd_n g0
 obtain ⟨c10, c11, rfl, g12, g13⟩ := rdo_Timpl_Schema g_1_0
 obtain ⟨a14, c15, rfl⟩ := rd_sl1 g12
 obtain ⟨a16, c17, rfl⟩ := rd_sl1 g13
 unfold lib_slices_ContainsFunc___impl_Entry_impl_Entry___impl_EntriesOk_1 at H
 exact f_enter (vs := [.slice a_0 p0.length c_0, .func (.func 149) #[] #[.pointer (some q_1_0)]]) Tryz.func148 rfl Tryz.ntmps148 rfl (St.init w []) <| c_seq <| c_reg <| ow_batch [.p] rfl <| ow_nil <| x_qs <| c_seq <| c_reg <| ow_batch [.p, .p] rfl <| bE H fun y18 h19 H => oq rfl (qc rfl fn213 (fun w1 hw1 => lib_slices_IndexFunc___impl_Entry_impl_Entry___impl_EntriesOk_1_ok w1 (cs_1_0 := [.slice a14 p1_0.Attrs_.length c15, .slice a16 p1_0.Classes_.length c17]) h19 (rds_bor g0 w1 hw1) (rdm_Timpl_Schema (x := p1_0) (c0 := [.slice a14 p1_0.Attrs_.length c15]) (c1 := [.slice a16 p1_0.Classes_.length c17]) (rds_bor g12 w1 hw1) (rds_bor g13 w1 hw1)) (at_bor bor hA_1_0 w1 hw1))) tt2 <| ow_batch [.p, .p] rfl <| ow_nil <| x_qs <| c_ret <| xr 4 rfl (by cases H; exact q1)
theorem impl_EntriesOk_ok (w : World) {p0 : Timpl_Schema} {p1 : List Timpl_Entry} {cs0 : List Value} {a_1 : Option Addr} {n_1 c_1 : Nat} {r : Bool} (H : impl_EntriesOk p0 p1 = some r)  (g0 : (eTimpl_Schema).rd w [] p0 cs0) (g1 : (eList (eTimpl_Entry) 144).rd w [] p1 [.slice a_1 n_1 c_1]) :
    Calls Tryz.prog 82 #[.agg cs0.toArray, .slice a_1 n_1 c_1] w (fun en w' => en = .returned (.bool r) ∧ Ext [] w w') := by
 obtain ⟨c10, c11, rfl, g12, g13⟩ := rdo_Timpl_Schema g0
 obtain ⟨a14, c15, rfl⟩ := rd_sl1 g12
 obtain ⟨a16, c17, rfl⟩ := rd_sl1 g13
 obtain rfl := rd_n g1
 unfold impl_EntriesOk at H
 refine f_enter (vs := [.agg #[.slice a14 p0.Attrs_.length c15, .slice a16 p0.Classes_.length c17], .slice a_1 p1.length c_1]) Tryz.func82 rfl Tryz.ntmps82 rfl (St.init w []) <| c_seq <| c_reg <| ob [.slice a14 p0.Attrs_.length c15, .slice a16 p0.Classes_.length c17] rfl fun b18 => ow_batch [.p] rfl <| ow_nil <| x_qs <| c_seq <| c_reg <| o1 rfl (rx 0 0 [.slice a14 p0.Attrs_.length c15, .slice a16 p0.Classes_.length c17] rfl ty35 rfl) <| bE H fun y19 h20 H => oq rfl (qc rfl fn132 (fun w1 hw1 => impl_SchemaOk_ok w1 (cs0 := [.slice a14 p0.Attrs_.length c15, .slice a16 p0.Classes_.length c17]) h20 (rdm_Timpl_Schema (x := p0) (c0 := [.slice a14 p0.Attrs_.length c15]) (c1 := [.slice a16 p0.Classes_.length c17]) (rds_bor g12 w1 hw1) (rds_bor g13 w1 hw1)))) tt2 <| ow_batch [.p] rfl <| bE H fun u21 hu25 H => ow_cut [(12, .bool u21), (4, .bool false)] 5 ?_ (fun key => OW.sub (R := [(1, .slice a_1 p1.length c_1), (2, .pointer (some ⟨b18, 0, none⟩)), (4, .bool false), (7, .bool y19)]) ?_ (sb rfl))
 ·exact ow_batch [.p] rfl <| ow_nil <| x_qs <| c_ret <| xr 4 rfl (by cases H; exact q1)
 ·clear H
  have H := hu25
  clear hu25
  generalize y19 = t24 at H key ⊢
  cases t24
  ·have H := of_if_f rfl H
   refine ow_batch [.p, .p, .p, .p, .p] rfl ?_
   obtain rfl := of_some H
   exact OW.sub key (sb rfl)
  ·have H := of_if_t rfl H
   refine ow_batch [.p] rfl <| o1 rfl (ry_makeFunc rfl rfl) <| bE H fun y22 h23 H => oq rfl (qc rfl fn148 (fun w1 hw1 => lib_slices_ContainsFunc___impl_Entry_impl_Entry___impl_EntriesOk_1_ok w1 (cs_1_0 := [.slice a14 p0.Attrs_.length c15, .slice a16 p0.Classes_.length c17]) h23 (rds_bor g1 w1 hw1) (rdm_Timpl_Schema (x := p0) (c0 := [.slice a14 p0.Attrs_.length c15]) (c1 := [.slice a16 p0.Classes_.length c17]) (rds_bor g12 w1 hw1) (rds_bor g13 w1 hw1)) (at_box (T := 35) 0 (boxIn (i := 0) rfl) rfl w1 hw1))) tt2 <| ow_batch [.p] rfl <| ow_batch [.p] rfl <| ?_
   obtain rfl := of_some H
   exact OW.sub key (sb rfl)
theorem impl_StatsNew_ok (w : World) {M0 : List Nat} {p0 : Timpl_Schema} {cs0 : List Value} {r : Timpl_Stats} (H : impl_StatsNew p0 = some r) (HS : St w M0 [] w) (g0 : (eTimpl_Schema).rd w M0 p0 cs0) :
    Calls Tryz.prog 151 #[.agg cs0.toArray] w (fun en w' => ∃ v, en = .returned v ∧ ∃ (a0 : Option Addr), ∃ (n0 : Nat), ∃ (c0 : Nat), ∃ (F0 : List Nat), ∃ (a1 : Option Addr), ∃ (n1 : Nat), ∃ (c1 : Nat), ∃ (F1 : List Nat), v = .agg #[.slice a0 n0 c0, .slice a1 n1 c1] ∧ St w M0 [Res.own (eList (eVal (Value.int .i64) (fun _ => rfl)) 3) F0 r.Totals_ [.slice a0 n0 c0], Res.own (eList (eList (eVal (Value.int .i64) (fun _ => rfl)) 3) 59) F1 r.Cells_ [.slice a1 n1 c1]] w') := by
 obtain ⟨c10, c11, rfl, g12, g13⟩ := rdo_Timpl_Schema g0
 obtain ⟨a14, c15, rfl⟩ := rd_sl1 g12
 obtain ⟨a16, c17, rfl⟩ := rd_sl1 g13
 unfold impl_StatsNew at H
 refine f_enter (vs := [.agg #[.slice a14 p0.Attrs_.length c15, .slice a16 p0.Classes_.length c17]]) Tryz.func151 rfl Tryz.ntmps151 rfl (HS) <| c_seq <| c_reg <| ob [.slice a14 p0.Attrs_.length c15, .slice a16 p0.Classes_.length c17] rfl fun b18 => ow_alloc rfl rfl rfl rfl ty62 (fun _ => kp) fun b19 => ow_nil <| x_qs <| c_seq <| c_seq <| c_reg <| o1 rfl (rx 0 0 [.slice a14 p0.Attrs_.length c15, .slice a16 p0.Classes_.length c17] rfl ty35 rfl) <| bE H fun y20 h21 H => oq rfl (qc rfl fn132 (fun w1 hw1 => impl_SchemaOk_ok w1 (cs0 := [.slice a14 p0.Attrs_.length c15, .slice a16 p0.Classes_.length c17]) h21 (rdm_Timpl_Schema (x := p0) (c0 := [.slice a14 p0.Attrs_.length c15]) (c1 := [.slice a16 p0.Classes_.length c17]) (rds_bor g12 w1 hw1) (rds_bor g13 w1 hw1)))) tt2 <| ow_batch [.p] rfl <| ow_nil <| x_qs <| cI H rfl (fun H => ?_) (fun H => ?_)
 ·exact c_seq <| c_reg <| o1 rfl (ry_build2 [] [.slice none 0 0, .slice none 0 0] rfl rfl ty62 fs62 rfl trivial rfl) <| sC 0 [.slice none 0 0, .slice none 0 0] [_, _] 1 rfl ty62 rfl <| ow_nil <| x_qs <| c_ret <| x_qs_ret <| xw_st (fun _ h => St.pushNil (e := eVal (Value.int .i64) (fun _ => rfl)) (T := 3) h) <| xw_st (fun _ h => St.pushNil (e := eList (eVal (Value.int .i64) (fun _ => rfl)) 3) (T := 59) h) <| x_retR (rs := [.cell 2 62]) (vs := [.agg #[.slice none 0 0, .slice none 0 0]]) rfl ⟨⟨_, [.slice none 0 0, .slice none 0 0], _, _, _, rfl, ty62, (at_box (T := 62) 0 (boxIn (i := 1) rfl) rfl), rfl, rfl⟩, trivial⟩ (fun w' hw' => by
   obtain rfl := of_some H
   exact ⟨_, rfl, none, 0, 0, [], none, 0, 0, [], rfl, hw'.sel [2, 3] rfl rfl⟩)
 ·refine c_skip <| x_qs <| c_seq <| c_reg <| ow_batch [.fa 35 1 1 fa35_1] rfl <| o1 rfl (r1 1 0 rfl ty23 rfl) <| ow_batch [.lenS 23 9 sl23] rfl <| bE H fun y22 h23 H => ow_callS rfl fn168 rfl rfl rfl rfl (fun w1 hw1 => impl_zeros_ok w1  h23 (hw1.carve [] rfl rfl)) fun v24 w1 w2 hw1 hR26 => ?_
  obtain ⟨a27, n28, c29, F30, rfl, hS25⟩ := hR26
  obtain rfl := own_nS (i := 0) hS25 rfl
  refine ⟨St w M0 [_, _, _], hw1.comp [] rfl rfl hS25, fun _ _ => trivial, ?_⟩
  refine o1 rfl (ry_build2 [(0, [.slice a27 y22.length c29])] [.slice a27 y22.length c29, .slice none 0 0] rfl rfl ty62 fs62 rfl ⟨rfl, rfl, Nat.le_of_ble_eq_true rfl,  trivial⟩ rfl) <| ow_alloc rfl rfl rfl rfl ty62 (fun _ => kp) fun b31 => sC 0 [.slice a27 y22.length c29, .slice none 0 0] [_, _] 3 rfl ty62 rfl <| ow_nil <| x_qs <| c_seq <| c_seq <| c_reg <| ow_batch [.fa 35 0 0 fa35_0] rfl <| o1 rfl (r1 0 0 rfl ty33 rfl) <| ow_batch [.lenS 33 114 sl33, .p] rfl <| ow_nil <| x_qs <| c_block <| CW.weak ?_ (fun _ h => St.pushNil (e := eList (eVal (Value.int .i64) (fun _ => rfl)) 3) (T := 59) h)
  refine CW.at (loopI5 (fun (i85 : Int) (l86 : List (List Int)) (a87 : Option Addr) (c88 : Nat) (F89 : List Nat) => St w M0 [Res.box b18 35 [.slice a14 p0.Attrs_.length c15, .slice a16 p0.Classes_.length c17], Res.box b19 62 [.slice none 0 0, .slice none 0 0], Res.box b31 62 [.slice a27 y22.length c29, .slice a87 l86.length c88], Res.own (eList (eVal (Value.int .i64) (fun _ => rfl)) 3) F30 y22 [.slice a27 y22.length c29], Res.own (eList (eList (eVal (Value.int .i64) (fun _ => rfl)) 3) 59) F89 l86 [.slice a87 l86.length c88]]) (fun (i85 : Int) (l86 : List (List Int)) (a87 : Option Addr) (c88 : Nat) (F89 : List Nat) => [(1, .pointer (some ⟨b18, 0, none⟩)), (2, .pointer (some ⟨b19, 0, none⟩)), (3, .pointer (some ⟨b31, 0, none⟩)), (16, .slice a14 p0.Attrs_.length c15), (17, .int .i64 (p0.Attrs_.length : Int)), (18, .int .i64 i85)]) (fun kk => fun (i85 : Int) (l86 : List (List Int)) (a87 : Option Addr) (c88 : Nat) (F89 : List Nat) => impl_StatsNew_L1 p0 y22 kk i85 l86 = some r) (fun _ _ _ _ _ H => ?_) (fun k1 ihk1 i85 l86 a87 c88 F89 H => ?_) Fuel (0) (([] : List (List Int))) (none) (0) ([]) (H)) (fun _ h => St.sel [0, 1, 3, 2, 4] rfl rfl h) ⟨rfl, rfl, rfl, rfl, rfl, rfl,  trivial⟩
  ·unfold impl_StatsNew_L1 at H
   exact absurd H (by simp)
  ·unfold impl_StatsNew_L1 at H
   refine c_seq <| c_reg <| ow_batch [.p] rfl <| ow_nil <| x_qs <| c_seq <| cI H rfl (fun H => ?_) (fun H => ?_)
   ·refine c_skip <| x_qs <| c_seq <| c_block <| c_seq <| c_reg <| bE H fun e141 h142 H => ow_ixB rfl rfl rfl rfl rfl sl33 ty114 rfl g12 h142 fun q145 c146 hd143 hA144 => ?_
    obtain ⟨c147, c148, c149, rfl, g150, g151, g152⟩ := rdo_Timpl_Attr hd143
    obtain rfl : c147 = [vS e141.Name_] := g150
    obtain ⟨a153, c154, rfl⟩ := rd_sl1 g151
    obtain ⟨a155, c156, rfl⟩ := rd_sl1 g152
    refine o1 rfl (ry_load (cs := [vS e141.Name_, .slice a153 e141.Cuts_.length c154, .slice a155 e141.Values_.length c156]) rfl rfl ty114 (at_bor bor hA144) rfl) <| ow_alloc rfl rfl rfl rfl ty114 (fun _ => kp) fun b157 => sC 0 [vS e141.Name_, .slice a153 e141.Cuts_.length c154, .slice a155 e141.Values_.length c156] [_, _, _] 5 rfl ty114 rfl <| ow_nil <| x_qs <| c_regHT 10 [(0, true), (1, true), (2, true), (4, true), (5, true), (6, true), (3, false), (7, true), (8, false), (9, false)] (St w M0 [Res.box b18 35 [.slice a14 p0.Attrs_.length c15, .slice a16 p0.Classes_.length c17], Res.box b19 62 [.slice none 0 0, .slice none 0 0], Res.box b31 62 [.slice a27 y22.length c29, .slice a87 l86.length c88], Res.own (eList (eVal (Value.int .i64) (fun _ => rfl)) 3) F30 y22 [.slice a27 y22.length c29], Res.own (eList (eList (eVal (Value.int .i64) (fun _ => rfl)) 3) 59) F89 l86 [.slice a87 l86.length c88], Res.box b157 114 [vS e141.Name_, .slice a153 e141.Cuts_.length c154, .slice a155 e141.Values_.length c156]]) mixed (by kernel_rfl) (panicOk_qb (panicOk_qs (panicOk_ql (panicOk_qb (panicOk_qs panicOk_body))))) (fun _ h => St.mask [true, true, true, true, true, true] rfl h) <| ow_batch [.fa 62 1 1 fa62_1] rfl <| ow_rH rfl (dstOk_lt rfl) (r1 1 2 rfl ty60 rfl) <| ow_rH rfl (dstOk_lt rfl) (rx 0 5 [vS e141.Name_, .slice a153 e141.Cuts_.length c154, .slice a155 e141.Values_.length c156] rfl ty114 rfl) <| ow_batch [.fa 35 1 1 fa35_1] rfl <| ow_rH rfl (dstOk_lt rfl) (r1 1 0 rfl ty23 rfl) <| ow_batch [.lenS 23 9 sl23] rfl <| bE H fun y170 h171 H => oq rfl (qc rfl fn138 (fun w1 hw1 => impl_bins_ok w1 (cs0 := [vS e141.Name_, .slice a153 e141.Cuts_.length c154, .slice a155 e141.Values_.length c156]) h171 (rdm_Timpl_Attr (x := e141) (c0 := [vS e141.Name_]) (c1 := [.slice a153 e141.Cuts_.length c154]) (c2 := [.slice a155 e141.Values_.length c156]) rfl (rds_bor g151 w1 hw1) (rds_bor g152 w1 hw1)))) (fun _ h => St.mask [true, true, true, true, true, true] rfl h) <| ow_batch [.p] rfl <| bE H fun y172 h173 H => ow_callS rfl fn168 rfl rfl rfl rfl (fun w1 hw1 => impl_zeros_ok w1  h173 (hw1.carve [] rfl rfl)) fun v174 w1 w2 hw1 hR176 => ?_
    obtain ⟨a177, n178, c179, F180, rfl, hS175⟩ := hR176
    obtain rfl := own_nS (i := 0) hS175 rfl
    refine ⟨St w M0 [_, _, _, _, _, _, _], hw1.comp [] rfl rfl hS175, (fun _ h => St.mask [true, true, true, true, true, true] rfl h), ?_⟩
    refine ow_bslice [(0, [.slice a177 y172.length c179])] rfl rfl rfl rfl rfl sl60 ty59 rfl rfl ⟨rfl, rfl, Nat.le_of_ble_eq_true rfl,  trivial⟩ [.slice a177 y172.length c179] rfl (fun _ => (fun _ h => St.mask [true, true, true, true, true, true] rfl h)) fun b181 => ow_st rfl (fun _ h => lit1 (p := 7) (q := 6) h rfl rfl rfl) <| ow_nilH <| x_qt <| bE H fun l182 h183 H => ow_appM (r := 4) (j := 8) rfl rfl rfl rfl rfl rfl sl60 ty59 rfl rfl rfl rfl rfl rfl rfl h183 (fun _ _ _ => kp) fun a184 c185 F186 => ow_batch [.fa 62 1 1 fa62_1] rfl <| sC 1 [.slice a184 l182.length c185] [_, _] 2 rfl ty60 rfl <| ow_nil <| x_qb <| x_qs <| CW.weak (C' := St w M0 [_, _, _, _, _, _]) ?_ (fun _ h => St.sel [0, 1, 2, 3, 5, 9] rfl rfl h)
    exact c_reg <| ow_batch [.p, .p] rfl <| ow_nil <| x_ql (RW.at (ihk1 (IntKind.i64.wrap (i85 + 1)) (l182) (a184) (c185) (F186) (H)) (fun _ h => St.sel [0, 1, 2, 3, 5] rfl rfl h) ⟨rfl, rfl, rfl, rfl, rfl, rfl, trivial⟩)
   ·exact c_exit <| x_qs_exit <| x_ql_exit <| x_qb_here <| x_qs <| c_seq <| c_reg <| o1 rfl (rx 0 2 [.slice a27 y22.length c29, .slice a87 l86.length c88] rfl ty62 rfl) <| sC 0 [.slice a27 y22.length c29, .slice a87 l86.length c88] [_, _] 1 rfl ty62 rfl <| ow_nil <| x_qs <| c_ret <| x_retR (rs := [.cell 2 62]) (vs := [.agg #[.slice a27 y22.length c29, .slice a87 l86.length c88]]) rfl ⟨⟨_, [.slice a27 y22.length c29, .slice a87 l86.length c88], _, _, _, rfl, ty62, (at_box (T := 62) 0 (boxIn (i := 1) rfl) rfl), rfl, rfl⟩, trivial⟩ (fun w' hw' => by
     obtain rfl := of_some H
     exact ⟨_, rfl, a27, y22.length, c29, F30, a87, l86.length, c88, F89, rfl, hw'.sel [3, 4] rfl rfl⟩)
theorem impl_BranchOf_ok (w : World) {p0 : Timpl_Schema} {p1 : Timpl_Fork} {p2 : Int} {cs0 : List Value} {r : Int} (H : impl_BranchOf p0 p1 p2 = some r)  (g0 : (eTimpl_Schema).rd w [] p0 cs0) :
    Calls Tryz.prog 139 #[.agg cs0.toArray, .agg #[.int .i64 p1.Attr_, .int .i64 p1.At_], .int .i64 p2] w (fun en w' => en = .returned (.int .i64 r) ∧ Ext [] w w') := by
 obtain ⟨c10, c11, rfl, g12, g13⟩ := rdo_Timpl_Schema g0
 obtain ⟨a14, c15, rfl⟩ := rd_sl1 g12
 obtain ⟨a16, c17, rfl⟩ := rd_sl1 g13
 unfold impl_BranchOf at H
 refine f_enter (vs := [.agg #[.slice a14 p0.Attrs_.length c15, .slice a16 p0.Classes_.length c17], .agg #[.int .i64 p1.Attr_, .int .i64 p1.At_], .int .i64 p2]) Tryz.func139 rfl Tryz.ntmps139 rfl (St.init w []) <| c_seq <| c_reg <| ob [.slice a14 p0.Attrs_.length c15, .slice a16 p0.Classes_.length c17] rfl fun b18 => ob [.int .i64 p1.Attr_, .int .i64 p1.At_] rfl fun b19 => ow_batch [.p] rfl <| ow_nil <| x_qs <| c_seq <| c_seq <| c_reg <| o1 rfl (rx 0 0 [.slice a14 p0.Attrs_.length c15, .slice a16 p0.Classes_.length c17] rfl ty35 rfl) <| o1 rfl (rx 0 1 [.int .i64 p1.Attr_, .int .i64 p1.At_] rfl ty116 rfl) <| bE H fun y20 h21 H => oq rfl (qc rfl fn211 (fun w1 hw1 => impl_ForkOk_ok w1 (p1 := p1) (cs0 := [.slice a14 p0.Attrs_.length c15, .slice a16 p0.Classes_.length c17]) h21 (rdm_Timpl_Schema (x := p0) (c0 := [.slice a14 p0.Attrs_.length c15]) (c1 := [.slice a16 p0.Classes_.length c17]) (rds_bor g12 w1 hw1) (rds_bor g13 w1 hw1)))) tt2 <| ow_batch [.p, .p] rfl <| bE H fun u22 hu44 H => ow_cut [(23, .bool u22), (2, .int .i64 p2), (3, .pointer (some ⟨b18, 0, none⟩)), (4, .pointer (some ⟨b19, 0, none⟩))] 12 ?_ (fun key => OW.sub (R := [(2, .int .i64 p2), (3, .pointer (some ⟨b18, 0, none⟩)), (4, .pointer (some ⟨b19, 0, none⟩)), (11, .bool (!y20))]) ?_ (sb rfl))
 ·refine ow_nil <| x_qs <| cI H rfl (fun H => ?_) (fun H => ?_)
  ·exact c_seq <| c_reg <| ow_batch [.p] rfl <| ow_nil <| x_qs <| c_ret <| x_qs_ret <| xr 6 rfl (by cases H; exact q1)
  ·refine c_skip <| x_qs <| c_seq <| c_block <| c_seq <| c_reg <| ow_batch [.fa 116 1 1 fa116_1] rfl <| o1 rfl (r1 1 1 rfl ty3 rfl) <| ow_batch [.p, .p] rfl <| ow_nil <| x_qs <| cI H rfl (fun H => ?_) (fun H => ?_)
   ·exact c_seq <| c_reg <| ow_batch [.p, .p] rfl <| ow_nil <| x_qs <| c_ret <| x_qb_ret <| x_qs_ret <| xr 6 rfl (by cases H; exact q1)
   ·refine c_seq <| c_reg <| ow_batch [.p, .fa 116 1 1 fa116_1] rfl <| o1 rfl (r1 1 1 rfl ty3 rfl) <| ow_batch [.p, .p] rfl <| bE H fun u45 hu65 H => ow_cut [(50, .bool u45)] 16 ?_ (fun key => OW.sub (R := [(2, .int .i64 p2), (3, .pointer (some ⟨b18, 0, none⟩)), (4, .pointer (some ⟨b19, 0, none⟩)), (34, .bool (p2 == p1.At_))]) ?_ (sb rfl))
    ·refine ow_batch [.p] rfl <| ow_nil <| x_qs <| cI H rfl (fun H => ?_) (fun H => ?_)
     ·exact c_seq <| c_reg <| ow_batch [.p] rfl <| ow_nil <| x_qs <| c_ret <| x_qb_ret <| x_qs_ret <| xr 6 rfl (by cases H; exact q1)
     ·exact c_skip <| x_qb <| x_qs <| c_seq <| c_reg <| ow_batch [.p] rfl <| ow_nil <| x_qs <| c_ret <| xr 6 rfl (by cases H; exact q1)
    ·clear H
     have H := hu65
     clear hu65
     generalize (p2 == p1.At_) = t64 at H key ⊢
     cases t64
     ·have H := of_if_f rfl H
      refine ow_batch [.fa 35 0 0 fa35_0] rfl <| o1 rfl (r1 0 0 rfl ty33 rfl) <| ow_batch [.fa 116 0 0 fa116_0] rfl <| o1 rfl (r1 0 1 rfl ty3 rfl) <| bE H fun e46 h47 H => ow_ixB rfl rfl rfl rfl rfl sl33 ty114 rfl g12 h47 fun q50 c51 hd48 hA49 => ?_
      obtain ⟨c52, c53, c54, rfl, g55, g56, g57⟩ := rdo_Timpl_Attr hd48
      obtain rfl : c52 = [vS e46.Name_] := g55
      obtain ⟨a58, c59, rfl⟩ := rd_sl1 g56
      obtain ⟨a60, c61, rfl⟩ := rd_sl1 g57
      refine ow_batch [.fa 114 1 1 fa114_1] rfl <| o1 rfl (ry_load1 rfl rfl ty59 (at_bor bor (at_K hA49 1 1))) <| ow_batch [.lenS 59 3 sl59, .p, .p] rfl <| ow_cut [(49, .bool ((decide ((e46.Cuts_.length : Int) > 0)) && (decide (p2 < p1.At_)))), (34, .bool false)] 5 ?_ (fun key => OW.sub (R := [(2, .int .i64 p2), (4, .pointer (some ⟨b19, 0, none⟩)), (34, .bool false), (44, .bool (decide ((e46.Cuts_.length : Int) > 0)))]) ?_ (sb rfl))
      ·refine ow_batch [.p] rfl ?_
       obtain rfl := of_some H
       exact OW.sub key ⟨rfl, trivial⟩
      ·generalize (decide ((e46.Cuts_.length : Int) > 0)) = t63 at key ⊢
       cases t63
       ·exact ow_batch [.p, .p, .p, .p, .p] rfl <| OW.sub key (sb rfl)
       ·exact ow_batch [.p, .fa 116 1 1 fa116_1] rfl <| o1 rfl (r1 1 1 rfl ty3 rfl) <| ow_batch [.p] rfl <| ow_batch [.p] rfl <| OW.sub key (sb rfl)
     ·have H := of_if_t rfl H
      refine ow_batch [.p, .p, .p, .p, .p, .p, .p, .p, .p, .p, .p, .p, .p, .p, .p, .p] rfl ?_
      obtain rfl := of_some H
      exact OW.sub key ⟨rfl, trivial⟩
 ·clear H
  have H := hu44
  clear hu44
  generalize (!y20) = t43 at H key ⊢
  cases t43
  ·have H := of_if_f rfl H
   refine ow_batch [.p, .fa 35 0 0 fa35_0] rfl <| o1 rfl (r1 0 0 rfl ty33 rfl) <| ow_batch [.fa 116 0 0 fa116_0] rfl <| o1 rfl (r1 0 1 rfl ty3 rfl) <| bE H fun e23 h24 H => ow_ixB rfl rfl rfl rfl rfl sl33 ty114 rfl g12 h24 fun q27 c28 hd25 hA26 => ?_
   obtain ⟨c29, c30, c31, rfl, g32, g33, g34⟩ := rdo_Timpl_Attr hd25
   obtain rfl : c29 = [vS e23.Name_] := g32
   obtain ⟨a35, c36, rfl⟩ := rd_sl1 g33
   obtain ⟨a37, c38, rfl⟩ := rd_sl1 g34
   refine o1 rfl (ry_load (cs := [vS e23.Name_, .slice a35 e23.Cuts_.length c36, .slice a37 e23.Values_.length c38]) rfl rfl ty114 (at_bor bor hA26) rfl) <| bE H fun y39 h40 H => oq rfl (qc rfl fn138 (fun w1 hw1 => impl_bins_ok w1 (cs0 := [vS e23.Name_, .slice a35 e23.Cuts_.length c36, .slice a37 e23.Values_.length c38]) h40 (rdm_Timpl_Attr (x := e23) (c0 := [vS e23.Name_]) (c1 := [.slice a35 e23.Cuts_.length c36]) (c2 := [.slice a37 e23.Values_.length c38]) rfl (rds_bor g33 w1 hw1) (rds_bor g34 w1 hw1)))) tt2 <| ow_batch [.p] rfl <| bE H fun y41 h42 H => oq rfl (qc rfl fn91 (fun w1 hw1 => impl_within_ok w1  h42)) tt2 <| ow_batch [.p] rfl <| ow_batch [.p] rfl <| ?_
   obtain rfl := of_some H
   exact OW.sub key (sb rfl)
  ·have H := of_if_t rfl H
   refine ow_batch [.p, .p, .p, .p, .p, .p, .p, .p, .p, .p, .p, .p] rfl ?_
   obtain rfl := of_some H
   exact OW.sub key (sb rfl)
theorem impl_pathTo_ok (w : World) {M0 : List Nat} {p0 : Timpl_Schema} {p1 : Timpl_Tree} {p2 : Timpl_Ex} {cs0 : List Value} {cs1 : List Value} {cs2 : List Value} {r : (List Int) × Bool} (H : impl_pathTo p0 p1 p2 = some r) (HS : St w M0 [] w) (g0 : (eTimpl_Schema).rd w M0 p0 cs0) (g1 : (eTimpl_Tree).rd w M0 p1 cs1) (g2 : (eTimpl_Ex).rd w M0 p2 cs2) :
    Calls Tryz.prog 214 #[.agg cs0.toArray, .agg cs1.toArray, .agg cs2.toArray] w (fun en w' => ∃ v, en = .returned v ∧ ∃ (a0 : Option Addr), ∃ (n0 : Nat), ∃ (c0 : Nat), ∃ (F0 : List Nat), v = .slice a0 n0 c0 ∧ a0.isNone = r.2 ∧ St w M0 [Res.own (eList (eVal (Value.int .i64) (fun _ => rfl)) 3) F0 r.1 [.slice a0 n0 c0]] w') := by
 obtain ⟨c10, c11, rfl, g12, g13⟩ := rdo_Timpl_Schema g0
 obtain ⟨a14, c15, rfl⟩ := rd_sl1 g12
 obtain ⟨a16, c17, rfl⟩ := rd_sl1 g13
 obtain ⟨c18, c19, rfl, g20, g21⟩ := rdo_Timpl_Tree g1
 obtain ⟨a22, c23, rfl⟩ := rd_sl1 g20
 obtain rfl : c19 = [.int .i64 p1.Seen_] := g21
 obtain ⟨c24, c25, rfl, g26, g27⟩ := rdo_Timpl_Ex g2
 obtain ⟨a28, c29, rfl⟩ := rd_sl1 g26
 obtain rfl : c25 = [.int .i64 p2.Class_] := g27
 unfold impl_pathTo at H
 refine f_enter (vs := [.agg #[.slice a14 p0.Attrs_.length c15, .slice a16 p0.Classes_.length c17], .agg #[.slice a22 p1.Nodes_.length c23, .int .i64 p1.Seen_], .agg #[.slice a28 p2.Bins_.length c29, .int .i64 p2.Class_]]) Tryz.func214 rfl Tryz.ntmps214 rfl (HS) <| c_seq <| c_reg <| ob [.slice a14 p0.Attrs_.length c15, .slice a16 p0.Classes_.length c17] rfl fun b30 => ob [.slice a22 p1.Nodes_.length c23, .int .i64 p1.Seen_] rfl fun b31 => ob [.slice a28 p2.Bins_.length c29, .int .i64 p2.Class_] rfl fun b32 => ow_batch [.p] rfl <| ow_nil <| x_qs <| c_seq <| c_reg <| ow_blit (val := Value.int .i64) (h1 := fun _ => rfl) [0] [(0, [.int .i64 0])] rfl rfl rfl rfl rfl sl59 ty3 rfl rfl rfl ⟨rfl, rfl, Nat.le_of_ble_eq_true rfl,  trivial⟩ rfl rfl (fun _ => kp) fun b33 => ow_batch [.p] rfl <| ow_nil <| x_qs <| c_block <| CW.at (loopI4 (fun (l139 : List Int) (a140 : Option Addr) (c141 : Nat) (F142 : List Nat) => St w M0 [Res.box b30 35 [.slice a14 p0.Attrs_.length c15, .slice a16 p0.Classes_.length c17], Res.box b31 39 [.slice a22 p1.Nodes_.length c23, .int .i64 p1.Seen_], Res.box b32 142 [.slice a28 p2.Bins_.length c29, .int .i64 p2.Class_], Res.own (eList (eVal (Value.int .i64) (fun _ => rfl)) 3) F142 l139 [.slice a140 l139.length c141]]) (fun (l139 : List Int) (a140 : Option Addr) (c141 : Nat) (F142 : List Nat) => [(3, .pointer (some ⟨b30, 0, none⟩)), (4, .pointer (some ⟨b31, 0, none⟩)), (5, .pointer (some ⟨b32, 0, none⟩)), (7, .slice a140 l139.length c141)]) (fun kk => fun (l139 : List Int) (a140 : Option Addr) (c141 : Nat) (F142 : List Nat) => a140.isNone = false ∧ impl_pathTo_L1 p1 p2 p0 kk l139 = some r) (fun _ _ _ _ H => ?_) (fun k1 ihk1 l139 a140 c141 F142 ⟨hz143, H⟩ => ?_) Fuel (([0] : List Int)) ((some ⟨b33, 0, none⟩)) (1) ([b33]) (⟨rfl, H⟩)) (fun _ h => St.sel [0, 1, 2, 3] rfl rfl h) ⟨rfl, rfl, rfl, rfl,  trivial⟩
 ·unfold impl_pathTo_L1 at H
  exact absurd H (by simp)
 ·unfold impl_pathTo_L1 at H
  refine c_block <| c_seq <| c_regHT 11 [(0, true), (1, true), (2, true), (3, true), (4, true), (5, true), (6, true), (7, true), (8, true), (9, true), (10, false)] (St w M0 [Res.box b30 35 [.slice a14 p0.Attrs_.length c15, .slice a16 p0.Classes_.length c17], Res.box b31 39 [.slice a22 p1.Nodes_.length c23, .int .i64 p1.Seen_], Res.box b32 142 [.slice a28 p2.Bins_.length c29, .int .i64 p2.Class_], Res.own (eList (eVal (Value.int .i64) (fun _ => rfl)) 3) F142 l139 [.slice a140 l139.length c141]]) mixed (by kernel_rfl) (panicOk_qs (panicOk_qb (panicOk_ql (panicOk_qb panicOk_body)))) (fun _ h => St.mask [true, true, true, true] rfl h) <| ow_batch [.fa 39 0 0 fa39_0] rfl <| ow_rH rfl (dstOk_lt rfl) (r1 0 1 rfl ty37 rfl) <| ow_batch [.p, .p, .lenS 59 3 sl59, .p] rfl <| bE H fun e290 h291 H => ow_ixE (e := eVal (Value.int .i64) (fun _ => rfl)) (xs := l139) (j := IntKind.i64.wrap ((l139.length : Int) - 1)) rfl rfl rfl rfl rfl sl59 ty3 rfl (fun w1 hw1 => rds_own (e := eList (eVal (Value.int .i64) (fun _ => rfl)) 3) (r := 3) rfl w1 hw1) h291 (by rw [Nat.mul_one]) <| ow_rH rfl (dstOk_lt rfl) (ry_load1 rfl rfl ty3 (at_elV (fun w1 hw1 => rds_own (e := eList (eVal (Value.int .i64) (fun _ => rfl)) 3) (r := 3) rfl w1 hw1) h291)) <| bE H fun e292 h293 H => ow_ixB rfl rfl rfl rfl rfl sl37 ty118 rfl g20 h293 fun q296 c297 hd294 hA295 => ?_
  obtain ⟨c298, c299, c300, c301, c302, c303, c304, c305, c306, c307, rfl, g308, g309, g310, g311, g312, g313, g314, g315, g316, g317⟩ := rdo_Timpl_Node hd294
  obtain rfl : c298 = [.bool e292.Leaf_] := g308
  obtain rfl : c299 = [.int .i64 e292.Fork_.Attr_, .int .i64 e292.Fork_.At_] := g309
  obtain ⟨a318, c319, rfl⟩ := rd_sl1 g310
  obtain rfl : c301 = [.int .i64 e292.Miss_] := g311
  obtain ⟨c320, c321, rfl, g322, g323⟩ := rdo_Timpl_Stats g312
  obtain ⟨a324, c325, rfl⟩ := rd_sl1 g322
  obtain ⟨a326, c327, rfl⟩ := rd_sl1 g323
  obtain rfl : c303 = [.int .i64 e292.Since_] := g313
  obtain ⟨a328, c329, rfl⟩ := rd_sl1 g314
  obtain rfl : c305 = [.int .i64 e292.Depth_] := g315
  obtain rfl : c306 = [.int .i64 e292.Up_] := g316
  obtain rfl : c307 = [.int .i64 e292.Born_] := g317
  refine ow_rH rfl (dstOk_lt rfl) (ry_load (cs := [.bool e292.Leaf_, .int .i64 e292.Fork_.Attr_, .int .i64 e292.Fork_.At_, .slice a318 e292.Kids_.length c319, .int .i64 e292.Miss_, .slice a324 e292.Stats_.Totals_.length c325, .slice a326 e292.Stats_.Cells_.length c327, .int .i64 e292.Since_, .slice a328 e292.Attrs_.length c329, .int .i64 e292.Depth_, .int .i64 e292.Up_, .int .i64 e292.Born_]) rfl rfl ty118 (at_bor (fun _ h => h.ext) hA295) rfl) <| ow_alloc rfl rfl rfl rfl ty118 (fun _ => (fun _ h => St.mask [true, true, true, true] rfl h)) fun b330 => ow_nilH <| x_qt <| sC 0 [.bool e292.Leaf_, .int .i64 e292.Fork_.Attr_, .int .i64 e292.Fork_.At_, .slice a318 e292.Kids_.length c319, .int .i64 e292.Miss_, .slice a324 e292.Stats_.Totals_.length c325, .slice a326 e292.Stats_.Cells_.length c327, .int .i64 e292.Since_, .slice a328 e292.Attrs_.length c329, .int .i64 e292.Depth_, .int .i64 e292.Up_, .int .i64 e292.Born_] [_, _, _, _, _, _, _, _, _, _, _, _] 4 rfl ty118 rfl <| ow_nil <| x_qs <| c_seq <| c_seq <| c_reg <| ow_batch [.fa 118 0 0 fa118_0] rfl <| o1 rfl (r1 0 4 rfl ty4 rfl) <| ow_nil <| x_qs <| cI H rfl (fun H => ?_) (fun H => ?_)
  ·exact c_seq <| c_reg <| ow_batch [.p, .p] rfl <| ow_nil <| x_qs <| c_ret <| x_qs_ret <| x_qb_ret <| x_ql_ret <| x_qb_ret <| x_retR (rs := [.tmp 6]) (vs := [.slice a140 l139.length c141]) rfl ⟨rfl, trivial⟩ (fun w' hw' => by
    obtain rfl := of_some H
    exact ⟨_, rfl, a140, l139.length, c141, F142, rfl, hz143, hw'.sel [3] rfl rfl⟩)
  ·refine c_skip <| x_qs <| c_seq <| c_reg <| ow_batch [.fa 118 3 4 fa118_3] rfl <| o1 rfl (r1 4 4 rfl ty3 rfl) <| ow_batch [.p] rfl <| ow_nil <| x_qs <| c_join1 (fun (i335 : Int) => St w M0 [Res.box b30 35 [.slice a14 p0.Attrs_.length c15, .slice a16 p0.Classes_.length c17], Res.box b31 39 [.slice a22 p1.Nodes_.length c23, .int .i64 p1.Seen_], Res.box b32 142 [.slice a28 p2.Bins_.length c29, .int .i64 p2.Class_], Res.own (eList (eVal (Value.int .i64) (fun _ => rfl)) 3) F142 l139 [.slice a140 l139.length c141], Res.box b330 118 [.bool e292.Leaf_, .int .i64 e292.Fork_.Attr_, .int .i64 e292.Fork_.At_, .slice a318 e292.Kids_.length c319, .int .i64 e292.Miss_, .slice a324 e292.Stats_.Totals_.length c325, .slice a326 e292.Stats_.Cells_.length c327, .int .i64 e292.Since_, .slice a328 e292.Attrs_.length c329, .int .i64 e292.Depth_, .int .i64 e292.Up_, .int .i64 e292.Born_]]) (fun (i335 : Int) => [(3, .pointer (some ⟨b30, 0, none⟩)), (4, .pointer (some ⟨b31, 0, none⟩)), (5, .pointer (some ⟨b32, 0, none⟩)), (7, .slice a140 l139.length c141), (8, .pointer (some ⟨b330, 0, none⟩)), (9, .int .i64 i335)]) (fun (i335 : Int) => impl_pathTo_J1 e292 l139 (impl_pathTo_L1 p1 p2 p0 k1) i335 = some r) (fun i335 H => ?_) (fun J1 => ?_)
   ·unfold impl_pathTo_J1 at H
    exact c_reg <| ow_batch [.p, .fa 118 2 3 fa118_2] rfl <| o1 rfl (r1 3 4 rfl ty59 rfl) <| ow_batch [.p] rfl <| bE H fun e336 h337 H => ow_ixE (e := eVal (Value.int .i64) (fun _ => rfl)) (xs := e292.Kids_) (j := i335) rfl rfl rfl rfl rfl sl59 ty3 rfl (fun w1 hw1 => rds_bor g310 w1 hw1) h337 (by rw [Nat.mul_one]) <| o1 rfl (ry_load1 rfl rfl ty3 (at_elV (fun w1 hw1 => rds_bor g310 w1 hw1) h337)) <| ow_blit (val := Value.int .i64) (h1 := fun _ => rfl) [e336] [(0, [.int .i64 e336])] rfl rfl rfl rfl rfl sl59 ty3 rfl rfl rfl ⟨rfl, rfl, Nat.le_of_ble_eq_true rfl,  trivial⟩ rfl rfl (fun _ => kp) fun b338 => bE H fun l339 h340 H => ow_appR (r := 3) (ys := ([e336] : List Int)) rfl rfl rfl rfl rfl rfl sl59 ty3 rfl rfl rfl (fun w1 hw1 => rds_own (e := eList (eVal (Value.int .i64) (fun _ => rfl)) 3) (r := 5) rfl w1 hw1) h340 (fun _ _ _ => kp) fun a341 c342 F343 => ow_fact rfl (fun w1 hw1 => own_nn (i := 3) hw1 rfl (app_ne h340)) fun hz344 => ow_batch [.p] rfl <| ow_nil <| x_qb <| x_ql (RW.at (ihk1 (l339) (a341) (c342) (F343) (⟨hz344, H⟩)) (fun _ h => St.sel [0, 1, 2, 3] rfl rfl h) ⟨rfl, rfl, rfl, rfl, trivial⟩)
   ·refine c_seq <| c_reg <| ow_batch [.fa 142 0 0 fa142_0] rfl <| o1 rfl (r1 0 2 rfl ty59 rfl) <| ow_batch [.fa 118 1 1 fa118_1, .fa 116 0 0 fa116_0] rfl <| o1 rfl (r1 1 4 rfl ty3 rfl) <| bE H fun e345 h346 H => ow_ixE (e := eVal (Value.int .i64) (fun _ => rfl)) (xs := p2.Bins_) (j := e292.Fork_.Attr_) rfl rfl rfl rfl rfl sl59 ty3 rfl (fun w1 hw1 => rds_bor g26 w1 hw1) h346 (by rw [Nat.mul_one]) <| o1 rfl (ry_load1 rfl rfl ty3 (at_elV (fun w1 hw1 => rds_bor g26 w1 hw1) h346)) <| ow_batch [.p] rfl <| ow_nil <| x_qs <| c_seq <| c_reg <| ow_batch [.p, .p] rfl <| ow_nil <| x_qs <| cI H rfl (fun H => ?_) (fun H => ?_)
    ·exact c_reg <| o1 rfl (rx 0 0 [.slice a14 p0.Attrs_.length c15, .slice a16 p0.Classes_.length c17] rfl ty35 rfl) <| ow_batch [.fa 118 1 1 fa118_1] rfl <| o1 rfl (rx 1 4 [.int .i64 e292.Fork_.Attr_, .int .i64 e292.Fork_.At_] rfl ty116 rfl) <| ow_batch [.p] rfl <| bE H fun y347 h348 H => oq rfl (qc rfl fn139 (fun w1 hw1 => impl_BranchOf_ok w1 (p1 := e292.Fork_) (cs0 := [.slice a14 p0.Attrs_.length c15, .slice a16 p0.Classes_.length c17]) h348 (rdm_Timpl_Schema (x := p0) (c0 := [.slice a14 p0.Attrs_.length c15]) (c1 := [.slice a16 p0.Classes_.length c17]) (rds_bor g12 w1 hw1) (rds_bor g13 w1 hw1)))) tt2 <| ow_batch [.p] rfl <| ow_nil <| XW.at (J1 (y347) (H)) (fun _ h => St.sel [0, 1, 2, 3, 4] rfl rfl h) ⟨rfl, rfl, rfl, rfl, rfl, rfl, trivial⟩
    ·exact c_skip <| XW.at (J1 (e292.Miss_) (H)) (fun _ h => St.sel [0, 1, 2, 3, 4] rfl rfl h) ⟨rfl, rfl, rfl, rfl, rfl, rfl, trivial⟩
theorem impl_ownEntries_ok (w : World) {M0 : List Nat} {p0 : Timpl_Schema} {p1 : Timpl_Tree} {p2 : List Timpl_Entry} {p3 : Int} {cs0 : List Value} {cs1 : List Value} {a_2 : Option Addr} {n_2 c_2 : Nat} {r : List Int} (H : impl_ownEntries p0 p1 p2 p3 = some r) (HS : St w M0 [] w) (g0 : (eTimpl_Schema).rd w M0 p0 cs0) (g1 : (eTimpl_Tree).rd w M0 p1 cs1) (g2 : (eList (eTimpl_Entry) 144).rd w M0 p2 [.slice a_2 n_2 c_2]) :
    Calls Tryz.prog 152 #[.agg cs0.toArray, .agg cs1.toArray, .slice a_2 n_2 c_2, .int .i64 p3] w (fun en w' => ∃ v, en = .returned v ∧ ∃ (a0 : Option Addr), ∃ (n0 : Nat), ∃ (c0 : Nat), ∃ (F0 : List Nat), v = .slice a0 n0 c0 ∧ St w M0 [Res.own (eList (eVal (Value.int .i64) (fun _ => rfl)) 3) F0 r [.slice a0 n0 c0]] w') := by
 obtain ⟨c10, c11, rfl, g12, g13⟩ := rdo_Timpl_Schema g0
 obtain ⟨a14, c15, rfl⟩ := rd_sl1 g12
 obtain ⟨a16, c17, rfl⟩ := rd_sl1 g13
 obtain ⟨c18, c19, rfl, g20, g21⟩ := rdo_Timpl_Tree g1
 obtain ⟨a22, c23, rfl⟩ := rd_sl1 g20
 obtain rfl : c19 = [.int .i64 p1.Seen_] := g21
 obtain rfl := rd_n g2
 unfold impl_ownEntries at H
 refine f_enter (vs := [.agg #[.slice a14 p0.Attrs_.length c15, .slice a16 p0.Classes_.length c17], .agg #[.slice a22 p1.Nodes_.length c23, .int .i64 p1.Seen_], .slice a_2 p2.length c_2, .int .i64 p3]) Tryz.func152 rfl Tryz.ntmps152 rfl (HS) <| c_seq <| c_reg <| ob [.slice a14 p0.Attrs_.length c15, .slice a16 p0.Classes_.length c17] rfl fun b24 => ob [.slice a22 p1.Nodes_.length c23, .int .i64 p1.Seen_] rfl fun b25 => ow_batch [.p] rfl <| ow_nil <| x_qs <| c_seq <| c_reg <| ow_batch [.fa 39 0 0 fa39_0] rfl <| o1 rfl (r1 0 1 rfl ty37 rfl) <| ow_batch [.p] rfl <| bE H fun e26 h27 H => ow_ixB rfl rfl rfl rfl rfl sl37 ty118 rfl g20 h27 fun q30 c31 hd28 hA29 => ?_
 obtain ⟨c32, c33, c34, c35, c36, c37, c38, c39, c40, c41, rfl, g42, g43, g44, g45, g46, g47, g48, g49, g50, g51⟩ := rdo_Timpl_Node hd28
 obtain rfl : c32 = [.bool e26.Leaf_] := g42
 obtain rfl : c33 = [.int .i64 e26.Fork_.Attr_, .int .i64 e26.Fork_.At_] := g43
 obtain ⟨a52, c53, rfl⟩ := rd_sl1 g44
 obtain rfl : c35 = [.int .i64 e26.Miss_] := g45
 obtain ⟨c54, c55, rfl, g56, g57⟩ := rdo_Timpl_Stats g46
 obtain ⟨a58, c59, rfl⟩ := rd_sl1 g56
 obtain ⟨a60, c61, rfl⟩ := rd_sl1 g57
 obtain rfl : c37 = [.int .i64 e26.Since_] := g47
 obtain ⟨a62, c63, rfl⟩ := rd_sl1 g48
 obtain rfl : c39 = [.int .i64 e26.Depth_] := g49
 obtain rfl : c40 = [.int .i64 e26.Up_] := g50
 obtain rfl : c41 = [.int .i64 e26.Born_] := g51
 refine o1 rfl (ry_load (cs := [.bool e26.Leaf_, .int .i64 e26.Fork_.Attr_, .int .i64 e26.Fork_.At_, .slice a52 e26.Kids_.length c53, .int .i64 e26.Miss_, .slice a58 e26.Stats_.Totals_.length c59, .slice a60 e26.Stats_.Cells_.length c61, .int .i64 e26.Since_, .slice a62 e26.Attrs_.length c63, .int .i64 e26.Depth_, .int .i64 e26.Up_, .int .i64 e26.Born_]) rfl rfl ty118 (at_bor bor hA29) rfl) <| ow_alloc rfl rfl rfl rfl ty118 (fun _ => kp) fun b64 => sC 0 [.bool e26.Leaf_, .int .i64 e26.Fork_.Attr_, .int .i64 e26.Fork_.At_, .slice a52 e26.Kids_.length c53, .int .i64 e26.Miss_, .slice a58 e26.Stats_.Totals_.length c59, .slice a60 e26.Stats_.Cells_.length c61, .int .i64 e26.Since_, .slice a62 e26.Attrs_.length c63, .int .i64 e26.Depth_, .int .i64 e26.Up_, .int .i64 e26.Born_] [_, _, _, _, _, _, _, _, _, _, _, _] 2 rfl ty118 rfl <| ow_nil <| x_qs <| c_seq <| c_reg <| ow_batch [.p, .lenS 55 144 sl55, .p] rfl <| ow_nil <| x_qs <| c_join1 (fun (i105 : Int) => St w M0 [Res.box b24 35 [.slice a14 p0.Attrs_.length c15, .slice a16 p0.Classes_.length c17], Res.box b25 39 [.slice a22 p1.Nodes_.length c23, .int .i64 p1.Seen_], Res.box b64 118 [.bool e26.Leaf_, .int .i64 e26.Fork_.Attr_, .int .i64 e26.Fork_.At_, .slice a52 e26.Kids_.length c53, .int .i64 e26.Miss_, .slice a58 e26.Stats_.Totals_.length c59, .slice a60 e26.Stats_.Cells_.length c61, .int .i64 e26.Since_, .slice a62 e26.Attrs_.length c63, .int .i64 e26.Depth_, .int .i64 e26.Up_, .int .i64 e26.Born_]]) (fun (i105 : Int) => [(2, .slice a_2 p2.length c_2), (3, .int .i64 p3), (4, .pointer (some ⟨b24, 0, none⟩)), (5, .pointer (some ⟨b25, 0, none⟩)), (9, .pointer (some ⟨b64, 0, none⟩)), (10, .int .i64 i105)]) (fun (i105 : Int) => impl_ownEntries_J1 p2 p0 p1 p3 e26 i105 = some r) (fun i105 H => ?_) (fun J1 => ?_)
 ·unfold impl_ownEntries_J1 at H
  refine c_seq <| c_reg <| ow_blit0 (e := eVal (Value.int .i64) (fun _ => rfl)) rfl rfl rfl rfl sl59 ty3 (fun _ => kp) fun b106 => ow_batch [.p] rfl <| ow_nil <| x_qs <| c_seq <| c_seq <| c_reg <| ow_batch [.fa 118 9 11 fa118_9] rfl <| o1 rfl (r1 11 2 rfl ty3 rfl) <| ow_batch [.p] rfl <| ow_nil <| x_qs <| c_block <| CW.at (loopI5 (fun (l174 : List Int) (a175 : Option Addr) (c176 : Nat) (F177 : List Nat) (i179 : Int) => St w M0 [Res.own (eList (eVal (Value.int .i64) (fun _ => rfl)) 3) F177 l174 [.slice a175 l174.length c176], Res.box b24 35 [.slice a14 p0.Attrs_.length c15, .slice a16 p0.Classes_.length c17], Res.box b25 39 [.slice a22 p1.Nodes_.length c23, .int .i64 p1.Seen_]]) (fun (l174 : List Int) (a175 : Option Addr) (c176 : Nat) (F177 : List Nat) (i179 : Int) => [(2, .slice a_2 p2.length c_2), (3, .int .i64 p3), (4, .pointer (some ⟨b24, 0, none⟩)), (5, .pointer (some ⟨b25, 0, none⟩)), (10, .int .i64 i105), (11, .slice a175 l174.length c176), (12, .int .i64 i179)]) (fun kk => fun (l174 : List Int) (a175 : Option Addr) (c176 : Nat) (F177 : List Nat) (i179 : Int) => a175.isNone = false ∧ impl_ownEntries_L1 i105 p2 p0 p1 p3 kk l174 i179 = some r) (fun _ _ _ _ _ H => ?_) (fun k1 ihk1 l174 a175 c176 F177 i179 ⟨hz178, H⟩ => ?_) Fuel (([] : List Int)) ((some ⟨b106, 0, none⟩)) (0) ([b106]) (e26.Born_) (⟨rfl, H⟩)) (fun _ h => St.sel [3, 0, 1] rfl rfl h) ⟨rfl, rfl, rfl, rfl, rfl, rfl, rfl,  trivial⟩
  ·unfold impl_ownEntries_L1 at H
   exact absurd H (by simp)
  ·unfold impl_ownEntries_L1 at H
   refine c_seq <| c_seq <| c_reg <| ow_batch [.p, .p, .p] rfl <| ow_nil <| x_qs <| cI H rfl (fun H => ?_) (fun H => ?_)
   ·refine c_skip <| x_qs <| c_seq <| c_block <| c_seq <| c_regHT 9 [(0, true), (1, true), (2, true), (3, true), (4, true), (5, true), (6, true), (8, true), (7, false)] (St w M0 [Res.own (eList (eVal (Value.int .i64) (fun _ => rfl)) 3) F177 l174 [.slice a175 l174.length c176], Res.box b24 35 [.slice a14 p0.Attrs_.length c15, .slice a16 p0.Classes_.length c17], Res.box b25 39 [.slice a22 p1.Nodes_.length c23, .int .i64 p1.Seen_]]) mixed (by kernel_rfl) (panicOk_qs (panicOk_qb (panicOk_qs (panicOk_ql (panicOk_qb (panicOk_qs panicOk_body)))))) (fun _ h => St.mask [true, true, true] rfl h) <| ow_rH rfl (dstOk_lt rfl) (rx 0 1 [.slice a14 p0.Attrs_.length c15, .slice a16 p0.Classes_.length c17] rfl ty35 rfl) <| ow_rH rfl (dstOk_lt rfl) (rx 0 2 [.slice a22 p1.Nodes_.length c23, .int .i64 p1.Seen_] rfl ty39 rfl) <| ow_batch [.p, .p] rfl <| bE H fun e273 h274 H => ow_ixB rfl rfl rfl rfl rfl sl55 ty144 rfl g2 h274 fun q277 c278 hd275 hA276 => ?_
    obtain ⟨c279, c280, rfl, g281, g282⟩ := rdo_Timpl_Entry hd275
    obtain ⟨c283, c284, rfl, g285, g286⟩ := rdo_Timpl_Ex g281
    obtain ⟨a287, c288, rfl⟩ := rd_sl1 g285
    obtain rfl : c284 = [.int .i64 e273.Ex_.Class_] := g286
    obtain rfl : c280 = [.int .i64 e273.Weight_] := g282
    refine ow_batch [.fa 144 0 0 fa144_0] rfl <| ow_rH rfl (dstOk_lt rfl) (ry_load (cs := [.slice a287 e273.Ex_.Bins_.length c288, .int .i64 e273.Ex_.Class_]) rfl rfl ty142 (at_bor (fun _ h => h.ext) (at_K hA276 0 2)) rfl) <| ow_batch [.p] rfl <| bE H fun y289 h290 H => ow_callS rfl fn214 rfl rfl rfl rfl (fun w1 hw1 => impl_pathTo_ok w1 (cs0 := [.slice a14 p0.Attrs_.length c15, .slice a16 p0.Classes_.length c17]) (cs1 := [.slice a22 p1.Nodes_.length c23, .int .i64 p1.Seen_]) (cs2 := [.slice a287 e273.Ex_.Bins_.length c288, .int .i64 e273.Ex_.Class_]) h290 (hw1.carve [] rfl rfl) (rdm_Timpl_Schema (x := p0) (c0 := [.slice a14 p0.Attrs_.length c15]) (c1 := [.slice a16 p0.Classes_.length c17]) (rds_bor g12 w1 hw1) (rds_bor g13 w1 hw1)) (rdm_Timpl_Tree (x := p1) (c0 := [.slice a22 p1.Nodes_.length c23]) (c1 := [.int .i64 p1.Seen_]) (rds_bor g20 w1 hw1) rfl) (rdm_Timpl_Ex (x := e273.Ex_) (c0 := [.slice a287 e273.Ex_.Bins_.length c288]) (c1 := [.int .i64 e273.Ex_.Class_]) (rds_bor g285 w1 hw1) rfl)) fun v291 w1 w2 hw1 hR293 => ?_
    obtain ⟨a294, n295, c296, F297, rfl, hz298, hS292⟩ := hR293
    obtain rfl := own_nS (i := 0) hS292 rfl
    refine ⟨St w M0 [_, _, _, _], hw1.comp [] rfl rfl hS292, (fun _ h => St.mask [true, true, true] rfl h), ?_⟩
    refine ow_nilH <| x_qt <| bE H fun y299 h300 H => oq rfl (qc rfl fn134 (fun w1 hw1 => lib_slices_Contains___int_int__ok w1  h300 (rds_own (e := eList (eVal (Value.int .i64) (fun _ => rfl)) 3) (r := 3) rfl w1 hw1))) tt2 <| ow_nil <| x_qs <| cI H rfl (fun H => ?_) (fun H => ?_)
    ·exact c_reg <| ow_batch [.p, .p] rfl <| ow_blit (val := Value.int .i64) (h1 := fun _ => rfl) [i179] [(0, [.int .i64 i179])] rfl rfl rfl rfl rfl sl59 ty3 rfl rfl rfl ⟨rfl, rfl, Nat.le_of_ble_eq_true rfl,  trivial⟩ rfl rfl (fun _ => kp) fun b301 => bE H fun l302 h303 H => ow_appR (r := 0) (ys := ([i179] : List Int)) rfl rfl rfl rfl rfl rfl sl59 ty3 rfl rfl rfl (fun w1 hw1 => rds_own (e := eList (eVal (Value.int .i64) (fun _ => rfl)) 3) (r := 4) rfl w1 hw1) h303 (fun _ _ _ => kp) fun a304 c305 F306 => ow_fact rfl (fun w1 hw1 => own_nn (i := 0) hw1 rfl (app_ne h303)) fun hz307 => ow_batch [.p] rfl <| ow_nil <| x_qb <| x_qs <| c_reg <| ow_batch [.p, .p, .p] rfl <| ow_nil <| x_ql (RW.at (ihk1 (l302) (a304) (c305) (F306) (IntKind.i64.wrap (i179 + 1)) (⟨hz307, H⟩)) (fun _ h => St.sel [0, 1, 2] rfl rfl h) ⟨rfl, rfl, rfl, rfl, rfl, rfl, rfl, trivial⟩)
    ·exact c_skip <| x_qb <| x_qs <| c_reg <| ow_batch [.p, .p, .p] rfl <| ow_nil <| x_ql (RW.at (ihk1 (l174) (a175) (c176) (F177) (IntKind.i64.wrap (i179 + 1)) (⟨hz178, H⟩)) (fun _ h => St.sel [0, 1, 2] rfl rfl h) ⟨rfl, rfl, rfl, rfl, rfl, rfl, rfl, trivial⟩)
   ·exact c_exit <| x_qs_exit <| x_ql_exit <| x_qb_here <| x_qs <| c_seq <| c_reg <| ow_batch [.p, .p] rfl <| ow_nil <| x_qs <| c_ret <| x_retR (rs := [.tmp 8]) (vs := [.slice a175 l174.length c176]) rfl ⟨rfl, trivial⟩ (fun w' hw' => by
     obtain rfl := of_some H
     exact ⟨_, rfl, a175, l174.length, c176, F177, rfl, hw'.sel [0] rfl rfl⟩)
 ·refine c_seq <| c_reg <| ow_batch [.fa 118 0 0 fa118_0] rfl <| o1 rfl (r1 0 2 rfl ty4 rfl) <| ow_batch [.p] rfl <| ow_nil <| x_qs <| cI H rfl (fun H => ?_) (fun H => ?_)
  ·refine c_regQ mixed (by kernel_rfl) <| ow_batch [.p, .fa 39 0 0 fa39_0] rfl <| o1 rfl (r1 0 1 rfl ty37 rfl) <| ow_batch [.fa 118 2 3 fa118_2] rfl <| o1 rfl (r1 3 2 rfl ty59 rfl) <| bE H fun e308 h309 H => ow_ixE (e := eVal (Value.int .i64) (fun _ => rfl)) (xs := e26.Kids_) (j := 0) rfl rfl rfl rfl rfl sl59 ty3 rfl (fun w1 hw1 => rds_bor g44 w1 hw1) h309 (by rw [Nat.mul_one]) <| o1 rfl (ry_load1 rfl rfl ty3 (at_elV (fun w1 hw1 => rds_bor g44 w1 hw1) h309)) <| bE H fun e310 h311 H => ow_ixB rfl rfl rfl rfl rfl sl37 ty118 rfl g20 h311 fun q314 c315 hd312 hA313 => ?_
   obtain ⟨c316, c317, c318, c319, c320, c321, c322, c323, c324, c325, rfl, g326, g327, g328, g329, g330, g331, g332, g333, g334, g335⟩ := rdo_Timpl_Node hd312
   obtain rfl : c316 = [.bool e310.Leaf_] := g326
   obtain rfl : c317 = [.int .i64 e310.Fork_.Attr_, .int .i64 e310.Fork_.At_] := g327
   obtain ⟨a336, c337, rfl⟩ := rd_sl1 g328
   obtain rfl : c319 = [.int .i64 e310.Miss_] := g329
   obtain ⟨c338, c339, rfl, g340, g341⟩ := rdo_Timpl_Stats g330
   obtain ⟨a342, c343, rfl⟩ := rd_sl1 g340
   obtain ⟨a344, c345, rfl⟩ := rd_sl1 g341
   obtain rfl : c321 = [.int .i64 e310.Since_] := g331
   obtain ⟨a346, c347, rfl⟩ := rd_sl1 g332
   obtain rfl : c323 = [.int .i64 e310.Depth_] := g333
   obtain rfl : c324 = [.int .i64 e310.Up_] := g334
   obtain rfl : c325 = [.int .i64 e310.Born_] := g335
   exact ow_batch [.fa 118 9 11 fa118_9] rfl <| o1 rfl (ry_load1 rfl rfl ty3 (at_bor bor (at_K hA313 11 1))) <| o1 rfl (ry_min rfl rfl rfl) <| ow_batch [.p] rfl <| ow_nilQ <| XW.at (J1 ((if e310.Born_ < (p2.length : Int) then e310.Born_ else (p2.length : Int))) (H)) (fun _ h => St.sel [0, 1, 2] rfl rfl h) ⟨rfl, rfl, rfl, rfl, rfl, rfl, trivial⟩
  ·exact c_skip <| XW.at (J1 ((p2.length : Int)) (H)) (fun _ h => St.sel [0, 1, 2] rfl rfl h) ⟨rfl, rfl, rfl, rfl, rfl, rfl, trivial⟩
theorem lib_slices_Clone___int_int__ok (w : World) {M0 : List Nat} {p0 : List Int} {a_0 : Option Addr} {n_0 c_0 : Nat} {r : List Int} (H : lib_slices_Clone___int_int_ p0 = some r) (HS : St w M0 [] w) (g0 : (eList (eVal (Value.int .i64) (fun _ => rfl)) 3).rd w M0 p0 [.slice a_0 n_0 c_0]) :
    Calls Tryz.prog 223 #[.slice a_0 n_0 c_0] w (fun en w' => ∃ v, en = .returned v ∧ ∃ (a0 : Option Addr), ∃ (n0 : Nat), ∃ (c0 : Nat), ∃ (F0 : List Nat), v = .slice a0 n0 c0 ∧ St w M0 [Res.own (eList (eVal (Value.int .i64) (fun _ => rfl)) 3) F0 r [.slice a0 n0 c0]] w') := by
 obtain rfl := rd_n g0
 unfold lib_slices_Clone___int_int_ at H
 refine f_enter (vs := [.slice a_0 p0.length c_0]) Tryz.func223 rfl Tryz.ntmps223 rfl (HS) <| c_seq <| c_reg <| ow_batch [.p] rfl <| ow_nil <| x_qs <| c_seq <| c_seq <| c_reg <| ow_batch [.p] rfl <| o1 rfl (ry_nilB rfl rfl sl59 rfl) <| ow_nil <| x_qs <| c_if rfl (fun hb => ?_) (fun _ => ?_)
 ·obtain rfl : p0 = [] := rd_isNone g0 hb
  have H : some ([] : List Int) = some r := by simpa [app] using H
  exact c_seq <| c_reg <| ow_batch [.p] rfl <| ow_nil <| x_qs <| c_ret <| x_qs_ret <| xw_st (fun _ h => St.pushNil (e := eVal (Value.int .i64) (fun _ => rfl)) (T := 3) h) <| x_retR (rs := [.tmp 2]) (vs := [.slice none 0 0]) rfl ⟨rfl, trivial⟩ (fun w' hw' => by
   obtain rfl := of_some H
   exact ⟨_, rfl, none, 0, 0, [], rfl, hw'.sel [0] rfl rfl⟩)
 ·exact c_skip <| x_qs <| c_seq <| c_reg <| ow_blit0 (e := eVal (Value.int .i64) (fun _ => rfl)) rfl rfl rfl rfl sl59 ty3 (fun _ => kp) fun b10 => ow_batch [.p] rfl <| bE H fun l11 h12 H => ow_appR (r := 0) (ys := p0) rfl rfl rfl rfl rfl rfl sl59 ty3 rfl rfl rfl (fun w1 hw1 => rds_bor g0 w1 hw1) h12 (fun _ _ _ => kp) fun a13 c14 F15 => ow_batch [.p] rfl <| ow_nil <| x_qs <| c_ret <| x_retR (rs := [.tmp 2]) (vs := [.slice a13 l11.length c14]) rfl ⟨rfl, trivial⟩ (fun w' hw' => by
   obtain rfl := of_some H
   exact ⟨_, rfl, a13, l11.length, c14, F15, rfl, hw'.sel [0] rfl rfl⟩)
theorem impl_cloneLists_ok (w : World) {M0 : List Nat} {p0 : List (List Int)} {a_0 : Option Addr} {n_0 c_0 : Nat} {r : List (List Int)} (H : impl_cloneLists p0 = some r) (HS : St w M0 [] w) (g0 : (eList (eList (eVal (Value.int .i64) (fun _ => rfl)) 3) 59).rd w M0 p0 [.slice a_0 n_0 c_0]) :
    Calls Tryz.prog 243 #[.slice a_0 n_0 c_0] w (fun en w' => ∃ v, en = .returned v ∧ ∃ (a0 : Option Addr), ∃ (n0 : Nat), ∃ (c0 : Nat), ∃ (F0 : List Nat), v = .slice a0 n0 c0 ∧ St w M0 [Res.own (eList (eList (eVal (Value.int .i64) (fun _ => rfl)) 3) 59) F0 r [.slice a0 n0 c0]] w') := by
 obtain rfl := rd_n g0
 unfold impl_cloneLists at H
 refine f_enter (vs := [.slice a_0 p0.length c_0]) Tryz.func243 rfl Tryz.ntmps243 rfl (HS) <| c_seq <| c_reg <| ow_batch [.p] rfl <| ow_nil <| x_qs <| c_seq <| c_reg <| ow_batch [.p] rfl <| ow_nil <| x_qs <| c_seq <| c_seq <| c_reg <| ow_batch [.p, .lenS 60 59 sl60, .p] rfl <| ow_nil <| x_qs <| c_block <| CW.weak ?_ (fun _ h => St.pushNil (e := eList (eVal (Value.int .i64) (fun _ => rfl)) 3) (T := 59) h)
 refine CW.at (loopI5 (fun (l38 : List (List Int)) (a39 : Option Addr) (c40 : Nat) (F41 : List Nat) (i42 : Int) => St w M0 [Res.own (eList (eList (eVal (Value.int .i64) (fun _ => rfl)) 3) 59) F41 l38 [.slice a39 l38.length c40]]) (fun (l38 : List (List Int)) (a39 : Option Addr) (c40 : Nat) (F41 : List Nat) (i42 : Int) => [(3, .slice a39 l38.length c40), (6, .slice a_0 p0.length c_0), (7, .int .i64 (p0.length : Int)), (8, .int .i64 i42)]) (fun kk => fun (l38 : List (List Int)) (a39 : Option Addr) (c40 : Nat) (F41 : List Nat) (i42 : Int) => impl_cloneLists_L1 p0 kk l38 i42 = some r) (fun _ _ _ _ _ H => ?_) (fun k1 ihk1 l38 a39 c40 F41 i42 H => ?_) Fuel (([] : List (List Int))) (none) (0) ([]) (0) (H)) (fun _ h => St.sel [0] rfl rfl h) ⟨rfl, rfl, rfl, rfl,  trivial⟩
 ·unfold impl_cloneLists_L1 at H
  exact absurd H (by simp)
 ·unfold impl_cloneLists_L1 at H
  refine c_seq <| c_reg <| ow_batch [.p] rfl <| ow_nil <| x_qs <| c_seq <| cI H rfl (fun H => ?_) (fun H => ?_)
  ·refine c_skip <| x_qs <| c_seq <| c_block <| c_seq <| c_reg <| bE H fun e71 h72 H => ow_ixB rfl rfl rfl rfl rfl sl60 ty59 rfl g0 h72 fun q75 c76 hd73 hA74 => ?_
   obtain ⟨a77, c78, rfl⟩ := rd_sl1 hd73
   refine o1 rfl (ry_load1 rfl rfl ty59 (at_bor bor hA74)) <| ow_batch [.p] rfl <| ow_nil <| x_qs <| c_reg <| ow_batch [.p, .p] rfl <| bE H fun y79 h80 H => ow_callS rfl fn223 rfl rfl rfl rfl (fun w1 hw1 => lib_slices_Clone___int_int__ok w1  h80 (hw1.carve [] rfl rfl) (rds_bor hd73 w1 hw1)) fun v81 w1 w2 hw1 hR83 => ?_
   obtain ⟨a84, n85, c86, F87, rfl, hS82⟩ := hR83
   obtain rfl := own_nS (i := 0) hS82 rfl
   refine ⟨St w M0 [_, _], hw1.comp [] rfl rfl hS82, fun _ _ => trivial, ?_⟩
   refine ow_bslice [(0, [.slice a84 y79.length c86])] rfl rfl rfl rfl rfl sl60 ty59 rfl rfl ⟨rfl, rfl, Nat.le_of_ble_eq_true rfl,  trivial⟩ [.slice a84 y79.length c86] rfl (fun _ => kp) fun b88 => ow_st rfl (fun _ h => lit1 (p := 2) (q := 1) h rfl rfl rfl) <| bE H fun l89 h90 H => ow_appM (r := 0) (j := 3) rfl rfl rfl rfl rfl rfl sl60 ty59 rfl rfl rfl rfl rfl rfl rfl h90 (fun _ _ _ => kp) fun a91 c92 F93 => ow_batch [.p] rfl <| ow_nil <| x_qb <| x_qs <| CW.weak (C' := St w M0 [_]) ?_ (fun _ h => St.sel [4] rfl rfl h)
   exact c_reg <| ow_batch [.p, .p] rfl <| ow_nil <| x_ql (RW.at (ihk1 (l89) (a91) (c92) (F93) (IntKind.i64.wrap (i42 + 1)) (H)) (fun _ h => St.sel [0] rfl rfl h) ⟨rfl, rfl, rfl, rfl, trivial⟩)
  ·exact c_exit <| x_qs_exit <| x_ql_exit <| x_qb_here <| x_qs <| c_seq <| c_reg <| ow_batch [.p, .p] rfl <| ow_nil <| x_qs <| c_ret <| x_retR (rs := [.tmp 2]) (vs := [.slice a39 l38.length c40]) rfl ⟨rfl, trivial⟩ (fun w' hw' => by
    obtain rfl := of_some H
    exact ⟨_, rfl, a39, l38.length, c40, F41, rfl, hw'.sel [0] rfl rfl⟩)
theorem impl_cloneStats_ok (w : World) {M0 : List Nat} {p0 : Timpl_Stats} {cs0 : List Value} {r : Timpl_Stats} (H : impl_cloneStats p0 = some r) (HS : St w M0 [] w) (g0 : (eTimpl_Stats).rd w M0 p0 cs0) :
    Calls Tryz.prog 215 #[.agg cs0.toArray] w (fun en w' => ∃ v, en = .returned v ∧ ∃ (a0 : Option Addr), ∃ (n0 : Nat), ∃ (c0 : Nat), ∃ (F0 : List Nat), ∃ (a1 : Option Addr), ∃ (n1 : Nat), ∃ (c1 : Nat), ∃ (F1 : List Nat), v = .agg #[.slice a0 n0 c0, .slice a1 n1 c1] ∧ St w M0 [Res.own (eList (eVal (Value.int .i64) (fun _ => rfl)) 3) F0 r.Totals_ [.slice a0 n0 c0], Res.own (eList (eList (eVal (Value.int .i64) (fun _ => rfl)) 3) 59) F1 r.Cells_ [.slice a1 n1 c1]] w') := by
 obtain ⟨c10, c11, rfl, g12, g13⟩ := rdo_Timpl_Stats g0
 obtain ⟨a14, c15, rfl⟩ := rd_sl1 g12
 obtain ⟨a16, c17, rfl⟩ := rd_sl1 g13
 unfold impl_cloneStats at H
 refine f_enter (vs := [.agg #[.slice a14 p0.Totals_.length c15, .slice a16 p0.Cells_.length c17]]) Tryz.func215 rfl Tryz.ntmps215 rfl (HS) <| c_seq <| c_reg <| ob [.slice a14 p0.Totals_.length c15, .slice a16 p0.Cells_.length c17] rfl fun b18 => ow_alloc rfl rfl rfl rfl ty62 (fun _ => kp) fun b19 => ow_nil <| x_qs <| c_seq <| c_regHT 5 [(0, true), (1, true), (3, true), (4, true), (2, false)] (St w M0 [Res.box b18 62 [.slice a14 p0.Totals_.length c15, .slice a16 p0.Cells_.length c17], Res.box b19 62 [.slice none 0 0, .slice none 0 0]]) mixed (by kernel_rfl) (panicOk_qs panicOk_body) (fun _ h => St.mask [true, true] rfl h) <| ow_batch [.fa 62 0 0 fa62_0] rfl <| ow_rH rfl (dstOk_lt rfl) (r1 0 0 rfl ty59 rfl) <| ow_batch [.fa 62 1 1 fa62_1] rfl <| ow_rH rfl (dstOk_lt rfl) (r1 1 0 rfl ty60 rfl) <| bE H fun y29 h30 H => ow_callS rfl fn223 rfl rfl rfl rfl (fun w1 hw1 => lib_slices_Clone___int_int__ok w1  h30 (hw1.carve [] rfl rfl) (rds_bor g12 w1 hw1)) fun v31 w1 w2 hw1 hR33 => ?_
 obtain ⟨a34, n35, c36, F37, rfl, hS32⟩ := hR33
 obtain rfl := own_nS (i := 0) hS32 rfl
 refine ⟨St w M0 [_, _, _], hw1.comp [] rfl rfl hS32, (fun _ h => St.mask [true, true] rfl h), ?_⟩
 refine ow_nilH <| x_qt <| bE H fun y38 h39 H => ow_callS rfl fn243 rfl rfl rfl rfl (fun w1 hw1 => impl_cloneLists_ok w1  h39 (hw1.carve [] rfl rfl) (rds_bor g13 w1 hw1)) fun v40 w1 w2 hw1 hR42 => ?_
 obtain ⟨a43, n44, c45, F46, rfl, hS41⟩ := hR42
 obtain rfl := own_nS (i := 0) hS41 rfl
 refine ⟨St w M0 [_, _, _, _], hw1.comp [] rfl rfl hS41, fun _ _ => trivial, ?_⟩
 exact o1 rfl (ry_build2 [(0, [.slice a34 y29.length c36]), (1, [.slice a43 y38.length c45])] [.slice a34 y29.length c36, .slice a43 y38.length c45] rfl rfl ty62 fs62 rfl ⟨rfl, rfl, Nat.le_of_ble_eq_true rfl, rfl, rfl, Nat.le_of_ble_eq_true rfl,  trivial⟩ rfl) <| sC 0 [.slice a34 y29.length c36, .slice a43 y38.length c45] [_, _] 1 rfl ty62 rfl <| ow_nil <| x_qs <| c_ret <| x_retR (rs := [.cell 2 62]) (vs := [.agg #[.slice a34 y29.length c36, .slice a43 y38.length c45]]) rfl ⟨⟨_, [.slice a34 y29.length c36, .slice a43 y38.length c45], _, _, _, rfl, ty62, (at_box (T := 62) 0 (boxIn (i := 1) rfl) rfl), rfl, rfl⟩, trivial⟩ (fun w' hw' => by
  obtain rfl := of_some H
  exact ⟨_, rfl, a34, y29.length, c36, F37, a43, y38.length, c45, F46, rfl, hw'.sel [2, 3] rfl rfl⟩)
theorem impl_StatsAdd_ok (w : World) {M0 : List Nat} {p0 : Timpl_Schema} {p1 : Timpl_Stats} {p2 : Timpl_Ex} {p3 : Int} {cs0 : List Value} {cs1 : List Value} {cs2 : List Value} {r : Timpl_Stats × Bool} (H : impl_StatsAdd p0 p1 p2 p3 = some r) (HS : St w M0 [] w) (g0 : (eTimpl_Schema).rd w M0 p0 cs0) (g1 : (eTimpl_Stats).rd w M0 p1 cs1) (g2 : (eTimpl_Ex).rd w M0 p2 cs2) :
    Calls Tryz.prog 153 #[.agg cs0.toArray, .agg cs1.toArray, .agg cs2.toArray, .int .i64 p3] w (fun en w' => ∃ v, en = .returned v ∧ ∃ (a0 : Option Addr), ∃ (n0 : Nat), ∃ (c0 : Nat), ∃ (F0 : List Nat), ∃ (a1 : Option Addr), ∃ (n1 : Nat), ∃ (c1 : Nat), ∃ (F1 : List Nat), v = .tuple #[.agg #[.slice a0 n0 c0, .slice a1 n1 c1], .bool r.2] ∧ St w M0 [Res.own (eList (eVal (Value.int .i64) (fun _ => rfl)) 3) F0 r.1.Totals_ [.slice a0 n0 c0], Res.own (eList (eList (eVal (Value.int .i64) (fun _ => rfl)) 3) 59) F1 r.1.Cells_ [.slice a1 n1 c1]] w') := by
 obtain ⟨c10, c11, rfl, g12, g13⟩ := rdo_Timpl_Schema g0
 obtain ⟨a14, c15, rfl⟩ := rd_sl1 g12
 obtain ⟨a16, c17, rfl⟩ := rd_sl1 g13
 obtain ⟨c18, c19, rfl, g20, g21⟩ := rdo_Timpl_Stats g1
 obtain ⟨a22, c23, rfl⟩ := rd_sl1 g20
 obtain ⟨a24, c25, rfl⟩ := rd_sl1 g21
 obtain ⟨c26, c27, rfl, g28, g29⟩ := rdo_Timpl_Ex g2
 obtain ⟨a30, c31, rfl⟩ := rd_sl1 g28
 obtain rfl : c27 = [.int .i64 p2.Class_] := g29
 unfold impl_StatsAdd at H
 refine f_enter (vs := [.agg #[.slice a14 p0.Attrs_.length c15, .slice a16 p0.Classes_.length c17], .agg #[.slice a22 p1.Totals_.length c23, .slice a24 p1.Cells_.length c25], .agg #[.slice a30 p2.Bins_.length c31, .int .i64 p2.Class_], .int .i64 p3]) Tryz.func153 rfl Tryz.ntmps153 rfl (HS) <| c_seq <| c_reg <| ob [.slice a14 p0.Attrs_.length c15, .slice a16 p0.Classes_.length c17] rfl fun b32 => ob [.slice a22 p1.Totals_.length c23, .slice a24 p1.Cells_.length c25] rfl fun b33 => ob [.slice a30 p2.Bins_.length c31, .int .i64 p2.Class_] rfl fun b34 => ow_alloc rfl rfl rfl rfl ty62 (fun _ => kp) fun b35 => ow_batch [.p] rfl <| ow_nil <| x_qs <| c_seq <| c_reg <| o1 rfl (rx 0 1 [.slice a22 p1.Totals_.length c23, .slice a24 p1.Cells_.length c25] rfl ty62 rfl) <| bE H fun y36 h37 H => ow_callS rfl fn215 rfl rfl rfl rfl (fun w1 hw1 => impl_cloneStats_ok w1 (cs0 := [.slice a22 p1.Totals_.length c23, .slice a24 p1.Cells_.length c25]) h37 (hw1.carve [] rfl rfl) (rdm_Timpl_Stats (x := p1) (c0 := [.slice a22 p1.Totals_.length c23]) (c1 := [.slice a24 p1.Cells_.length c25]) (rds_bor g20 w1 hw1) (rds_bor g21 w1 hw1))) fun v38 w1 w2 hw1 hR40 => ?_
 obtain ⟨a41, n42, c43, F44, a45, n46, c47, F48, rfl, hS39⟩ := hR40
 obtain rfl := own_nS (i := 0) hS39 rfl
 obtain rfl := own_nS (i := 1) hS39 rfl
 refine ⟨St w M0 [_, _, _, _, _, _], hw1.comp [] rfl rfl hS39, fun _ _ => trivial, ?_⟩
 refine ow_alloc rfl rfl rfl rfl ty62 (fun _ => kp) fun b49 => sC 0 [.slice a41 y36.Totals_.length c43, .slice a45 y36.Cells_.length c47] [_, _] 6 rfl ty62 rfl <| ow_nil <| x_qs <| c_seq <| c_seq <| c_reg <| o1 rfl (rx 0 0 [.slice a14 p0.Attrs_.length c15, .slice a16 p0.Classes_.length c17] rfl ty35 rfl) <| o1 rfl (rx 0 1 [.slice a22 p1.Totals_.length c23, .slice a24 p1.Cells_.length c25] rfl ty62 rfl) <| bE H fun y50 h51 H => oq rfl (qc rfl fn203 (fun w1 hw1 => impl_StatsOk_ok w1 (cs0 := [.slice a14 p0.Attrs_.length c15, .slice a16 p0.Classes_.length c17]) (cs1 := [.slice a22 p1.Totals_.length c23, .slice a24 p1.Cells_.length c25]) h51 (rdm_Timpl_Schema (x := p0) (c0 := [.slice a14 p0.Attrs_.length c15]) (c1 := [.slice a16 p0.Classes_.length c17]) (rds_bor g12 w1 hw1) (rds_bor g13 w1 hw1)) (rdm_Timpl_Stats (x := p1) (c0 := [.slice a22 p1.Totals_.length c23]) (c1 := [.slice a24 p1.Cells_.length c25]) (rds_bor g20 w1 hw1) (rds_bor g21 w1 hw1)))) tt2 <| ow_batch [.p, .p] rfl <| bE H fun u52 hu56 H => ow_cut [(24, .bool u52), (3, .int .i64 p3), (4, .pointer (some ⟨b32, 0, none⟩)), (5, .pointer (some ⟨b33, 0, none⟩)), (6, .pointer (some ⟨b34, 0, none⟩)), (8, .pointer (some ⟨b35, 0, none⟩)), (10, .pointer (some ⟨b49, 0, none⟩))] 5 ?_ (fun key => OW.sub (R := [(3, .int .i64 p3), (4, .pointer (some ⟨b32, 0, none⟩)), (5, .pointer (some ⟨b33, 0, none⟩)), (6, .pointer (some ⟨b34, 0, none⟩)), (8, .pointer (some ⟨b35, 0, none⟩)), (10, .pointer (some ⟨b49, 0, none⟩)), (19, .bool (!y50))]) ?_ (sb rfl))
 ·refine ow_batch [.p] rfl <| ow_cut [(29, .bool (u52 || (p2.Class_ == (-1)))), (3, .int .i64 p3), (4, .pointer (some ⟨b32, 0, none⟩)), (5, .pointer (some ⟨b33, 0, none⟩)), (6, .pointer (some ⟨b34, 0, none⟩)), (8, .pointer (some ⟨b35, 0, none⟩)), (10, .pointer (some ⟨b49, 0, none⟩))] 4 ?_ (fun key => OW.sub (R := [(3, .int .i64 p3), (4, .pointer (some ⟨b32, 0, none⟩)), (5, .pointer (some ⟨b33, 0, none⟩)), (6, .pointer (some ⟨b34, 0, none⟩)), (8, .pointer (some ⟨b35, 0, none⟩)), (10, .pointer (some ⟨b49, 0, none⟩)), (25, .bool u52)]) ?_ (sb rfl))
  ·refine ow_batch [.p] rfl <| bE H fun u59 hu63 H => ow_cut [(34, .bool u59), (3, .int .i64 p3), (4, .pointer (some ⟨b32, 0, none⟩)), (5, .pointer (some ⟨b33, 0, none⟩)), (6, .pointer (some ⟨b34, 0, none⟩)), (8, .pointer (some ⟨b35, 0, none⟩)), (10, .pointer (some ⟨b49, 0, none⟩))] 4 ?_ (fun key => OW.sub (R := [(3, .int .i64 p3), (4, .pointer (some ⟨b32, 0, none⟩)), (5, .pointer (some ⟨b33, 0, none⟩)), (6, .pointer (some ⟨b34, 0, none⟩)), (8, .pointer (some ⟨b35, 0, none⟩)), (10, .pointer (some ⟨b49, 0, none⟩)), (30, .bool (u52 || (p2.Class_ == (-1))))]) ?_ (sb rfl))
   ·refine ow_batch [.p] rfl <| bE H fun u65 hu69 H => ow_cut [(42, .bool u65), (3, .int .i64 p3), (4, .pointer (some ⟨b32, 0, none⟩)), (6, .pointer (some ⟨b34, 0, none⟩)), (8, .pointer (some ⟨b35, 0, none⟩)), (10, .pointer (some ⟨b49, 0, none⟩))] 7 ?_ (fun key => OW.sub (R := [(3, .int .i64 p3), (4, .pointer (some ⟨b32, 0, none⟩)), (5, .pointer (some ⟨b33, 0, none⟩)), (6, .pointer (some ⟨b34, 0, none⟩)), (8, .pointer (some ⟨b35, 0, none⟩)), (10, .pointer (some ⟨b49, 0, none⟩)), (35, .bool u59)]) ?_ (sb rfl))
    ·refine ow_nil <| x_qs <| cI H rfl (fun H => ?_) (fun H => ?_)
     ·exact c_seq <| c_reg <| o1 rfl (rx 0 6 [.slice a41 y36.Totals_.length c43, .slice a45 y36.Cells_.length c47] rfl ty62 rfl) <| sC 0 [.slice a41 y36.Totals_.length c43, .slice a45 y36.Cells_.length c47] [_, _] 3 rfl ty62 rfl <| ow_batch [.p] rfl <| ow_nil <| x_qs <| c_ret <| x_qs_ret <| x_retR (rs := [.cell 8 62, .tmp 9]) (vs := [.agg #[.slice a41 y36.Totals_.length c43, .slice a45 y36.Cells_.length c47], .bool false]) rfl ⟨⟨_, [.slice a41 y36.Totals_.length c43, .slice a45 y36.Cells_.length c47], _, _, _, rfl, ty62, (at_box (T := 62) 0 (boxIn (i := 3) rfl) rfl), rfl, rfl⟩, rfl, trivial⟩ (fun w' hw' => by
       obtain rfl := of_some H
       exact ⟨_, rfl, a41, y36.Totals_.length, c43, F44, a45, y36.Cells_.length, c47, F48, rfl, hw'.sel [4, 5] rfl rfl⟩)
     ·refine c_skip <| x_qs <| c_seq <| c_reg <| ow_batch [.fa 62 0 0 fa62_0] rfl <| o1 rfl (r1 0 6 rfl ty59 rfl) <| ow_batch [.fa 142 1 1 fa142_1] rfl <| o1 rfl (r1 1 2 rfl ty3 rfl) <| bE H fun e70 h71 H => ow_ixE (e := eVal (Value.int .i64) (fun _ => rfl)) (xs := y36.Totals_) (j := p2.Class_) rfl rfl rfl rfl rfl sl59 ty3 rfl (fun w1 hw1 => rds_own (e := eList (eVal (Value.int .i64) (fun _ => rfl)) 3) (r := 4) rfl w1 hw1) h71 (by rw [Nat.mul_one]) <| o1 rfl (ry_load1 rfl rfl ty3 (at_elV (fun w1 hw1 => rds_own (e := eList (eVal (Value.int .i64) (fun _ => rfl)) 3) (r := 4) rfl w1 hw1) h71)) <| ow_batch [.p, .p] rfl <| bE H fun e72 h73 H => ow_ixE (e := eVal (Value.int .i64) (fun _ => rfl)) (xs := y36.Totals_) (j := p2.Class_) rfl rfl rfl rfl rfl sl59 ty3 rfl (fun w1 hw1 => rds_own (e := eList (eVal (Value.int .i64) (fun _ => rfl)) 3) (r := 4) rfl w1 hw1) h73 (by rw [Nat.mul_one]) <| ow_storeV (i := 4) (j := p2.Class_) rfl rfl rfl rfl rfl rfl ty3 rfl h73 (fun _ => rfl) kp <| ow_nil <| x_qs <| c_seq <| c_seq <| c_reg <| ow_batch [.fa 62 1 1 fa62_1] rfl <| o1 rfl (r1 1 6 rfl ty60 rfl) <| ow_batch [.lenS 60 59 sl60, .p] rfl <| ow_nil <| x_qs <| c_block <| CW.at (loopI3 (fun (l99 : List (List Int)) (F100 : List Nat) (i101 : Int) => St w M0 [Res.box b49 62 [.slice a41 y36.Totals_.length c43, .slice a45 y36.Cells_.length c47], Res.own (eList (eVal (Value.int .i64) (fun _ => rfl)) 3) F44 (y36.Totals_.set p2.Class_.toNat (IntKind.i64.wrap (e70 + p3))) [.slice a41 y36.Totals_.length c43], Res.own (eList (eList (eVal (Value.int .i64) (fun _ => rfl)) 3) 59) F100 l99 [.slice a45 y36.Cells_.length c47], Res.box b32 35 [.slice a14 p0.Attrs_.length c15, .slice a16 p0.Classes_.length c17], Res.box b34 142 [.slice a30 p2.Bins_.length c31, .int .i64 p2.Class_], Res.box b35 62 [.slice none 0 0, .slice none 0 0]]) (fun (l99 : List (List Int)) (F100 : List Nat) (i101 : Int) => [(3, .int .i64 p3), (4, .pointer (some ⟨b32, 0, none⟩)), (6, .pointer (some ⟨b34, 0, none⟩)), (8, .pointer (some ⟨b35, 0, none⟩)), (10, .pointer (some ⟨b49, 0, none⟩)), (54, .slice a45 y36.Cells_.length c47), (55, .int .i64 (y36.Cells_.length : Int)), (56, .int .i64 i101)]) (fun kk => fun (l99 : List (List Int)) (F100 : List Nat) (i101 : Int) => impl_StatsAdd_L1 y36 p2 p0 p3 e70 kk l99 i101 = some r) (fun _ _ _ H => ?_) (fun k1 ihk1 l99 F100 i101 H => ?_) Fuel (y36.Cells_) (F48) (0) (H)) (fun _ h => St.sel [6, 4, 5, 0, 2, 3] rfl rfl h) ⟨rfl, rfl, rfl, rfl, rfl, rfl, rfl, rfl,  trivial⟩
      ·unfold impl_StatsAdd_L1 at H
       exact absurd H (by simp)
      ·unfold impl_StatsAdd_L1 at H
       refine c_seq <| c_reg <| ow_batch [.p] rfl <| ow_nil <| x_qs <| c_seq <| cI H rfl (fun H => ?_) (fun H => ?_)
       ·refine c_skip <| x_qs <| c_seq <| c_block <| c_seq <| c_reg <| ow_batch [.p] rfl <| bE H fun e127 h128 H => ow_ex4 rfl (fun w1 hw1 => foc (r := 2) hw1 rfl h128) fun b130 G131 F132 c133 => ow_fact rfl (fun w1 hw1 => hw1.1) fun q129 => ?_
        obtain ⟨ha134, hn135⟩ := q129
        refine ow_st (C' := St w M0 [_, _, _, _, _, _, _, _]) rfl (fun w1 hw1 => hw1.2) <| ow_ex2 rfl (fun w1 hw1 => opn_sl (i := 7) hw1 rfl) fun a136 c137 => ow_fact rfl (fun w1 hw1 => hw1.1) fun q138 => ?_
        subst q138
        refine ow_st (C' := St w M0 [_, _, _, _, _, _, _, _]) rfl (fun w1 hw1 => hw1.2) <| ow_ixH rfl rfl rfl rfl rfl sl60 ty59 rfl (holeIn (p := 6) rfl) hn135 ha134 (idx_some h128).1 <| o1 rfl (ry_hole1 6 0 rfl rfl rfl ty59 (by first | rfl | simp only [add_lit, add_add, add_zero]) rfl) <| ow_batch [.p, .p] rfl <| ow_nil <| x_qs <| c_seq <| c_reg <| ow_batch [.fa 142 0 0 fa142_0] rfl <| o1 rfl (r1 0 4 rfl ty59 rfl) <| ow_batch [.p] rfl <| bE H fun e139 h140 H => ow_ixE (e := eVal (Value.int .i64) (fun _ => rfl)) (xs := p2.Bins_) (j := i101) rfl rfl rfl rfl rfl sl59 ty3 rfl (fun w1 hw1 => rds_bor g28 w1 hw1) h140 (by rw [Nat.mul_one]) <| o1 rfl (ry_load1 rfl rfl ty3 (at_elV (fun w1 hw1 => rds_bor g28 w1 hw1) h140)) <| ow_batch [.p] rfl <| ow_nil <| x_qs <| cI H rfl (fun H => ?_) (fun H => ?_)
        ·exact c_regT 18 mixed (by kernel_rfl) <| ow_batch [.p, .fa 142 0 0 fa142_0] rfl <| o1 rfl (r1 0 4 rfl ty59 rfl) <| ow_batch [.p] rfl <| bE H fun e141 h142 H => ow_ixE (e := eVal (Value.int .i64) (fun _ => rfl)) (xs := p2.Bins_) (j := i101) rfl rfl rfl rfl rfl sl59 ty3 rfl (fun w1 hw1 => rds_bor g28 w1 hw1) h142 (by rw [Nat.mul_one]) <| o1 rfl (ry_load1 rfl rfl ty3 (at_elV (fun w1 hw1 => rds_bor g28 w1 hw1) h142)) <| ow_batch [.fa 35 1 1 fa35_1] rfl <| o1 rfl (r1 1 3 rfl ty23 rfl) <| ow_batch [.lenS 23 9 sl23, .p, .fa 142 1 1 fa142_1] rfl <| o1 rfl (r1 1 4 rfl ty3 rfl) <| ow_batch [.p] rfl <| bE H fun e143 h144 H => ow_ixE (e := eVal (Value.int .i64) (fun _ => rfl)) (xs := e127) (j := IntKind.i64.wrap ((IntKind.i64.wrap (e141 * (p0.Classes_.length : Int))) + p2.Class_)) rfl rfl rfl rfl rfl sl59 ty3 rfl (fun w1 hw1 => rds_own (e := eList (eVal (Value.int .i64) (fun _ => rfl)) 3) (r := 7) rfl w1 hw1) h144 (by rw [Nat.mul_one]) <| o1 rfl (ry_load1 rfl rfl ty3 (at_elV (fun w1 hw1 => rds_own (e := eList (eVal (Value.int .i64) (fun _ => rfl)) 3) (r := 7) rfl w1 hw1) h144)) <| ow_batch [.p, .p] rfl <| bE H fun e145 h146 H => ow_ixE (e := eVal (Value.int .i64) (fun _ => rfl)) (xs := e127) (j := IntKind.i64.wrap ((IntKind.i64.wrap (e141 * (p0.Classes_.length : Int))) + p2.Class_)) rfl rfl rfl rfl rfl sl59 ty3 rfl (fun w1 hw1 => rds_own (e := eList (eVal (Value.int .i64) (fun _ => rfl)) 3) (r := 7) rfl w1 hw1) h146 (by rw [Nat.mul_one]) <| ow_nilQ <| ow_storeV (i := 7) (j := IntKind.i64.wrap ((IntKind.i64.wrap (e141 * (p0.Classes_.length : Int))) + p2.Class_)) rfl rfl rfl rfl rfl rfl ty3 rfl h146 (fun _ => rfl) kp <| ow_nil <| x_qb <| x_qs <| c_reg <| ow_batch [.p, .p] rfl <| ow_nil <| xw_ex (fun w1 hw1 => unf (p := 6) (q := 7) hw1 rfl rfl rfl hn135 ha134) fun F147 => xw_st (C' := St w M0 [_, _, _, _, _, _, _, _, _]) (fun _ h => h) <| x_ql (RW.at (ihk1 ((l99.set i101.toNat (e127.set (IntKind.i64.wrap ((IntKind.i64.wrap (e141 * (p0.Classes_.length : Int))) + p2.Class_)).toNat (IntKind.i64.wrap (e143 + p3))))) (F147) (IntKind.i64.wrap (i101 + 1)) (H)) (fun _ h => St.sel [0, 1, 8, 3, 4, 5] rfl rfl h) ⟨rfl, rfl, rfl, rfl, rfl, rfl, rfl, rfl, trivial⟩)
        ·exact c_skip <| x_qb <| x_qs <| c_reg <| ow_batch [.p, .p] rfl <| ow_nil <| xw_ex (fun w1 hw1 => unf0 (p := 6) (q := 7) hw1 rfl rfl rfl hn135 ha134 h128) fun F148 => xw_st (C' := St w M0 [_, _, _, _, _, _, _, _, _]) (fun _ h => h) <| x_ql (RW.at (ihk1 (l99) (F148) (IntKind.i64.wrap (i101 + 1)) (H)) (fun _ h => St.sel [0, 1, 8, 3, 4, 5] rfl rfl h) ⟨rfl, rfl, rfl, rfl, rfl, rfl, rfl, rfl, trivial⟩)
       ·exact c_exit <| x_qs_exit <| x_ql_exit <| x_qb_here <| x_qs <| c_seq <| c_reg <| o1 rfl (rx 0 0 [.slice a41 y36.Totals_.length c43, .slice a45 y36.Cells_.length c47] rfl ty62 rfl) <| sC 0 [.slice a41 y36.Totals_.length c43, .slice a45 y36.Cells_.length c47] [_, _] 5 rfl ty62 rfl <| ow_batch [.p] rfl <| ow_nil <| x_qs <| c_ret <| x_retR (rs := [.cell 8 62, .tmp 9]) (vs := [.agg #[.slice a41 y36.Totals_.length c43, .slice a45 y36.Cells_.length c47], .bool true]) rfl ⟨⟨_, [.slice a41 y36.Totals_.length c43, .slice a45 y36.Cells_.length c47], _, _, _, rfl, ty62, (at_box (T := 62) 0 (boxIn (i := 5) rfl) rfl), rfl, rfl⟩, rfl, trivial⟩ (fun w' hw' => by
         obtain rfl := of_some H
         exact ⟨_, rfl, a41, y36.Totals_.length, c43, F44, a45, y36.Cells_.length, c47, F100, rfl, hw'.sel [1, 2] rfl rfl⟩)
    ·clear H
     have H := hu69
     clear hu69
     generalize u59 = t68 at H key ⊢
     cases t68
     ·have H := of_if_f rfl H
      refine ow_batch [.fa 62 0 0 fa62_0] rfl <| o1 rfl (r1 0 1 rfl ty59 rfl) <| bE H fun y66 h67 H => oq rfl (qc rfl fn205 (fun w1 hw1 => impl_total_ok w1  h67 (rds_bor g20 w1 hw1))) tt2 <| ow_batch [.p, .p, .p] rfl <| ow_batch [.p] rfl <| ?_
      obtain rfl := of_some H
      exact OW.sub key (sb rfl)
     ·have H := of_if_t rfl H
      refine ow_batch [.p, .p, .p, .p, .p, .p, .p] rfl ?_
      obtain rfl := of_some H
      exact OW.sub key (sb rfl)
   ·clear H
    have H := hu63
    clear hu63
    generalize (u52 || (p2.Class_ == (-1))) = t62 at H key ⊢
    cases t62
    ·have H := of_if_f rfl H
     refine ow_batch [.p] rfl <| bE H fun y60 h61 H => oq rfl (qc rfl fn91 (fun w1 hw1 => impl_within_ok w1  h61)) tt2 <| ow_batch [.p] rfl <| ow_batch [.p] rfl <| ?_
     obtain rfl := of_some H
     exact OW.sub key (sb rfl)
    ·have H := of_if_t rfl H
     refine ow_batch [.p, .p, .p, .p] rfl ?_
     obtain rfl := of_some H
     exact OW.sub key (sb rfl)
  ·generalize u52 = t58 at key ⊢
   cases t58
   ·exact ow_batch [.fa 142 1 1 fa142_1] rfl <| o1 rfl (r1 1 2 rfl ty3 rfl) <| ow_batch [.p] rfl <| ow_batch [.p] rfl <| OW.sub key (sb rfl)
   ·exact ow_batch [.p, .p, .p, .p] rfl <| OW.sub key (sb rfl)
 ·clear H
  have H := hu56
  clear hu56
  generalize (!y50) = t55 at H key ⊢
  cases t55
  ·have H := of_if_f rfl H
   refine o1 rfl (rx 0 0 [.slice a14 p0.Attrs_.length c15, .slice a16 p0.Classes_.length c17] rfl ty35 rfl) <| o1 rfl (rx 0 2 [.slice a30 p2.Bins_.length c31, .int .i64 p2.Class_] rfl ty142 rfl) <| bE H fun y53 h54 H => oq rfl (qc rfl fn150 (fun w1 hw1 => impl_ExOk_ok w1 (cs0 := [.slice a14 p0.Attrs_.length c15, .slice a16 p0.Classes_.length c17]) (cs1 := [.slice a30 p2.Bins_.length c31, .int .i64 p2.Class_]) h54 (rdm_Timpl_Schema (x := p0) (c0 := [.slice a14 p0.Attrs_.length c15]) (c1 := [.slice a16 p0.Classes_.length c17]) (rds_bor g12 w1 hw1) (rds_bor g13 w1 hw1)) (rdm_Timpl_Ex (x := p2) (c0 := [.slice a30 p2.Bins_.length c31]) (c1 := [.int .i64 p2.Class_]) (rds_bor g28 w1 hw1) rfl))) tt2 <| ow_batch [.p] rfl <| ow_batch [.p] rfl <| ?_
   obtain rfl := of_some H
   exact OW.sub key (sb rfl)
  ·have H := of_if_t rfl H
   refine ow_batch [.p, .p, .p, .p, .p] rfl ?_
   obtain rfl := of_some H
   exact OW.sub key (sb rfl)
theorem impl_history_ok (w : World) {M0 : List Nat} {p0 : Timpl_Schema} {p1 : Timpl_Rule} {p2 : Timpl_Tree} {p3 : List Timpl_Entry} {p4 : Int} {cs0 : List Value} {cs2 : List Value} {a_3 : Option Addr} {n_3 c_3 : Nat} {r : Timpl_Stats × Int × (List Timpl_checkpoint)} (H : impl_history p0 p1 p2 p3 p4 = some r) (HS : St w M0 [] w) (g0 : (eTimpl_Schema).rd w M0 p0 cs0) (g2 : (eTimpl_Tree).rd w M0 p2 cs2) (g3 : (eList (eTimpl_Entry) 144).rd w M0 p3 [.slice a_3 n_3 c_3]) :
    Calls Tryz.prog 83 #[.agg cs0.toArray, .agg #[.int .i64 p1.Sure_, .int .i64 p1.Tie_, .int .i64 p1.Grace_, .int .i64 p1.Depth_, .int .i64 p1.Nodes_, .int .i64 p1.Units_, .bool p1.Two_], .agg cs2.toArray, .slice a_3 n_3 c_3, .int .i64 p4] w (fun en w' => ∃ v, en = .returned v ∧ ∃ (a0 : Option Addr), ∃ (n0 : Nat), ∃ (c0 : Nat), ∃ (F0 : List Nat), ∃ (a1 : Option Addr), ∃ (n1 : Nat), ∃ (c1 : Nat), ∃ (F1 : List Nat), ∃ (a2 : Option Addr), ∃ (n2 : Nat), ∃ (c2 : Nat), ∃ (F2 : List Nat), v = .tuple #[.agg #[.slice a0 n0 c0, .slice a1 n1 c1], .int .i64 r.2.1, .slice a2 n2 c2] ∧ St w M0 [Res.own (eList (eVal (Value.int .i64) (fun _ => rfl)) 3) F0 r.1.Totals_ [.slice a0 n0 c0], Res.own (eList (eList (eVal (Value.int .i64) (fun _ => rfl)) 3) 59) F1 r.1.Cells_ [.slice a1 n1 c1], Res.own (eList (eTimpl_checkpoint) 204) F2 r.2.2 [.slice a2 n2 c2]] w') := by
 obtain ⟨c10, c11, rfl, g12, g13⟩ := rdo_Timpl_Schema g0
 obtain ⟨a14, c15, rfl⟩ := rd_sl1 g12
 obtain ⟨a16, c17, rfl⟩ := rd_sl1 g13
 obtain ⟨c18, c19, rfl, g20, g21⟩ := rdo_Timpl_Tree g2
 obtain ⟨a22, c23, rfl⟩ := rd_sl1 g20
 obtain rfl : c19 = [.int .i64 p2.Seen_] := g21
 obtain rfl := rd_n g3
 unfold impl_history at H
 refine f_enter (vs := [.agg #[.slice a14 p0.Attrs_.length c15, .slice a16 p0.Classes_.length c17], .agg #[.int .i64 p1.Sure_, .int .i64 p1.Tie_, .int .i64 p1.Grace_, .int .i64 p1.Depth_, .int .i64 p1.Nodes_, .int .i64 p1.Units_, .bool p1.Two_], .agg #[.slice a22 p2.Nodes_.length c23, .int .i64 p2.Seen_], .slice a_3 p3.length c_3, .int .i64 p4]) Tryz.func83 rfl Tryz.ntmps83 rfl (HS) <| c_seq <| c_reg <| ob [.slice a14 p0.Attrs_.length c15, .slice a16 p0.Classes_.length c17] rfl fun b24 => ob [.int .i64 p1.Sure_, .int .i64 p1.Tie_, .int .i64 p1.Grace_, .int .i64 p1.Depth_, .int .i64 p1.Nodes_, .int .i64 p1.Units_, .bool p1.Two_] rfl fun b25 => ob [.slice a22 p2.Nodes_.length c23, .int .i64 p2.Seen_] rfl fun b26 => ow_alloc rfl rfl rfl rfl ty62 (fun _ => kp) fun b27 => ow_batch [.p, .p] rfl <| ow_nil <| x_qs <| c_seq <| c_reg <| o1 rfl (rx 0 0 [.slice a14 p0.Attrs_.length c15, .slice a16 p0.Classes_.length c17] rfl ty35 rfl) <| bE H fun y28 h29 H => ow_callS rfl fn151 rfl rfl rfl rfl (fun w1 hw1 => impl_StatsNew_ok w1 (cs0 := [.slice a14 p0.Attrs_.length c15, .slice a16 p0.Classes_.length c17]) h29 (hw1.carve [] rfl rfl) (rdm_Timpl_Schema (x := p0) (c0 := [.slice a14 p0.Attrs_.length c15]) (c1 := [.slice a16 p0.Classes_.length c17]) (rds_bor g12 w1 hw1) (rds_bor g13 w1 hw1))) fun v30 w1 w2 hw1 hR32 => ?_
 obtain ⟨a33, n34, c35, F36, a37, n38, c39, F40, rfl, hS31⟩ := hR32
 obtain rfl := own_nS (i := 0) hS31 rfl
 obtain rfl := own_nS (i := 1) hS31 rfl
 refine ⟨St w M0 [_, _, _, _, _, _], hw1.comp [] rfl rfl hS31, fun _ _ => trivial, ?_⟩
 refine ow_alloc rfl rfl rfl rfl ty62 (fun _ => kp) fun b41 => sC 0 [.slice a33 y28.Totals_.length c35, .slice a37 y28.Cells_.length c39] [_, _] 6 rfl ty62 rfl <| ow_nil <| x_qs <| c_seq <| c_reg <| ow_batch [.p] rfl <| ow_nil <| x_qs <| c_seq <| c_reg <| ow_blit0 (e := eTimpl_checkpoint) rfl rfl rfl rfl sl146 ty204 (fun _ => kp) fun b42 => ow_batch [.p] rfl <| ow_nil <| x_qs <| c_seq <| c_seq <| c_reg <| o1 rfl (rx 0 0 [.slice a14 p0.Attrs_.length c15, .slice a16 p0.Classes_.length c17] rfl ty35 rfl) <| o1 rfl (rx 0 2 [.slice a22 p2.Nodes_.length c23, .int .i64 p2.Seen_] rfl ty39 rfl) <| ow_batch [.p, .p] rfl <| bE H fun y43 h44 H => ow_callS rfl fn152 rfl rfl rfl rfl (fun w1 hw1 => impl_ownEntries_ok w1 (cs0 := [.slice a14 p0.Attrs_.length c15, .slice a16 p0.Classes_.length c17]) (cs1 := [.slice a22 p2.Nodes_.length c23, .int .i64 p2.Seen_]) h44 (hw1.carve [] rfl rfl) (rdm_Timpl_Schema (x := p0) (c0 := [.slice a14 p0.Attrs_.length c15]) (c1 := [.slice a16 p0.Classes_.length c17]) (rds_bor g12 w1 hw1) (rds_bor g13 w1 hw1)) (rdm_Timpl_Tree (x := p2) (c0 := [.slice a22 p2.Nodes_.length c23]) (c1 := [.int .i64 p2.Seen_]) (rds_bor g20 w1 hw1) rfl) (rds_bor g3 w1 hw1)) fun v45 w1 w2 hw1 hR47 => ?_
 obtain ⟨a48, n49, c50, F51, rfl, hS46⟩ := hR47
 obtain rfl := own_nS (i := 0) hS46 rfl
 refine ⟨St w M0 [_, _, _, _, _, _, _, _, _], hw1.comp [] rfl rfl hS46, fun _ _ => trivial, ?_⟩
 refine ow_batch [.lenS 59 3 sl59, .p] rfl <| ow_nil <| x_qs <| c_block <| CW.at (loopI14 (fun (l180 : List Int) (a181 : Option Addr) (c182 : Nat) (F183 : List Nat) (l184 : List (List Int)) (a185 : Option Addr) (c186 : Nat) (F187 : List Nat) (i188 : Int) (l189 : List Timpl_checkpoint) (a190 : Option Addr) (c191 : Nat) (F192 : List Nat) (i193 : Int) => St w M0 [Res.box b27 62 [.slice none 0 0, .slice none 0 0], Res.box b41 62 [.slice a181 l180.length c182, .slice a185 l184.length c186], Res.own (eList (eVal (Value.int .i64) (fun _ => rfl)) 3) F183 l180 [.slice a181 l180.length c182], Res.own (eList (eList (eVal (Value.int .i64) (fun _ => rfl)) 3) 59) F187 l184 [.slice a185 l184.length c186], Res.own (eList (eTimpl_checkpoint) 204) F192 l189 [.slice a190 l189.length c191], Res.own (eList (eVal (Value.int .i64) (fun _ => rfl)) 3) F51 y43 [.slice a48 y43.length c50], Res.box b24 35 [.slice a14 p0.Attrs_.length c15, .slice a16 p0.Classes_.length c17], Res.box b25 53 [.int .i64 p1.Sure_, .int .i64 p1.Tie_, .int .i64 p1.Grace_, .int .i64 p1.Depth_, .int .i64 p1.Nodes_, .int .i64 p1.Units_, .bool p1.Two_]]) (fun (l180 : List Int) (a181 : Option Addr) (c182 : Nat) (F183 : List Nat) (l184 : List (List Int)) (a185 : Option Addr) (c186 : Nat) (F187 : List Nat) (i188 : Int) (l189 : List Timpl_checkpoint) (a190 : Option Addr) (c191 : Nat) (F192 : List Nat) (i193 : Int) => [(3, .slice a_3 p3.length c_3), (5, .pointer (some ⟨b24, 0, none⟩)), (6, .pointer (some ⟨b25, 0, none⟩)), (10, .pointer (some ⟨b27, 0, none⟩)), (13, .pointer (some ⟨b41, 0, none⟩)), (14, .int .i64 i188), (15, .slice a190 l189.length c191), (25, .slice a48 y43.length c50), (26, .int .i64 (y43.length : Int)), (27, .int .i64 i193)]) (fun kk => fun (l180 : List Int) (a181 : Option Addr) (c182 : Nat) (F183 : List Nat) (l184 : List (List Int)) (a185 : Option Addr) (c186 : Nat) (F187 : List Nat) (i188 : Int) (l189 : List Timpl_checkpoint) (a190 : Option Addr) (c191 : Nat) (F192 : List Nat) (i193 : Int) => impl_history_L1 y43 p3 p0 p1 kk l180 l184 i188 l189 i193 = some r) (fun _ _ _ _ _ _ _ _ _ _ _ _ _ _ H => ?_) (fun k1 ihk1 l180 a181 c182 F183 l184 a185 c186 F187 i188 l189 a190 c191 F192 i193 H => ?_) Fuel (y28.Totals_) (a33) (c35) (F36) (y28.Cells_) (a37) (c39) (F40) (0) (([] : List Timpl_checkpoint)) ((some ⟨b42, 0, none⟩)) (0) ([b42]) (0) (H)) (fun _ h => St.sel [3, 6, 4, 5, 7, 8, 0, 1] rfl rfl h) ⟨rfl, rfl, rfl, rfl, rfl, rfl, rfl, rfl, rfl, rfl,  trivial⟩
 ·unfold impl_history_L1 at H
  exact absurd H (by simp)
 ·unfold impl_history_L1 at H
  refine c_seq <| c_reg <| ow_batch [.p] rfl <| ow_nil <| x_qs <| c_seq <| cI H rfl (fun H => ?_) (fun H => ?_)
  ·refine c_skip <| x_qs <| c_seq <| c_block <| c_seq <| c_reg <| bE H fun e322 h323 H => ow_ixE (e := eVal (Value.int .i64) (fun _ => rfl)) (xs := y43) (j := i193) rfl rfl rfl rfl rfl sl59 ty3 rfl (fun w1 hw1 => rds_own (e := eList (eVal (Value.int .i64) (fun _ => rfl)) 3) (r := 5) rfl w1 hw1) h323 (by rw [Nat.mul_one]) <| o1 rfl (ry_load1 rfl rfl ty3 (at_elV (fun w1 hw1 => rds_own (e := eList (eVal (Value.int .i64) (fun _ => rfl)) 3) (r := 5) rfl w1 hw1) h323)) <| ow_batch [.p] rfl <| ow_nil <| x_qs <| c_seq <| bE H fun e369 h370 H => bE H fun e385 h386 H => bE H fun y401 h402 H => c_regB0 [(0, true), (2, true), (3, true), (4, true), (5, true), (6, true), (7, true), (8, true), (9, true), (10, true), (11, true), (1, false), (12, false), (13, true), (14, true), (15, true), (16, false)] Br.done (St w M0 [Res.box b27 62 [.slice none 0 0, .slice none 0 0], Res.nil, Res.own (eList (eVal (Value.int .i64) (fun _ => rfl)) 3) F183 l180 [.slice a181 l180.length c182], Res.own (eList (eList (eVal (Value.int .i64) (fun _ => rfl)) 3) 59) F187 l184 [.slice a185 l184.length c186], Res.own (eList (eTimpl_checkpoint) 204) F192 l189 [.slice a190 l189.length c191], Res.own (eList (eVal (Value.int .i64) (fun _ => rfl)) 3) F51 y43 [.slice a48 y43.length c50], Res.box b24 35 [.slice a14 p0.Attrs_.length c15, .slice a16 p0.Classes_.length c17], Res.box b25 53 [.int .i64 p1.Sure_, .int .i64 p1.Tie_, .int .i64 p1.Grace_, .int .i64 p1.Depth_, .int .i64 p1.Nodes_, .int .i64 p1.Units_, .bool p1.Two_]]) mixed (by kernel_rfl) (panicOk_qs (panicOk_qb (panicOk_qs (panicOk_ql (panicOk_qb (panicOk_qs panicOk_body)))))) (fun _ h => St.mask [true, false, true, true, true, true, true, true] rfl h) <| ow_rH rfl (dstOk_lt rfl) (rx 0 6 [.slice a14 p0.Attrs_.length c15, .slice a16 p0.Classes_.length c17] rfl ty35 rfl) <| ow_batch [.p, .p] rfl <| ow_ixB rfl rfl rfl rfl rfl sl55 ty144 rfl g3 h370 fun q373 c374 hd371 hA372 => ?_
   obtain ⟨c375, c376, rfl, g377, g378⟩ := rdo_Timpl_Entry hd371
   obtain ⟨c379, c380, rfl, g381, g382⟩ := rdo_Timpl_Ex g377
   obtain ⟨a383, c384, rfl⟩ := rd_sl1 g381
   obtain rfl : c380 = [.int .i64 e369.Ex_.Class_] := g382
   obtain rfl : c376 = [.int .i64 e369.Weight_] := g378
   refine ow_batch [.fa 144 0 0 fa144_0] rfl <| ow_rH rfl (dstOk_lt rfl) (ry_load (cs := [.slice a383 e369.Ex_.Bins_.length c384, .int .i64 e369.Ex_.Class_]) rfl rfl ty142 (at_bor (fun _ h => h.ext) (at_K hA372 0 2)) rfl) <| ow_batch [.p, .p] rfl <| ow_ixB rfl rfl rfl rfl rfl sl55 ty144 rfl g3 h386 fun q389 c390 hd387 hA388 => ?_
   obtain ⟨c391, c392, rfl, g393, g394⟩ := rdo_Timpl_Entry hd387
   obtain ⟨c395, c396, rfl, g397, g398⟩ := rdo_Timpl_Ex g393
   obtain ⟨a399, c400, rfl⟩ := rd_sl1 g397
   obtain rfl : c396 = [.int .i64 e385.Ex_.Class_] := g398
   obtain rfl : c392 = [.int .i64 e385.Weight_] := g394
   refine ow_batch [.fa 144 1 2 fa144_1] rfl <| ow_rH rfl (dstOk_lt rfl) (ry_load1 rfl rfl ty3 (at_bor (fun _ h => h.ext) (at_K hA388 2 1))) <| ow_rL rfl rfl (dstOk_lt rfl) (rx 0 1 [.slice a181 l180.length c182, .slice a185 l184.length c186] rfl ty62 rfl) <| ow_callS rfl fn153 rfl rfl rfl rfl (fun w1 hw1 => impl_StatsAdd_ok w1 (cs0 := [.slice a14 p0.Attrs_.length c15, .slice a16 p0.Classes_.length c17]) (cs1 := [.slice a181 l180.length c182, .slice a185 l184.length c186]) (cs2 := [.slice a383 e369.Ex_.Bins_.length c384, .int .i64 e369.Ex_.Class_]) h402 (hw1.carve [] rfl rfl) (rdm_Timpl_Schema (x := p0) (c0 := [.slice a14 p0.Attrs_.length c15]) (c1 := [.slice a16 p0.Classes_.length c17]) (rds_bor g12 w1 hw1) (rds_bor g13 w1 hw1)) (rdm_Timpl_Stats (x := (Timpl_Stats.mk l180 l184)) (c0 := [.slice a181 l180.length c182]) (c1 := [.slice a185 l184.length c186]) (rds_own (e := eList (eVal (Value.int .i64) (fun _ => rfl)) 3) (r := 2) rfl w1 hw1) (rds_own (e := eList (eList (eVal (Value.int .i64) (fun _ => rfl)) 3) 59) (r := 3) rfl w1 hw1)) (rdm_Timpl_Ex (x := e369.Ex_) (c0 := [.slice a383 e369.Ex_.Bins_.length c384]) (c1 := [.int .i64 e369.Ex_.Class_]) (rds_bor g381 w1 hw1) rfl)) fun v403 w1 w2 hw1 hR405 => ?_
   obtain ⟨a406, n407, c408, F409, a410, n411, c412, F413, rfl, hS404⟩ := hR405
   obtain rfl := own_nS (i := 0) hS404 rfl
   obtain rfl := own_nS (i := 1) hS404 rfl
   refine ⟨St w M0 [_, _, _, _, _, _, _, _, _, _], hw1.comp [] rfl rfl hS404, (fun _ h => St.mask [true, false, true, true, true, true, true, true] rfl h), ?_⟩
   refine ow_batch [.p, .p, .p] rfl <| ow_storeC (off := 0) [.slice a406 y401.1.Totals_.length c408, .slice a410 y401.1.Cells_.length c412] [_, _] (i := 1) rfl rfl rfl rfl rfl rfl ty62 rfl rfl (by intro u hu; simp only [List.mem_cons, List.not_mem_nil, or_false] at hu; rcases hu with rfl | rfl <;> rfl) rfl rfl rfl (fun _ h => St.mask [true, false, true, true, true, true, true, true] rfl h) <| ow_nilH <| x_done0 <| x_qs <| c_seq <| c_reg <| ow_batch [.p, .p, .p] rfl <| bE H fun e414 h415 H => ow_ixB rfl rfl rfl rfl rfl sl55 ty144 rfl g3 h415 fun q418 c419 hd416 hA417 => ?_
   obtain ⟨c420, c421, rfl, g422, g423⟩ := rdo_Timpl_Entry hd416
   obtain ⟨c424, c425, rfl, g426, g427⟩ := rdo_Timpl_Ex g422
   obtain ⟨a428, c429, rfl⟩ := rd_sl1 g426
   obtain rfl : c425 = [.int .i64 e414.Ex_.Class_] := g427
   obtain rfl : c421 = [.int .i64 e414.Weight_] := g423
   refine ow_batch [.fa 144 1 2 fa144_1] rfl <| o1 rfl (ry_load1 rfl rfl ty3 (at_bor bor (at_K hA417 2 1))) <| ow_batch [.p, .p] rfl <| ow_nil <| x_qs <| c_seq <| c_reg <| ow_batch [.p, .fa 53 2 2 fa53_2] rfl <| o1 rfl (r1 2 7 rfl ty3 rfl) <| ow_batch [.p] rfl <| ow_nil <| x_qs <| cI H rfl (fun H => ?_) (fun H => ?_)
   ·refine c_seq <| c_reg <| ow_batch [.p] rfl <| ow_nil <| x_qs <| c_reg <| ow_batch [.p, .p] rfl <| o1 rfl (rx 0 1 [.slice a406 y401.1.Totals_.length c408, .slice a410 y401.1.Cells_.length c412] rfl ty62 rfl) <| o1 rfl (ry_build2 [(0, [.int .i64 e322]), (1, [.slice a406 y401.1.Totals_.length c408, .slice a410 y401.1.Cells_.length c412])] [.int .i64 e322, .slice a406 y401.1.Totals_.length c408, .slice a410 y401.1.Cells_.length c412] rfl rfl ty204 fs204 rfl ⟨rfl, rfl, Nat.le_of_ble_eq_true rfl, rfl, rfl, Nat.le_of_ble_eq_true rfl,  trivial⟩ rfl) <| ow_st rfl (fun _ h => St.push0 h (Res.own (eTimpl_checkpoint) [] (Timpl_checkpoint.mk e322) [.int .i64 e322, .slice a406 y401.1.Totals_.length c408, .slice a410 y401.1.Cells_.length c412]) rfl ⟨rfl, [.slice a406 y401.1.Totals_.length c408, .slice a410 y401.1.Cells_.length c412], rfl, rfl, (by intro u hu; simp only [List.mem_cons, List.not_mem_nil, or_false] at hu; rcases hu with rfl | rfl <;> rfl)⟩) <| ow_bslice [(0, [.int .i64 e322, .slice a406 y401.1.Totals_.length c408, .slice a410 y401.1.Cells_.length c412])] rfl rfl rfl rfl rfl sl146 ty204 rfl rfl ⟨rfl, rfl, Nat.le_of_ble_eq_true rfl,  trivial⟩ [.int .i64 e322, .slice a406 y401.1.Totals_.length c408, .slice a410 y401.1.Cells_.length c412] rfl (fun _ => kp) fun b430 => ow_st rfl (fun _ h => lit1 (p := 11) (q := 10) h rfl rfl rfl) <| bE H fun l431 h432 H => ow_appM (r := 4) (j := 12) rfl rfl rfl rfl rfl rfl sl146 ty204 rfl rfl rfl rfl rfl rfl rfl h432 (fun _ _ _ => kp) fun a433 c434 F435 => ow_batch [.p] rfl <| ow_nil <| x_qb <| x_qs <| CW.weak (C' := St w M0 [_, _, _, _, _, _, _, _, _, _]) ?_ (fun _ h => St.sel [0, 1, 2, 3, 5, 6, 7, 8, 9, 13] rfl rfl h)
    exact c_reg <| ow_batch [.p, .p] rfl <| ow_nil <| x_ql (RW.at (ihk1 (y401.1.Totals_) (a406) (c408) (F409) (y401.1.Cells_) (a410) (c412) (F413) (0) (l431) (a433) (c434) (F435) (IntKind.i64.wrap (i193 + 1)) (H)) (fun _ h => St.sel [0, 1, 7, 8, 9, 4, 5, 6] rfl rfl h) ⟨rfl, rfl, rfl, rfl, rfl, rfl, rfl, rfl, rfl, rfl, trivial⟩)
   ·exact c_skip <| x_qb <| x_qs <| c_reg <| ow_batch [.p, .p] rfl <| ow_nil <| x_ql (RW.at (ihk1 (y401.1.Totals_) (a406) (c408) (F409) (y401.1.Cells_) (a410) (c412) (F413) (IntKind.i64.wrap (i188 + e414.Weight_)) (l189) (a190) (c191) (F192) (IntKind.i64.wrap (i193 + 1)) (H)) (fun _ h => St.sel [0, 1, 8, 9, 4, 5, 6, 7] rfl rfl h) ⟨rfl, rfl, rfl, rfl, rfl, rfl, rfl, rfl, rfl, rfl, trivial⟩)
  ·exact c_exit <| x_qs_exit <| x_ql_exit <| x_qb_here <| x_qs <| c_seq <| c_reg <| o1 rfl (rx 0 1 [.slice a181 l180.length c182, .slice a185 l184.length c186] rfl ty62 rfl) <| ow_batch [.p, .p] rfl <| sC 0 [.slice a181 l180.length c182, .slice a185 l184.length c186] [_, _] 0 rfl ty62 rfl <| ow_batch [.p, .p] rfl <| ow_nil <| x_qs <| c_ret <| x_retR (rs := [.cell 10 62, .tmp 11, .tmp 12]) (vs := [.agg #[.slice a181 l180.length c182, .slice a185 l184.length c186], .int .i64 i188, .slice a190 l189.length c191]) rfl ⟨⟨_, [.slice a181 l180.length c182, .slice a185 l184.length c186], _, _, _, rfl, ty62, (at_box (T := 62) 0 (boxIn (i := 0) rfl) rfl), rfl, rfl⟩, rfl, rfl, trivial⟩ (fun w' hw' => by
    obtain rfl := of_some H
    exact ⟨_, rfl, a181, l180.length, c182, F183, a185, l184.length, c186, F187, a190, l189.length, c191, F192, rfl, hw'.sel [2, 3, 4] rfl rfl⟩)
theorem laws_eqIntS_ok (w : World) {p0 : List Int} {p1 : List Int} {a_0 : Option Addr} {n_0 c_0 : Nat} {a_1 : Option Addr} {n_1 c_1 : Nat} {r : Bool} (H : laws_eqIntS p0 p1 = some r)  (g0 : (eList (eVal (Value.int .i64) (fun _ => rfl)) 3).rd w [] p0 [.slice a_0 n_0 c_0]) (g1 : (eList (eVal (Value.int .i64) (fun _ => rfl)) 3).rd w [] p1 [.slice a_1 n_1 c_1]) :
    Calls Tryz.prog 92 #[.slice a_0 n_0 c_0, .slice a_1 n_1 c_1] w (fun en w' => en = .returned (.bool r) ∧ Ext [] w w') := by
 obtain rfl := rd_n g0
 obtain rfl := rd_n g1
 unfold laws_eqIntS at H
 refine f_enter (vs := [.slice a_0 p0.length c_0, .slice a_1 p1.length c_1]) Tryz.func92 rfl Tryz.ntmps92 rfl (St.init w []) <| c_seq <| c_reg <| ow_batch [.p] rfl <| ow_nil <| x_qs <| c_seq <| c_seq <| c_reg <| ow_batch [.p, .lenS 59 3 sl59, .p, .lenS 59 3 sl59, .p] rfl <| ow_nil <| x_qs <| cI H rfl (fun H => ?_) (fun H => ?_)
 ·exact c_seq <| c_reg <| ow_batch [.p] rfl <| ow_nil <| x_qs <| c_ret <| x_qs_ret <| xr 4 rfl (by cases H; exact q1)
 ·refine c_skip <| x_qs <| c_seq <| c_seq <| c_reg <| ow_batch [.p] rfl <| ow_nil <| x_qs <| c_block <| CW.at (loopI1 (fun (i15 : Int) => St w [] []) (fun (i15 : Int) => [(0, .slice a_0 p0.length c_0), (1, .slice a_1 p1.length c_1), (5, .int .i64 i15)]) (fun kk => fun (i15 : Int) => laws_eqIntS_L1 p0 p1 kk i15 = some r) (fun _ H => ?_) (fun k1 ihk1 i15 H => ?_) Fuel (0) (H)) (fun _ h => St.sel [] rfl rfl h) ⟨rfl, rfl, rfl,  trivial⟩
  ·unfold laws_eqIntS_L1 at H
   exact absurd H (by simp)
  ·unfold laws_eqIntS_L1 at H
   refine c_seq <| c_seq <| c_reg <| ow_batch [.p, .p, .lenS 59 3 sl59, .p] rfl <| ow_nil <| x_qs <| cI H rfl (fun H => ?_) (fun H => ?_)
   ·refine c_skip <| x_qs <| c_seq <| c_block <| c_seq <| c_regQ mixed (by kernel_rfl) <| ow_batch [.p, .p] rfl <| bE H fun e21 h22 H => ow_ixE (e := eVal (Value.int .i64) (fun _ => rfl)) (xs := p0) (j := i15) rfl rfl rfl rfl rfl sl59 ty3 rfl (fun w1 hw1 => rds_bor g0 w1 hw1) h22 (by rw [Nat.mul_one]) <| o1 rfl (ry_load1 rfl rfl ty3 (at_elV (fun w1 hw1 => rds_bor g0 w1 hw1) h22)) <| ow_batch [.p, .p] rfl <| bE H fun e23 h24 H => ow_ixE (e := eVal (Value.int .i64) (fun _ => rfl)) (xs := p1) (j := i15) rfl rfl rfl rfl rfl sl59 ty3 rfl (fun w1 hw1 => rds_bor g1 w1 hw1) h24 (by rw [Nat.mul_one]) <| o1 rfl (ry_load1 rfl rfl ty3 (at_elV (fun w1 hw1 => rds_bor g1 w1 hw1) h24)) <| ow_batch [.p] rfl <| ow_nilQ <| x_qs <| cI H rfl (fun H => ?_) (fun H => ?_)
    ·exact c_seq <| c_reg <| ow_batch [.p] rfl <| ow_nil <| x_qs <| c_ret <| x_qb_ret <| x_qs_ret <| x_ql_ret <| x_qb_ret <| x_qs_ret <| xr 4 rfl (by cases H; exact q1)
    ·exact c_skip <| x_qb <| x_qs <| c_reg <| ow_batch [.p, .p, .p] rfl <| ow_nil <| x_ql (RW.at (ihk1 (IntKind.i64.wrap (i15 + 1)) (H)) (fun _ h => St.sel [] rfl rfl h) ⟨rfl, rfl, rfl, trivial⟩)
   ·exact c_exit <| x_qs_exit <| x_ql_exit <| x_qb_here <| x_qs <| c_seq <| c_reg <| ow_batch [.p] rfl <| ow_nil <| x_qs <| c_ret <| xr 4 rfl (by cases H; exact q1)
theorem laws_eqStringS_ok (w : World) {p0 : List (List UInt8)} {p1 : List (List UInt8)} {a_0 : Option Addr} {n_0 c_0 : Nat} {a_1 : Option Addr} {n_1 c_1 : Nat} {r : Bool} (H : laws_eqStringS p0 p1 = some r)  (g0 : (eList (eStr) 9).rd w [] p0 [.slice a_0 n_0 c_0]) (g1 : (eList (eStr) 9).rd w [] p1 [.slice a_1 n_1 c_1]) :
    Calls Tryz.prog 66 #[.slice a_0 n_0 c_0, .slice a_1 n_1 c_1] w (fun en w' => en = .returned (.bool r) ∧ Ext [] w w') := by
 obtain rfl := rd_n g0
 obtain rfl := rd_n g1
 unfold laws_eqStringS at H
 refine f_enter (vs := [.slice a_0 p0.length c_0, .slice a_1 p1.length c_1]) Tryz.func66 rfl Tryz.ntmps66 rfl (St.init w []) <| c_seq <| c_reg <| ow_batch [.p] rfl <| ow_nil <| x_qs <| c_seq <| c_seq <| c_reg <| ow_batch [.p, .lenS 23 9 sl23, .p, .lenS 23 9 sl23, .p] rfl <| ow_nil <| x_qs <| cI H rfl (fun H => ?_) (fun H => ?_)
 ·exact c_seq <| c_reg <| ow_batch [.p] rfl <| ow_nil <| x_qs <| c_ret <| x_qs_ret <| xr 4 rfl (by cases H; exact q1)
 ·refine c_skip <| x_qs <| c_seq <| c_seq <| c_reg <| ow_batch [.p] rfl <| ow_nil <| x_qs <| c_block <| CW.at (loopI1 (fun (i15 : Int) => St w [] []) (fun (i15 : Int) => [(0, .slice a_0 p0.length c_0), (1, .slice a_1 p1.length c_1), (5, .int .i64 i15)]) (fun kk => fun (i15 : Int) => laws_eqStringS_L1 p0 p1 kk i15 = some r) (fun _ H => ?_) (fun k1 ihk1 i15 H => ?_) Fuel (0) (H)) (fun _ h => St.sel [] rfl rfl h) ⟨rfl, rfl, rfl,  trivial⟩
  ·unfold laws_eqStringS_L1 at H
   exact absurd H (by simp)
  ·unfold laws_eqStringS_L1 at H
   refine c_seq <| c_seq <| c_reg <| ow_batch [.p, .p, .lenS 23 9 sl23, .p] rfl <| ow_nil <| x_qs <| cI H rfl (fun H => ?_) (fun H => ?_)
   ·refine c_skip <| x_qs <| c_seq <| c_block <| c_seq <| c_regQ mixed (by kernel_rfl) <| ow_batch [.p, .p] rfl <| bE H fun e21 h22 H => ow_ixE (e := eStr) (xs := p0) (j := i15) rfl rfl rfl rfl rfl sl23 ty9 rfl (fun w1 hw1 => rds_bor g0 w1 hw1) h22 (by rw [Nat.mul_one]) <| o1 rfl (ry_load1 rfl rfl ty9 (at_elV (fun w1 hw1 => rds_bor g0 w1 hw1) h22)) <| ow_batch [.p, .p] rfl <| bE H fun e23 h24 H => ow_ixE (e := eStr) (xs := p1) (j := i15) rfl rfl rfl rfl rfl sl23 ty9 rfl (fun w1 hw1 => rds_bor g1 w1 hw1) h24 (by rw [Nat.mul_one]) <| o1 rfl (ry_load1 rfl rfl ty9 (at_elV (fun w1 hw1 => rds_bor g1 w1 hw1) h24)) <| ow_batch [.p] rfl <| ow_nilQ <| x_qs <| cI H rfl (fun H => ?_) (fun H => ?_)
    ·exact c_seq <| c_reg <| ow_batch [.p] rfl <| ow_nil <| x_qs <| c_ret <| x_qb_ret <| x_qs_ret <| x_ql_ret <| x_qb_ret <| x_qs_ret <| xr 4 rfl (by cases H; exact q1)
    ·exact c_skip <| x_qb <| x_qs <| c_reg <| ow_batch [.p, .p, .p] rfl <| ow_nil <| x_ql (RW.at (ihk1 (IntKind.i64.wrap (i15 + 1)) (H)) (fun _ h => St.sel [] rfl rfl h) ⟨rfl, rfl, rfl, trivial⟩)
   ·exact c_exit <| x_qs_exit <| x_ql_exit <| x_qb_here <| x_qs <| c_seq <| c_reg <| ow_batch [.p] rfl <| ow_nil <| x_qs <| c_ret <| xr 4 rfl (by cases H; exact q1)
theorem laws_eqAttr_ok (w : World) {p0 : Timpl_Attr} {p1 : Timpl_Attr} {cs0 : List Value} {cs1 : List Value} {r : Bool} (H : laws_eqAttr p0 p1 = some r)  (g0 : (eTimpl_Attr).rd w [] p0 cs0) (g1 : (eTimpl_Attr).rd w [] p1 cs1) :
    Calls Tryz.prog 140 #[.agg cs0.toArray, .agg cs1.toArray] w (fun en w' => en = .returned (.bool r) ∧ Ext [] w w') := by
 obtain ⟨c10, c11, c12, rfl, g13, g14, g15⟩ := rdo_Timpl_Attr g0
 obtain rfl : c10 = [vS p0.Name_] := g13
 obtain ⟨a16, c17, rfl⟩ := rd_sl1 g14
 obtain ⟨a18, c19, rfl⟩ := rd_sl1 g15
 obtain ⟨c20, c21, c22, rfl, g23, g24, g25⟩ := rdo_Timpl_Attr g1
 obtain rfl : c20 = [vS p1.Name_] := g23
 obtain ⟨a26, c27, rfl⟩ := rd_sl1 g24
 obtain ⟨a28, c29, rfl⟩ := rd_sl1 g25
 unfold laws_eqAttr at H
 refine f_enter (vs := [.agg #[vS p0.Name_, .slice a16 p0.Cuts_.length c17, .slice a18 p0.Values_.length c19], .agg #[vS p1.Name_, .slice a26 p1.Cuts_.length c27, .slice a28 p1.Values_.length c29]]) Tryz.func140 rfl Tryz.ntmps140 rfl (St.init w []) <| c_seq <| c_reg <| ob [vS p0.Name_, .slice a16 p0.Cuts_.length c17, .slice a18 p0.Values_.length c19] rfl fun b30 => ob [vS p1.Name_, .slice a26 p1.Cuts_.length c27, .slice a28 p1.Values_.length c29] rfl fun b31 => ow_batch [.p] rfl <| ow_nil <| x_qs <| c_seq <| c_seq <| c_reg <| ow_batch [.fa 114 0 0 fa114_0] rfl <| o1 rfl (r1 0 0 rfl ty9 rfl) <| ow_batch [.fa 114 0 0 fa114_0] rfl <| o1 rfl (r1 0 1 rfl ty9 rfl) <| ow_batch [.p] rfl <| ow_nil <| x_qs <| cI H rfl (fun H => ?_) (fun H => ?_)
 ·exact c_seq <| c_reg <| ow_batch [.p] rfl <| ow_nil <| x_qs <| c_ret <| x_qs_ret <| xr 4 rfl (by cases H; exact q1)
 ·refine c_skip <| x_qs <| c_seq <| c_seq <| c_reg <| ow_batch [.fa 114 1 1 fa114_1] rfl <| o1 rfl (r1 1 0 rfl ty59 rfl) <| ow_batch [.fa 114 1 1 fa114_1] rfl <| o1 rfl (r1 1 1 rfl ty59 rfl) <| bE H fun y32 h33 H => oq rfl (qc rfl fn92 (fun w1 hw1 => laws_eqIntS_ok w1  h33 (rds_bor g14 w1 hw1) (rds_bor g24 w1 hw1))) tt2 <| ow_batch [.p] rfl <| ow_nil <| x_qs <| cI H rfl (fun H => ?_) (fun H => ?_)
  ·exact c_seq <| c_reg <| ow_batch [.p] rfl <| ow_nil <| x_qs <| c_ret <| x_qs_ret <| xr 4 rfl (by cases H; exact q1)
  ·refine c_skip <| x_qs <| c_seq <| c_seq <| c_reg <| ow_batch [.fa 114 2 2 fa114_2] rfl <| o1 rfl (r1 2 0 rfl ty23 rfl) <| ow_batch [.fa 114 2 2 fa114_2] rfl <| o1 rfl (r1 2 1 rfl ty23 rfl) <| bE H fun y34 h35 H => oq rfl (qc rfl fn66 (fun w1 hw1 => laws_eqStringS_ok w1  h35 (rds_bor g15 w1 hw1) (rds_bor g25 w1 hw1))) tt2 <| ow_batch [.p] rfl <| ow_nil <| x_qs <| cI H rfl (fun H => ?_) (fun H => ?_)
   ·exact c_seq <| c_reg <| ow_batch [.p] rfl <| ow_nil <| x_qs <| c_ret <| x_qs_ret <| xr 4 rfl (by cases H; exact q1)
   ·exact c_skip <| x_qs <| c_seq <| c_reg <| ow_batch [.p] rfl <| ow_nil <| x_qs <| c_ret <| xr 4 rfl (by cases H; exact q1)
theorem laws_eqAttrS_ok (w : World) {p0 : List Timpl_Attr} {p1 : List Timpl_Attr} {a_0 : Option Addr} {n_0 c_0 : Nat} {a_1 : Option Addr} {n_1 c_1 : Nat} {r : Bool} (H : laws_eqAttrS p0 p1 = some r)  (g0 : (eList (eTimpl_Attr) 114).rd w [] p0 [.slice a_0 n_0 c_0]) (g1 : (eList (eTimpl_Attr) 114).rd w [] p1 [.slice a_1 n_1 c_1]) :
    Calls Tryz.prog 65 #[.slice a_0 n_0 c_0, .slice a_1 n_1 c_1] w (fun en w' => en = .returned (.bool r) ∧ Ext [] w w') := by
 obtain rfl := rd_n g0
 obtain rfl := rd_n g1
 unfold laws_eqAttrS at H
 refine f_enter (vs := [.slice a_0 p0.length c_0, .slice a_1 p1.length c_1]) Tryz.func65 rfl Tryz.ntmps65 rfl (St.init w []) <| c_seq <| c_reg <| ow_batch [.p] rfl <| ow_nil <| x_qs <| c_seq <| c_seq <| c_reg <| ow_batch [.p, .lenS 33 114 sl33, .p, .lenS 33 114 sl33, .p] rfl <| ow_nil <| x_qs <| cI H rfl (fun H => ?_) (fun H => ?_)
 ·exact c_seq <| c_reg <| ow_batch [.p] rfl <| ow_nil <| x_qs <| c_ret <| x_qs_ret <| xr 4 rfl (by cases H; exact q1)
 ·refine c_skip <| x_qs <| c_seq <| c_seq <| c_reg <| ow_batch [.p] rfl <| ow_nil <| x_qs <| c_block <| CW.at (loopI1 (fun (i45 : Int) => St w [] []) (fun (i45 : Int) => [(0, .slice a_0 p0.length c_0), (1, .slice a_1 p1.length c_1), (5, .int .i64 i45)]) (fun kk => fun (i45 : Int) => laws_eqAttrS_L1 p0 p1 kk i45 = some r) (fun _ H => ?_) (fun k1 ihk1 i45 H => ?_) Fuel (0) (H)) (fun _ h => St.sel [] rfl rfl h) ⟨rfl, rfl, rfl,  trivial⟩
  ·unfold laws_eqAttrS_L1 at H
   exact absurd H (by simp)
  ·unfold laws_eqAttrS_L1 at H
   refine c_seq <| c_seq <| c_reg <| ow_batch [.p, .p, .lenS 33 114 sl33, .p] rfl <| ow_nil <| x_qs <| cI H rfl (fun H => ?_) (fun H => ?_)
   ·refine c_skip <| x_qs <| c_seq <| c_block <| c_seq <| c_regQ mixed (by kernel_rfl) <| ow_batch [.p, .p] rfl <| bE H fun e81 h82 H => ow_ixB rfl rfl rfl rfl rfl sl33 ty114 rfl g0 h82 fun q85 c86 hd83 hA84 => ?_
    obtain ⟨c87, c88, c89, rfl, g90, g91, g92⟩ := rdo_Timpl_Attr hd83
    obtain rfl : c87 = [vS e81.Name_] := g90
    obtain ⟨a93, c94, rfl⟩ := rd_sl1 g91
    obtain ⟨a95, c96, rfl⟩ := rd_sl1 g92
    refine o1 rfl (ry_load (cs := [vS e81.Name_, .slice a93 e81.Cuts_.length c94, .slice a95 e81.Values_.length c96]) rfl rfl ty114 (at_bor bor hA84) rfl) <| ow_batch [.p, .p] rfl <| bE H fun e97 h98 H => ow_ixB rfl rfl rfl rfl rfl sl33 ty114 rfl g1 h98 fun q101 c102 hd99 hA100 => ?_
    obtain ⟨c103, c104, c105, rfl, g106, g107, g108⟩ := rdo_Timpl_Attr hd99
    obtain rfl : c103 = [vS e97.Name_] := g106
    obtain ⟨a109, c110, rfl⟩ := rd_sl1 g107
    obtain ⟨a111, c112, rfl⟩ := rd_sl1 g108
    refine o1 rfl (ry_load (cs := [vS e97.Name_, .slice a109 e97.Cuts_.length c110, .slice a111 e97.Values_.length c112]) rfl rfl ty114 (at_bor bor hA100) rfl) <| bE H fun y113 h114 H => oq rfl (qc rfl fn140 (fun w1 hw1 => laws_eqAttr_ok w1 (cs0 := [vS e81.Name_, .slice a93 e81.Cuts_.length c94, .slice a95 e81.Values_.length c96]) (cs1 := [vS e97.Name_, .slice a109 e97.Cuts_.length c110, .slice a111 e97.Values_.length c112]) h114 (rdm_Timpl_Attr (x := e81) (c0 := [vS e81.Name_]) (c1 := [.slice a93 e81.Cuts_.length c94]) (c2 := [.slice a95 e81.Values_.length c96]) rfl (rds_bor g91 w1 hw1) (rds_bor g92 w1 hw1)) (rdm_Timpl_Attr (x := e97) (c0 := [vS e97.Name_]) (c1 := [.slice a109 e97.Cuts_.length c110]) (c2 := [.slice a111 e97.Values_.length c112]) rfl (rds_bor g107 w1 hw1) (rds_bor g108 w1 hw1)))) tt2 <| ow_batch [.p] rfl <| ow_nilQ <| x_qs <| cI H rfl (fun H => ?_) (fun H => ?_)
    ·exact c_seq <| c_reg <| ow_batch [.p] rfl <| ow_nil <| x_qs <| c_ret <| x_qb_ret <| x_qs_ret <| x_ql_ret <| x_qb_ret <| x_qs_ret <| xr 4 rfl (by cases H; exact q1)
    ·exact c_skip <| x_qb <| x_qs <| c_reg <| ow_batch [.p, .p, .p] rfl <| ow_nil <| x_ql (RW.at (ihk1 (IntKind.i64.wrap (i45 + 1)) (H)) (fun _ h => St.sel [] rfl rfl h) ⟨rfl, rfl, rfl, trivial⟩)
   ·exact c_exit <| x_qs_exit <| x_ql_exit <| x_qb_here <| x_qs <| c_seq <| c_reg <| ow_batch [.p] rfl <| ow_nil <| x_qs <| c_ret <| xr 4 rfl (by cases H; exact q1)
theorem laws_eqSchema_ok (w : World) {p0 : Timpl_Schema} {p1 : Timpl_Schema} {cs0 : List Value} {cs1 : List Value} {r : Bool} (H : laws_eqSchema p0 p1 = some r)  (g0 : (eTimpl_Schema).rd w [] p0 cs0) (g1 : (eTimpl_Schema).rd w [] p1 cs1) :
    Calls Tryz.prog 15 #[.agg cs0.toArray, .agg cs1.toArray] w (fun en w' => en = .returned (.bool r) ∧ Ext [] w w') := by
 obtain ⟨c10, c11, rfl, g12, g13⟩ := rdo_Timpl_Schema g0
 obtain ⟨a14, c15, rfl⟩ := rd_sl1 g12
 obtain ⟨a16, c17, rfl⟩ := rd_sl1 g13
 obtain ⟨c18, c19, rfl, g20, g21⟩ := rdo_Timpl_Schema g1
 obtain ⟨a22, c23, rfl⟩ := rd_sl1 g20
 obtain ⟨a24, c25, rfl⟩ := rd_sl1 g21
 unfold laws_eqSchema at H
 refine f_enter (vs := [.agg #[.slice a14 p0.Attrs_.length c15, .slice a16 p0.Classes_.length c17], .agg #[.slice a22 p1.Attrs_.length c23, .slice a24 p1.Classes_.length c25]]) Tryz.func15 rfl Tryz.ntmps15 rfl (St.init w []) <| c_seq <| c_reg <| ob [.slice a14 p0.Attrs_.length c15, .slice a16 p0.Classes_.length c17] rfl fun b26 => ob [.slice a22 p1.Attrs_.length c23, .slice a24 p1.Classes_.length c25] rfl fun b27 => ow_batch [.p] rfl <| ow_nil <| x_qs <| c_seq <| c_seq <| c_reg <| ow_batch [.fa 35 0 0 fa35_0] rfl <| o1 rfl (r1 0 0 rfl ty33 rfl) <| ow_batch [.fa 35 0 0 fa35_0] rfl <| o1 rfl (r1 0 1 rfl ty33 rfl) <| bE H fun y28 h29 H => oq rfl (qc rfl fn65 (fun w1 hw1 => laws_eqAttrS_ok w1  h29 (rds_bor g12 w1 hw1) (rds_bor g20 w1 hw1))) tt2 <| ow_batch [.p] rfl <| ow_nil <| x_qs <| cI H rfl (fun H => ?_) (fun H => ?_)
 ·exact c_seq <| c_reg <| ow_batch [.p] rfl <| ow_nil <| x_qs <| c_ret <| x_qs_ret <| xr 4 rfl (by cases H; exact q1)
 ·refine c_skip <| x_qs <| c_seq <| c_seq <| c_reg <| ow_batch [.fa 35 1 1 fa35_1] rfl <| o1 rfl (r1 1 0 rfl ty23 rfl) <| ow_batch [.fa 35 1 1 fa35_1] rfl <| o1 rfl (r1 1 1 rfl ty23 rfl) <| bE H fun y30 h31 H => oq rfl (qc rfl fn66 (fun w1 hw1 => laws_eqStringS_ok w1  h31 (rds_bor g13 w1 hw1) (rds_bor g21 w1 hw1))) tt2 <| ow_batch [.p] rfl <| ow_nil <| x_qs <| cI H rfl (fun H => ?_) (fun H => ?_)
  ·exact c_seq <| c_reg <| ow_batch [.p] rfl <| ow_nil <| x_qs <| c_ret <| x_qs_ret <| xr 4 rfl (by cases H; exact q1)
  ·exact c_skip <| x_qs <| c_seq <| c_reg <| ow_batch [.p] rfl <| ow_nil <| x_qs <| c_ret <| xr 4 rfl (by cases H; exact q1)
theorem laws_eqFork_ok (w : World) {p0 : Timpl_Fork} {p1 : Timpl_Fork}  {r : Bool} (H : laws_eqFork p0 p1 = some r)   :
    Calls Tryz.prog 212 #[.agg #[.int .i64 p0.Attr_, .int .i64 p0.At_], .agg #[.int .i64 p1.Attr_, .int .i64 p1.At_]] w (fun en w' => en = .returned (.bool r) ∧ Ext [] w w') := by
 unfold laws_eqFork at H
 refine f_enter (vs := [.agg #[.int .i64 p0.Attr_, .int .i64 p0.At_], .agg #[.int .i64 p1.Attr_, .int .i64 p1.At_]]) Tryz.func212 rfl Tryz.ntmps212 rfl (St.init w []) <| c_seq <| c_reg <| ob [.int .i64 p0.Attr_, .int .i64 p0.At_] rfl fun b10 => ob [.int .i64 p1.Attr_, .int .i64 p1.At_] rfl fun b11 => ow_batch [.p] rfl <| ow_nil <| x_qs <| c_seq <| c_seq <| c_reg <| ow_batch [.fa 116 0 0 fa116_0] rfl <| o1 rfl (r1 0 0 rfl ty3 rfl) <| ow_batch [.fa 116 0 0 fa116_0] rfl <| o1 rfl (r1 0 1 rfl ty3 rfl) <| ow_batch [.p] rfl <| ow_nil <| x_qs <| cI H rfl (fun H => ?_) (fun H => ?_)
 ·exact c_seq <| c_reg <| ow_batch [.p] rfl <| ow_nil <| x_qs <| c_ret <| x_qs_ret <| xr 4 rfl (by cases H; exact q1)
 ·refine c_skip <| x_qs <| c_seq <| c_seq <| c_reg <| ow_batch [.fa 116 1 1 fa116_1] rfl <| o1 rfl (r1 1 0 rfl ty3 rfl) <| ow_batch [.fa 116 1 1 fa116_1] rfl <| o1 rfl (r1 1 1 rfl ty3 rfl) <| ow_batch [.p] rfl <| ow_nil <| x_qs <| cI H rfl (fun H => ?_) (fun H => ?_)
  ·exact c_seq <| c_reg <| ow_batch [.p] rfl <| ow_nil <| x_qs <| c_ret <| x_qs_ret <| xr 4 rfl (by cases H; exact q1)
  ·exact c_skip <| x_qs <| c_seq <| c_reg <| ow_batch [.p] rfl <| ow_nil <| x_qs <| c_ret <| xr 4 rfl (by cases H; exact q1)
theorem laws_eqIntSS_ok (w : World) {p0 : List (List Int)} {p1 : List (List Int)} {a_0 : Option Addr} {n_0 c_0 : Nat} {a_1 : Option Addr} {n_1 c_1 : Nat} {r : Bool} (H : laws_eqIntSS p0 p1 = some r)  (g0 : (eList (eList (eVal (Value.int .i64) (fun _ => rfl)) 3) 59).rd w [] p0 [.slice a_0 n_0 c_0]) (g1 : (eList (eList (eVal (Value.int .i64) (fun _ => rfl)) 3) 59).rd w [] p1 [.slice a_1 n_1 c_1]) :
    Calls Tryz.prog 93 #[.slice a_0 n_0 c_0, .slice a_1 n_1 c_1] w (fun en w' => en = .returned (.bool r) ∧ Ext [] w w') := by
 obtain rfl := rd_n g0
 obtain rfl := rd_n g1
 unfold laws_eqIntSS at H
 refine f_enter (vs := [.slice a_0 p0.length c_0, .slice a_1 p1.length c_1]) Tryz.func93 rfl Tryz.ntmps93 rfl (St.init w []) <| c_seq <| c_reg <| ow_batch [.p] rfl <| ow_nil <| x_qs <| c_seq <| c_seq <| c_reg <| ow_batch [.p, .lenS 60 59 sl60, .p, .lenS 60 59 sl60, .p] rfl <| ow_nil <| x_qs <| cI H rfl (fun H => ?_) (fun H => ?_)
 ·exact c_seq <| c_reg <| ow_batch [.p] rfl <| ow_nil <| x_qs <| c_ret <| x_qs_ret <| xr 4 rfl (by cases H; exact q1)
 ·refine c_skip <| x_qs <| c_seq <| c_seq <| c_reg <| ow_batch [.p] rfl <| ow_nil <| x_qs <| c_block <| CW.at (loopI1 (fun (i29 : Int) => St w [] []) (fun (i29 : Int) => [(0, .slice a_0 p0.length c_0), (1, .slice a_1 p1.length c_1), (5, .int .i64 i29)]) (fun kk => fun (i29 : Int) => laws_eqIntSS_L1 p0 p1 kk i29 = some r) (fun _ H => ?_) (fun k1 ihk1 i29 H => ?_) Fuel (0) (H)) (fun _ h => St.sel [] rfl rfl h) ⟨rfl, rfl, rfl,  trivial⟩
  ·unfold laws_eqIntSS_L1 at H
   exact absurd H (by simp)
  ·unfold laws_eqIntSS_L1 at H
   refine c_seq <| c_seq <| c_reg <| ow_batch [.p, .p, .lenS 60 59 sl60, .p] rfl <| ow_nil <| x_qs <| cI H rfl (fun H => ?_) (fun H => ?_)
   ·refine c_skip <| x_qs <| c_seq <| c_block <| c_seq <| c_regQ mixed (by kernel_rfl) <| ow_batch [.p, .p] rfl <| bE H fun e49 h50 H => ow_ixB rfl rfl rfl rfl rfl sl60 ty59 rfl g0 h50 fun q53 c54 hd51 hA52 => ?_
    obtain ⟨a55, c56, rfl⟩ := rd_sl1 hd51
    refine o1 rfl (ry_load1 rfl rfl ty59 (at_bor bor hA52)) <| ow_batch [.p, .p] rfl <| bE H fun e57 h58 H => ow_ixB rfl rfl rfl rfl rfl sl60 ty59 rfl g1 h58 fun q61 c62 hd59 hA60 => ?_
    obtain ⟨a63, c64, rfl⟩ := rd_sl1 hd59
    refine o1 rfl (ry_load1 rfl rfl ty59 (at_bor bor hA60)) <| bE H fun y65 h66 H => oq rfl (qc rfl fn92 (fun w1 hw1 => laws_eqIntS_ok w1  h66 (rds_bor hd51 w1 hw1) (rds_bor hd59 w1 hw1))) tt2 <| ow_batch [.p] rfl <| ow_nilQ <| x_qs <| cI H rfl (fun H => ?_) (fun H => ?_)
    ·exact c_seq <| c_reg <| ow_batch [.p] rfl <| ow_nil <| x_qs <| c_ret <| x_qb_ret <| x_qs_ret <| x_ql_ret <| x_qb_ret <| x_qs_ret <| xr 4 rfl (by cases H; exact q1)
    ·exact c_skip <| x_qb <| x_qs <| c_reg <| ow_batch [.p, .p, .p] rfl <| ow_nil <| x_ql (RW.at (ihk1 (IntKind.i64.wrap (i29 + 1)) (H)) (fun _ h => St.sel [] rfl rfl h) ⟨rfl, rfl, rfl, trivial⟩)
   ·exact c_exit <| x_qs_exit <| x_ql_exit <| x_qb_here <| x_qs <| c_seq <| c_reg <| ow_batch [.p] rfl <| ow_nil <| x_qs <| c_ret <| xr 4 rfl (by cases H; exact q1)
theorem laws_eqStats_ok (w : World) {p0 : Timpl_Stats} {p1 : Timpl_Stats} {cs0 : List Value} {cs1 : List Value} {r : Bool} (H : laws_eqStats p0 p1 = some r)  (g0 : (eTimpl_Stats).rd w [] p0 cs0) (g1 : (eTimpl_Stats).rd w [] p1 cs1) :
    Calls Tryz.prog 29 #[.agg cs0.toArray, .agg cs1.toArray] w (fun en w' => en = .returned (.bool r) ∧ Ext [] w w') := by
 obtain ⟨c10, c11, rfl, g12, g13⟩ := rdo_Timpl_Stats g0
 obtain ⟨a14, c15, rfl⟩ := rd_sl1 g12
 obtain ⟨a16, c17, rfl⟩ := rd_sl1 g13
 obtain ⟨c18, c19, rfl, g20, g21⟩ := rdo_Timpl_Stats g1
 obtain ⟨a22, c23, rfl⟩ := rd_sl1 g20
 obtain ⟨a24, c25, rfl⟩ := rd_sl1 g21
 unfold laws_eqStats at H
 refine f_enter (vs := [.agg #[.slice a14 p0.Totals_.length c15, .slice a16 p0.Cells_.length c17], .agg #[.slice a22 p1.Totals_.length c23, .slice a24 p1.Cells_.length c25]]) Tryz.func29 rfl Tryz.ntmps29 rfl (St.init w []) <| c_seq <| c_reg <| ob [.slice a14 p0.Totals_.length c15, .slice a16 p0.Cells_.length c17] rfl fun b26 => ob [.slice a22 p1.Totals_.length c23, .slice a24 p1.Cells_.length c25] rfl fun b27 => ow_batch [.p] rfl <| ow_nil <| x_qs <| c_seq <| c_seq <| c_reg <| ow_batch [.fa 62 0 0 fa62_0] rfl <| o1 rfl (r1 0 0 rfl ty59 rfl) <| ow_batch [.fa 62 0 0 fa62_0] rfl <| o1 rfl (r1 0 1 rfl ty59 rfl) <| bE H fun y28 h29 H => oq rfl (qc rfl fn92 (fun w1 hw1 => laws_eqIntS_ok w1  h29 (rds_bor g12 w1 hw1) (rds_bor g20 w1 hw1))) tt2 <| ow_batch [.p] rfl <| ow_nil <| x_qs <| cI H rfl (fun H => ?_) (fun H => ?_)
 ·exact c_seq <| c_reg <| ow_batch [.p] rfl <| ow_nil <| x_qs <| c_ret <| x_qs_ret <| xr 4 rfl (by cases H; exact q1)
 ·refine c_skip <| x_qs <| c_seq <| c_seq <| c_reg <| ow_batch [.fa 62 1 1 fa62_1] rfl <| o1 rfl (r1 1 0 rfl ty60 rfl) <| ow_batch [.fa 62 1 1 fa62_1] rfl <| o1 rfl (r1 1 1 rfl ty60 rfl) <| bE H fun y30 h31 H => oq rfl (qc rfl fn93 (fun w1 hw1 => laws_eqIntSS_ok w1  h31 (rds_bor g13 w1 hw1) (rds_bor g21 w1 hw1))) tt2 <| ow_batch [.p] rfl <| ow_nil <| x_qs <| cI H rfl (fun H => ?_) (fun H => ?_)
  ·exact c_seq <| c_reg <| ow_batch [.p] rfl <| ow_nil <| x_qs <| c_ret <| x_qs_ret <| xr 4 rfl (by cases H; exact q1)
  ·exact c_skip <| x_qs <| c_seq <| c_reg <| ow_batch [.p] rfl <| ow_nil <| x_qs <| c_ret <| xr 4 rfl (by cases H; exact q1)
theorem laws_eqNode_ok (w : World) {p0 : Timpl_Node} {p1 : Timpl_Node} {cs0 : List Value} {cs1 : List Value} {r : Bool} (H : laws_eqNode p0 p1 = some r)  (g0 : (eTimpl_Node).rd w [] p0 cs0) (g1 : (eTimpl_Node).rd w [] p1 cs1) :
    Calls Tryz.prog 141 #[.agg cs0.toArray, .agg cs1.toArray] w (fun en w' => en = .returned (.bool r) ∧ Ext [] w w') := by
 obtain ⟨c10, c11, c12, c13, c14, c15, c16, c17, c18, c19, rfl, g20, g21, g22, g23, g24, g25, g26, g27, g28, g29⟩ := rdo_Timpl_Node g0
 obtain rfl : c10 = [.bool p0.Leaf_] := g20
 obtain rfl : c11 = [.int .i64 p0.Fork_.Attr_, .int .i64 p0.Fork_.At_] := g21
 obtain ⟨a30, c31, rfl⟩ := rd_sl1 g22
 obtain rfl : c13 = [.int .i64 p0.Miss_] := g23
 obtain ⟨c32, c33, rfl, g34, g35⟩ := rdo_Timpl_Stats g24
 obtain ⟨a36, c37, rfl⟩ := rd_sl1 g34
 obtain ⟨a38, c39, rfl⟩ := rd_sl1 g35
 obtain rfl : c15 = [.int .i64 p0.Since_] := g25
 obtain ⟨a40, c41, rfl⟩ := rd_sl1 g26
 obtain rfl : c17 = [.int .i64 p0.Depth_] := g27
 obtain rfl : c18 = [.int .i64 p0.Up_] := g28
 obtain rfl : c19 = [.int .i64 p0.Born_] := g29
 obtain ⟨c42, c43, c44, c45, c46, c47, c48, c49, c50, c51, rfl, g52, g53, g54, g55, g56, g57, g58, g59, g60, g61⟩ := rdo_Timpl_Node g1
 obtain rfl : c42 = [.bool p1.Leaf_] := g52
 obtain rfl : c43 = [.int .i64 p1.Fork_.Attr_, .int .i64 p1.Fork_.At_] := g53
 obtain ⟨a62, c63, rfl⟩ := rd_sl1 g54
 obtain rfl : c45 = [.int .i64 p1.Miss_] := g55
 obtain ⟨c64, c65, rfl, g66, g67⟩ := rdo_Timpl_Stats g56
 obtain ⟨a68, c69, rfl⟩ := rd_sl1 g66
 obtain ⟨a70, c71, rfl⟩ := rd_sl1 g67
 obtain rfl : c47 = [.int .i64 p1.Since_] := g57
 obtain ⟨a72, c73, rfl⟩ := rd_sl1 g58
 obtain rfl : c49 = [.int .i64 p1.Depth_] := g59
 obtain rfl : c50 = [.int .i64 p1.Up_] := g60
 obtain rfl : c51 = [.int .i64 p1.Born_] := g61
 unfold laws_eqNode at H
 refine f_enter (vs := [.agg #[.bool p0.Leaf_, .int .i64 p0.Fork_.Attr_, .int .i64 p0.Fork_.At_, .slice a30 p0.Kids_.length c31, .int .i64 p0.Miss_, .slice a36 p0.Stats_.Totals_.length c37, .slice a38 p0.Stats_.Cells_.length c39, .int .i64 p0.Since_, .slice a40 p0.Attrs_.length c41, .int .i64 p0.Depth_, .int .i64 p0.Up_, .int .i64 p0.Born_], .agg #[.bool p1.Leaf_, .int .i64 p1.Fork_.Attr_, .int .i64 p1.Fork_.At_, .slice a62 p1.Kids_.length c63, .int .i64 p1.Miss_, .slice a68 p1.Stats_.Totals_.length c69, .slice a70 p1.Stats_.Cells_.length c71, .int .i64 p1.Since_, .slice a72 p1.Attrs_.length c73, .int .i64 p1.Depth_, .int .i64 p1.Up_, .int .i64 p1.Born_]]) Tryz.func141 rfl Tryz.ntmps141 rfl (St.init w []) <| c_seq <| c_reg <| ob [.bool p0.Leaf_, .int .i64 p0.Fork_.Attr_, .int .i64 p0.Fork_.At_, .slice a30 p0.Kids_.length c31, .int .i64 p0.Miss_, .slice a36 p0.Stats_.Totals_.length c37, .slice a38 p0.Stats_.Cells_.length c39, .int .i64 p0.Since_, .slice a40 p0.Attrs_.length c41, .int .i64 p0.Depth_, .int .i64 p0.Up_, .int .i64 p0.Born_] rfl fun b74 => ob [.bool p1.Leaf_, .int .i64 p1.Fork_.Attr_, .int .i64 p1.Fork_.At_, .slice a62 p1.Kids_.length c63, .int .i64 p1.Miss_, .slice a68 p1.Stats_.Totals_.length c69, .slice a70 p1.Stats_.Cells_.length c71, .int .i64 p1.Since_, .slice a72 p1.Attrs_.length c73, .int .i64 p1.Depth_, .int .i64 p1.Up_, .int .i64 p1.Born_] rfl fun b75 => ow_batch [.p] rfl <| ow_nil <| x_qs <| c_seq <| c_seq <| c_reg <| ow_batch [.fa 118 0 0 fa118_0] rfl <| o1 rfl (r1 0 0 rfl ty4 rfl) <| ow_batch [.fa 118 0 0 fa118_0] rfl <| o1 rfl (r1 0 1 rfl ty4 rfl) <| o1 rfl (ry_bneq rfl rfl rfl bl4) <| ow_nil <| x_qs <| cI H rfl (fun H => ?_) (fun H => ?_)
 ·exact c_seq <| c_reg <| ow_batch [.p] rfl <| ow_nil <| x_qs <| c_ret <| x_qs_ret <| xr 4 rfl (by cases H; exact q1)
 ·refine c_skip <| x_qs <| c_seq <| c_seq <| c_reg <| ow_batch [.fa 118 1 1 fa118_1] rfl <| o1 rfl (rx 1 0 [.int .i64 p0.Fork_.Attr_, .int .i64 p0.Fork_.At_] rfl ty116 rfl) <| ow_batch [.fa 118 1 1 fa118_1] rfl <| o1 rfl (rx 1 1 [.int .i64 p1.Fork_.Attr_, .int .i64 p1.Fork_.At_] rfl ty116 rfl) <| bE H fun y76 h77 H => oq rfl (qc rfl fn212 (fun w1 hw1 => laws_eqFork_ok w1 (p0 := p0.Fork_) (p1 := p1.Fork_) h77)) tt2 <| ow_batch [.p] rfl <| ow_nil <| x_qs <| cI H rfl (fun H => ?_) (fun H => ?_)
  ·exact c_seq <| c_reg <| ow_batch [.p] rfl <| ow_nil <| x_qs <| c_ret <| x_qs_ret <| xr 4 rfl (by cases H; exact q1)
  ·refine c_skip <| x_qs <| c_seq <| c_seq <| c_reg <| ow_batch [.fa 118 2 3 fa118_2] rfl <| o1 rfl (r1 3 0 rfl ty59 rfl) <| ow_batch [.fa 118 2 3 fa118_2] rfl <| o1 rfl (r1 3 1 rfl ty59 rfl) <| bE H fun y78 h79 H => oq rfl (qc rfl fn92 (fun w1 hw1 => laws_eqIntS_ok w1  h79 (rds_bor g22 w1 hw1) (rds_bor g54 w1 hw1))) tt2 <| ow_batch [.p] rfl <| ow_nil <| x_qs <| cI H rfl (fun H => ?_) (fun H => ?_)
   ·exact c_seq <| c_reg <| ow_batch [.p] rfl <| ow_nil <| x_qs <| c_ret <| x_qs_ret <| xr 4 rfl (by cases H; exact q1)
   ·refine c_skip <| x_qs <| c_seq <| c_seq <| c_reg <| ow_batch [.fa 118 3 4 fa118_3] rfl <| o1 rfl (r1 4 0 rfl ty3 rfl) <| ow_batch [.fa 118 3 4 fa118_3] rfl <| o1 rfl (r1 4 1 rfl ty3 rfl) <| ow_batch [.p] rfl <| ow_nil <| x_qs <| cI H rfl (fun H => ?_) (fun H => ?_)
    ·exact c_seq <| c_reg <| ow_batch [.p] rfl <| ow_nil <| x_qs <| c_ret <| x_qs_ret <| xr 4 rfl (by cases H; exact q1)
    ·refine c_skip <| x_qs <| c_seq <| c_seq <| c_reg <| ow_batch [.fa 118 4 5 fa118_4] rfl <| o1 rfl (rx 5 0 [.slice a36 p0.Stats_.Totals_.length c37, .slice a38 p0.Stats_.Cells_.length c39] rfl ty62 rfl) <| ow_batch [.fa 118 4 5 fa118_4] rfl <| o1 rfl (rx 5 1 [.slice a68 p1.Stats_.Totals_.length c69, .slice a70 p1.Stats_.Cells_.length c71] rfl ty62 rfl) <| bE H fun y80 h81 H => oq rfl (qc rfl fn29 (fun w1 hw1 => laws_eqStats_ok w1 (cs0 := [.slice a36 p0.Stats_.Totals_.length c37, .slice a38 p0.Stats_.Cells_.length c39]) (cs1 := [.slice a68 p1.Stats_.Totals_.length c69, .slice a70 p1.Stats_.Cells_.length c71]) h81 (rdm_Timpl_Stats (x := p0.Stats_) (c0 := [.slice a36 p0.Stats_.Totals_.length c37]) (c1 := [.slice a38 p0.Stats_.Cells_.length c39]) (rds_bor g34 w1 hw1) (rds_bor g35 w1 hw1)) (rdm_Timpl_Stats (x := p1.Stats_) (c0 := [.slice a68 p1.Stats_.Totals_.length c69]) (c1 := [.slice a70 p1.Stats_.Cells_.length c71]) (rds_bor g66 w1 hw1) (rds_bor g67 w1 hw1)))) tt2 <| ow_batch [.p] rfl <| ow_nil <| x_qs <| cI H rfl (fun H => ?_) (fun H => ?_)
     ·exact c_seq <| c_reg <| ow_batch [.p] rfl <| ow_nil <| x_qs <| c_ret <| x_qs_ret <| xr 4 rfl (by cases H; exact q1)
     ·refine c_skip <| x_qs <| c_seq <| c_seq <| c_reg <| ow_batch [.fa 118 5 7 fa118_5] rfl <| o1 rfl (r1 7 0 rfl ty3 rfl) <| ow_batch [.fa 118 5 7 fa118_5] rfl <| o1 rfl (r1 7 1 rfl ty3 rfl) <| ow_batch [.p] rfl <| ow_nil <| x_qs <| cI H rfl (fun H => ?_) (fun H => ?_)
      ·exact c_seq <| c_reg <| ow_batch [.p] rfl <| ow_nil <| x_qs <| c_ret <| x_qs_ret <| xr 4 rfl (by cases H; exact q1)
      ·refine c_skip <| x_qs <| c_seq <| c_seq <| c_reg <| ow_batch [.fa 118 6 8 fa118_6] rfl <| o1 rfl (r1 8 0 rfl ty59 rfl) <| ow_batch [.fa 118 6 8 fa118_6] rfl <| o1 rfl (r1 8 1 rfl ty59 rfl) <| bE H fun y82 h83 H => oq rfl (qc rfl fn92 (fun w1 hw1 => laws_eqIntS_ok w1  h83 (rds_bor g26 w1 hw1) (rds_bor g58 w1 hw1))) tt2 <| ow_batch [.p] rfl <| ow_nil <| x_qs <| cI H rfl (fun H => ?_) (fun H => ?_)
       ·exact c_seq <| c_reg <| ow_batch [.p] rfl <| ow_nil <| x_qs <| c_ret <| x_qs_ret <| xr 4 rfl (by cases H; exact q1)
       ·refine c_skip <| x_qs <| c_seq <| c_seq <| c_reg <| ow_batch [.fa 118 7 9 fa118_7] rfl <| o1 rfl (r1 9 0 rfl ty3 rfl) <| ow_batch [.fa 118 7 9 fa118_7] rfl <| o1 rfl (r1 9 1 rfl ty3 rfl) <| ow_batch [.p] rfl <| ow_nil <| x_qs <| cI H rfl (fun H => ?_) (fun H => ?_)
        ·exact c_seq <| c_reg <| ow_batch [.p] rfl <| ow_nil <| x_qs <| c_ret <| x_qs_ret <| xr 4 rfl (by cases H; exact q1)
        ·refine c_skip <| x_qs <| c_seq <| c_seq <| c_reg <| ow_batch [.fa 118 8 10 fa118_8] rfl <| o1 rfl (r1 10 0 rfl ty3 rfl) <| ow_batch [.fa 118 8 10 fa118_8] rfl <| o1 rfl (r1 10 1 rfl ty3 rfl) <| ow_batch [.p] rfl <| ow_nil <| x_qs <| cI H rfl (fun H => ?_) (fun H => ?_)
         ·exact c_seq <| c_reg <| ow_batch [.p] rfl <| ow_nil <| x_qs <| c_ret <| x_qs_ret <| xr 4 rfl (by cases H; exact q1)
         ·refine c_skip <| x_qs <| c_seq <| c_seq <| c_reg <| ow_batch [.fa 118 9 11 fa118_9] rfl <| o1 rfl (r1 11 0 rfl ty3 rfl) <| ow_batch [.fa 118 9 11 fa118_9] rfl <| o1 rfl (r1 11 1 rfl ty3 rfl) <| ow_batch [.p] rfl <| ow_nil <| x_qs <| cI H rfl (fun H => ?_) (fun H => ?_)
          ·exact c_seq <| c_reg <| ow_batch [.p] rfl <| ow_nil <| x_qs <| c_ret <| x_qs_ret <| xr 4 rfl (by cases H; exact q1)
          ·exact c_skip <| x_qs <| c_seq <| c_reg <| ow_batch [.p] rfl <| ow_nil <| x_qs <| c_ret <| xr 4 rfl (by cases H; exact q1)
theorem laws_eqNodeS_ok (w : World) {p0 : List Timpl_Node} {p1 : List Timpl_Node} {a_0 : Option Addr} {n_0 c_0 : Nat} {a_1 : Option Addr} {n_1 c_1 : Nat} {r : Bool} (H : laws_eqNodeS p0 p1 = some r)  (g0 : (eList (eTimpl_Node) 118).rd w [] p0 [.slice a_0 n_0 c_0]) (g1 : (eList (eTimpl_Node) 118).rd w [] p1 [.slice a_1 n_1 c_1]) :
    Calls Tryz.prog 67 #[.slice a_0 n_0 c_0, .slice a_1 n_1 c_1] w (fun en w' => en = .returned (.bool r) ∧ Ext [] w w') := by
 obtain rfl := rd_n g0
 obtain rfl := rd_n g1
 unfold laws_eqNodeS at H
 refine f_enter (vs := [.slice a_0 p0.length c_0, .slice a_1 p1.length c_1]) Tryz.func67 rfl Tryz.ntmps67 rfl (St.init w []) <| c_seq <| c_reg <| ow_batch [.p] rfl <| ow_nil <| x_qs <| c_seq <| c_seq <| c_reg <| ow_batch [.p, .lenS 37 118 sl37, .p, .lenS 37 118 sl37, .p] rfl <| ow_nil <| x_qs <| cI H rfl (fun H => ?_) (fun H => ?_)
 ·exact c_seq <| c_reg <| ow_batch [.p] rfl <| ow_nil <| x_qs <| c_ret <| x_qs_ret <| xr 4 rfl (by cases H; exact q1)
 ·refine c_skip <| x_qs <| c_seq <| c_seq <| c_reg <| ow_batch [.p] rfl <| ow_nil <| x_qs <| c_block <| CW.at (loopI1 (fun (i89 : Int) => St w [] []) (fun (i89 : Int) => [(0, .slice a_0 p0.length c_0), (1, .slice a_1 p1.length c_1), (5, .int .i64 i89)]) (fun kk => fun (i89 : Int) => laws_eqNodeS_L1 p0 p1 kk i89 = some r) (fun _ H => ?_) (fun k1 ihk1 i89 H => ?_) Fuel (0) (H)) (fun _ h => St.sel [] rfl rfl h) ⟨rfl, rfl, rfl,  trivial⟩
  ·unfold laws_eqNodeS_L1 at H
   exact absurd H (by simp)
  ·unfold laws_eqNodeS_L1 at H
   refine c_seq <| c_seq <| c_reg <| ow_batch [.p, .p, .lenS 37 118 sl37, .p] rfl <| ow_nil <| x_qs <| cI H rfl (fun H => ?_) (fun H => ?_)
   ·refine c_skip <| x_qs <| c_seq <| c_block <| c_seq <| c_regQ mixed (by kernel_rfl) <| ow_batch [.p, .p] rfl <| bE H fun e169 h170 H => ow_ixB rfl rfl rfl rfl rfl sl37 ty118 rfl g0 h170 fun q173 c174 hd171 hA172 => ?_
    obtain ⟨c175, c176, c177, c178, c179, c180, c181, c182, c183, c184, rfl, g185, g186, g187, g188, g189, g190, g191, g192, g193, g194⟩ := rdo_Timpl_Node hd171
    obtain rfl : c175 = [.bool e169.Leaf_] := g185
    obtain rfl : c176 = [.int .i64 e169.Fork_.Attr_, .int .i64 e169.Fork_.At_] := g186
    obtain ⟨a195, c196, rfl⟩ := rd_sl1 g187
    obtain rfl : c178 = [.int .i64 e169.Miss_] := g188
    obtain ⟨c197, c198, rfl, g199, g200⟩ := rdo_Timpl_Stats g189
    obtain ⟨a201, c202, rfl⟩ := rd_sl1 g199
    obtain ⟨a203, c204, rfl⟩ := rd_sl1 g200
    obtain rfl : c180 = [.int .i64 e169.Since_] := g190
    obtain ⟨a205, c206, rfl⟩ := rd_sl1 g191
    obtain rfl : c182 = [.int .i64 e169.Depth_] := g192
    obtain rfl : c183 = [.int .i64 e169.Up_] := g193
    obtain rfl : c184 = [.int .i64 e169.Born_] := g194
    refine o1 rfl (ry_load (cs := [.bool e169.Leaf_, .int .i64 e169.Fork_.Attr_, .int .i64 e169.Fork_.At_, .slice a195 e169.Kids_.length c196, .int .i64 e169.Miss_, .slice a201 e169.Stats_.Totals_.length c202, .slice a203 e169.Stats_.Cells_.length c204, .int .i64 e169.Since_, .slice a205 e169.Attrs_.length c206, .int .i64 e169.Depth_, .int .i64 e169.Up_, .int .i64 e169.Born_]) rfl rfl ty118 (at_bor bor hA172) rfl) <| ow_batch [.p, .p] rfl <| bE H fun e207 h208 H => ow_ixB rfl rfl rfl rfl rfl sl37 ty118 rfl g1 h208 fun q211 c212 hd209 hA210 => ?_
    obtain ⟨c213, c214, c215, c216, c217, c218, c219, c220, c221, c222, rfl, g223, g224, g225, g226, g227, g228, g229, g230, g231, g232⟩ := rdo_Timpl_Node hd209
    obtain rfl : c213 = [.bool e207.Leaf_] := g223
    obtain rfl : c214 = [.int .i64 e207.Fork_.Attr_, .int .i64 e207.Fork_.At_] := g224
    obtain ⟨a233, c234, rfl⟩ := rd_sl1 g225
    obtain rfl : c216 = [.int .i64 e207.Miss_] := g226
    obtain ⟨c235, c236, rfl, g237, g238⟩ := rdo_Timpl_Stats g227
    obtain ⟨a239, c240, rfl⟩ := rd_sl1 g237
    obtain ⟨a241, c242, rfl⟩ := rd_sl1 g238
    obtain rfl : c218 = [.int .i64 e207.Since_] := g228
    obtain ⟨a243, c244, rfl⟩ := rd_sl1 g229
    obtain rfl : c220 = [.int .i64 e207.Depth_] := g230
    obtain rfl : c221 = [.int .i64 e207.Up_] := g231
    obtain rfl : c222 = [.int .i64 e207.Born_] := g232
    refine o1 rfl (ry_load (cs := [.bool e207.Leaf_, .int .i64 e207.Fork_.Attr_, .int .i64 e207.Fork_.At_, .slice a233 e207.Kids_.length c234, .int .i64 e207.Miss_, .slice a239 e207.Stats_.Totals_.length c240, .slice a241 e207.Stats_.Cells_.length c242, .int .i64 e207.Since_, .slice a243 e207.Attrs_.length c244, .int .i64 e207.Depth_, .int .i64 e207.Up_, .int .i64 e207.Born_]) rfl rfl ty118 (at_bor bor hA210) rfl) <| bE H fun y245 h246 H => oq rfl (qc rfl fn141 (fun w1 hw1 => laws_eqNode_ok w1 (cs0 := [.bool e169.Leaf_, .int .i64 e169.Fork_.Attr_, .int .i64 e169.Fork_.At_, .slice a195 e169.Kids_.length c196, .int .i64 e169.Miss_, .slice a201 e169.Stats_.Totals_.length c202, .slice a203 e169.Stats_.Cells_.length c204, .int .i64 e169.Since_, .slice a205 e169.Attrs_.length c206, .int .i64 e169.Depth_, .int .i64 e169.Up_, .int .i64 e169.Born_]) (cs1 := [.bool e207.Leaf_, .int .i64 e207.Fork_.Attr_, .int .i64 e207.Fork_.At_, .slice a233 e207.Kids_.length c234, .int .i64 e207.Miss_, .slice a239 e207.Stats_.Totals_.length c240, .slice a241 e207.Stats_.Cells_.length c242, .int .i64 e207.Since_, .slice a243 e207.Attrs_.length c244, .int .i64 e207.Depth_, .int .i64 e207.Up_, .int .i64 e207.Born_]) h246 (rdm_Timpl_Node (x := e169) (c0 := [.bool e169.Leaf_]) (c1 := [.int .i64 e169.Fork_.Attr_, .int .i64 e169.Fork_.At_]) (c2 := [.slice a195 e169.Kids_.length c196]) (c3 := [.int .i64 e169.Miss_]) (c4 := [.slice a201 e169.Stats_.Totals_.length c202, .slice a203 e169.Stats_.Cells_.length c204]) (c5 := [.int .i64 e169.Since_]) (c6 := [.slice a205 e169.Attrs_.length c206]) (c7 := [.int .i64 e169.Depth_]) (c8 := [.int .i64 e169.Up_]) (c9 := [.int .i64 e169.Born_]) rfl rfl (rds_bor g187 w1 hw1) rfl (rdm_Timpl_Stats (x := e169.Stats_) (c0 := [.slice a201 e169.Stats_.Totals_.length c202]) (c1 := [.slice a203 e169.Stats_.Cells_.length c204]) (rds_bor g199 w1 hw1) (rds_bor g200 w1 hw1)) rfl (rds_bor g191 w1 hw1) rfl rfl rfl) (rdm_Timpl_Node (x := e207) (c0 := [.bool e207.Leaf_]) (c1 := [.int .i64 e207.Fork_.Attr_, .int .i64 e207.Fork_.At_]) (c2 := [.slice a233 e207.Kids_.length c234]) (c3 := [.int .i64 e207.Miss_]) (c4 := [.slice a239 e207.Stats_.Totals_.length c240, .slice a241 e207.Stats_.Cells_.length c242]) (c5 := [.int .i64 e207.Since_]) (c6 := [.slice a243 e207.Attrs_.length c244]) (c7 := [.int .i64 e207.Depth_]) (c8 := [.int .i64 e207.Up_]) (c9 := [.int .i64 e207.Born_]) rfl rfl (rds_bor g225 w1 hw1) rfl (rdm_Timpl_Stats (x := e207.Stats_) (c0 := [.slice a239 e207.Stats_.Totals_.length c240]) (c1 := [.slice a241 e207.Stats_.Cells_.length c242]) (rds_bor g237 w1 hw1) (rds_bor g238 w1 hw1)) rfl (rds_bor g229 w1 hw1) rfl rfl rfl))) tt2 <| ow_batch [.p] rfl <| ow_nilQ <| x_qs <| cI H rfl (fun H => ?_) (fun H => ?_)
    ·exact c_seq <| c_reg <| ow_batch [.p] rfl <| ow_nil <| x_qs <| c_ret <| x_qb_ret <| x_qs_ret <| x_ql_ret <| x_qb_ret <| x_qs_ret <| xr 4 rfl (by cases H; exact q1)
    ·exact c_skip <| x_qb <| x_qs <| c_reg <| ow_batch [.p, .p, .p] rfl <| ow_nil <| x_ql (RW.at (ihk1 (IntKind.i64.wrap (i89 + 1)) (H)) (fun _ h => St.sel [] rfl rfl h) ⟨rfl, rfl, rfl, trivial⟩)
   ·exact c_exit <| x_qs_exit <| x_ql_exit <| x_qb_here <| x_qs <| c_seq <| c_reg <| ow_batch [.p] rfl <| ow_nil <| x_qs <| c_ret <| xr 4 rfl (by cases H; exact q1)
theorem laws_eqTree_ok (w : World) {p0 : Timpl_Tree} {p1 : Timpl_Tree} {cs0 : List Value} {cs1 : List Value} {r : Bool} (H : laws_eqTree p0 p1 = some r)  (g0 : (eTimpl_Tree).rd w [] p0 cs0) (g1 : (eTimpl_Tree).rd w [] p1 cs1) :
    Calls Tryz.prog 16 #[.agg cs0.toArray, .agg cs1.toArray] w (fun en w' => en = .returned (.bool r) ∧ Ext [] w w') := by
 obtain ⟨c10, c11, rfl, g12, g13⟩ := rdo_Timpl_Tree g0
 obtain ⟨a14, c15, rfl⟩ := rd_sl1 g12
 obtain rfl : c11 = [.int .i64 p0.Seen_] := g13
 obtain ⟨c16, c17, rfl, g18, g19⟩ := rdo_Timpl_Tree g1
 obtain ⟨a20, c21, rfl⟩ := rd_sl1 g18
 obtain rfl : c17 = [.int .i64 p1.Seen_] := g19
 unfold laws_eqTree at H
 refine f_enter (vs := [.agg #[.slice a14 p0.Nodes_.length c15, .int .i64 p0.Seen_], .agg #[.slice a20 p1.Nodes_.length c21, .int .i64 p1.Seen_]]) Tryz.func16 rfl Tryz.ntmps16 rfl (St.init w []) <| c_seq <| c_reg <| ob [.slice a14 p0.Nodes_.length c15, .int .i64 p0.Seen_] rfl fun b22 => ob [.slice a20 p1.Nodes_.length c21, .int .i64 p1.Seen_] rfl fun b23 => ow_batch [.p] rfl <| ow_nil <| x_qs <| c_seq <| c_seq <| c_reg <| ow_batch [.fa 39 0 0 fa39_0] rfl <| o1 rfl (r1 0 0 rfl ty37 rfl) <| ow_batch [.fa 39 0 0 fa39_0] rfl <| o1 rfl (r1 0 1 rfl ty37 rfl) <| bE H fun y24 h25 H => oq rfl (qc rfl fn67 (fun w1 hw1 => laws_eqNodeS_ok w1  h25 (rds_bor g12 w1 hw1) (rds_bor g18 w1 hw1))) tt2 <| ow_batch [.p] rfl <| ow_nil <| x_qs <| cI H rfl (fun H => ?_) (fun H => ?_)
 ·exact c_seq <| c_reg <| ow_batch [.p] rfl <| ow_nil <| x_qs <| c_ret <| x_qs_ret <| xr 4 rfl (by cases H; exact q1)
 ·refine c_skip <| x_qs <| c_seq <| c_seq <| c_reg <| ow_batch [.fa 39 1 1 fa39_1] rfl <| o1 rfl (r1 1 0 rfl ty3 rfl) <| ow_batch [.fa 39 1 1 fa39_1] rfl <| o1 rfl (r1 1 1 rfl ty3 rfl) <| ow_batch [.p] rfl <| ow_nil <| x_qs <| cI H rfl (fun H => ?_) (fun H => ?_)
  ·exact c_seq <| c_reg <| ow_batch [.p] rfl <| ow_nil <| x_qs <| c_ret <| x_qs_ret <| xr 4 rfl (by cases H; exact q1)
  ·exact c_skip <| x_qs <| c_seq <| c_reg <| ow_batch [.p] rfl <| ow_nil <| x_qs <| c_ret <| xr 4 rfl (by cases H; exact q1)
theorem laws_eqEx_ok (w : World) {p0 : Timpl_Ex} {p1 : Timpl_Ex} {cs0 : List Value} {cs1 : List Value} {r : Bool} (H : laws_eqEx p0 p1 = some r)  (g0 : (eTimpl_Ex).rd w [] p0 cs0) (g1 : (eTimpl_Ex).rd w [] p1 cs1) :
    Calls Tryz.prog 155 #[.agg cs0.toArray, .agg cs1.toArray] w (fun en w' => en = .returned (.bool r) ∧ Ext [] w w') := by
 obtain ⟨c10, c11, rfl, g12, g13⟩ := rdo_Timpl_Ex g0
 obtain ⟨a14, c15, rfl⟩ := rd_sl1 g12
 obtain rfl : c11 = [.int .i64 p0.Class_] := g13
 obtain ⟨c16, c17, rfl, g18, g19⟩ := rdo_Timpl_Ex g1
 obtain ⟨a20, c21, rfl⟩ := rd_sl1 g18
 obtain rfl : c17 = [.int .i64 p1.Class_] := g19
 unfold laws_eqEx at H
 refine f_enter (vs := [.agg #[.slice a14 p0.Bins_.length c15, .int .i64 p0.Class_], .agg #[.slice a20 p1.Bins_.length c21, .int .i64 p1.Class_]]) Tryz.func155 rfl Tryz.ntmps155 rfl (St.init w []) <| c_seq <| c_reg <| ob [.slice a14 p0.Bins_.length c15, .int .i64 p0.Class_] rfl fun b22 => ob [.slice a20 p1.Bins_.length c21, .int .i64 p1.Class_] rfl fun b23 => ow_batch [.p] rfl <| ow_nil <| x_qs <| c_seq <| c_seq <| c_reg <| ow_batch [.fa 142 0 0 fa142_0] rfl <| o1 rfl (r1 0 0 rfl ty59 rfl) <| ow_batch [.fa 142 0 0 fa142_0] rfl <| o1 rfl (r1 0 1 rfl ty59 rfl) <| bE H fun y24 h25 H => oq rfl (qc rfl fn92 (fun w1 hw1 => laws_eqIntS_ok w1  h25 (rds_bor g12 w1 hw1) (rds_bor g18 w1 hw1))) tt2 <| ow_batch [.p] rfl <| ow_nil <| x_qs <| cI H rfl (fun H => ?_) (fun H => ?_)
 ·exact c_seq <| c_reg <| ow_batch [.p] rfl <| ow_nil <| x_qs <| c_ret <| x_qs_ret <| xr 4 rfl (by cases H; exact q1)
 ·refine c_skip <| x_qs <| c_seq <| c_seq <| c_reg <| ow_batch [.fa 142 1 1 fa142_1] rfl <| o1 rfl (r1 1 0 rfl ty3 rfl) <| ow_batch [.fa 142 1 1 fa142_1] rfl <| o1 rfl (r1 1 1 rfl ty3 rfl) <| ow_batch [.p] rfl <| ow_nil <| x_qs <| cI H rfl (fun H => ?_) (fun H => ?_)
  ·exact c_seq <| c_reg <| ow_batch [.p] rfl <| ow_nil <| x_qs <| c_ret <| x_qs_ret <| xr 4 rfl (by cases H; exact q1)
  ·exact c_skip <| x_qs <| c_seq <| c_reg <| ow_batch [.p] rfl <| ow_nil <| x_qs <| c_ret <| xr 4 rfl (by cases H; exact q1)
theorem laws_eqEntry_ok (w : World) {p0 : Timpl_Entry} {p1 : Timpl_Entry} {cs0 : List Value} {cs1 : List Value} {r : Bool} (H : laws_eqEntry p0 p1 = some r)  (g0 : (eTimpl_Entry).rd w [] p0 cs0) (g1 : (eTimpl_Entry).rd w [] p1 cs1) :
    Calls Tryz.prog 87 #[.agg cs0.toArray, .agg cs1.toArray] w (fun en w' => en = .returned (.bool r) ∧ Ext [] w w') := by
 obtain ⟨c10, c11, rfl, g12, g13⟩ := rdo_Timpl_Entry g0
 obtain ⟨c14, c15, rfl, g16, g17⟩ := rdo_Timpl_Ex g12
 obtain ⟨a18, c19, rfl⟩ := rd_sl1 g16
 obtain rfl : c15 = [.int .i64 p0.Ex_.Class_] := g17
 obtain rfl : c11 = [.int .i64 p0.Weight_] := g13
 obtain ⟨c20, c21, rfl, g22, g23⟩ := rdo_Timpl_Entry g1
 obtain ⟨c24, c25, rfl, g26, g27⟩ := rdo_Timpl_Ex g22
 obtain ⟨a28, c29, rfl⟩ := rd_sl1 g26
 obtain rfl : c25 = [.int .i64 p1.Ex_.Class_] := g27
 obtain rfl : c21 = [.int .i64 p1.Weight_] := g23
 unfold laws_eqEntry at H
 refine f_enter (vs := [.agg #[.slice a18 p0.Ex_.Bins_.length c19, .int .i64 p0.Ex_.Class_, .int .i64 p0.Weight_], .agg #[.slice a28 p1.Ex_.Bins_.length c29, .int .i64 p1.Ex_.Class_, .int .i64 p1.Weight_]]) Tryz.func87 rfl Tryz.ntmps87 rfl (St.init w []) <| c_seq <| c_reg <| ob [.slice a18 p0.Ex_.Bins_.length c19, .int .i64 p0.Ex_.Class_, .int .i64 p0.Weight_] rfl fun b30 => ob [.slice a28 p1.Ex_.Bins_.length c29, .int .i64 p1.Ex_.Class_, .int .i64 p1.Weight_] rfl fun b31 => ow_batch [.p] rfl <| ow_nil <| x_qs <| c_seq <| c_seq <| c_reg <| ow_batch [.fa 144 0 0 fa144_0] rfl <| o1 rfl (rx 0 0 [.slice a18 p0.Ex_.Bins_.length c19, .int .i64 p0.Ex_.Class_] rfl ty142 rfl) <| ow_batch [.fa 144 0 0 fa144_0] rfl <| o1 rfl (rx 0 1 [.slice a28 p1.Ex_.Bins_.length c29, .int .i64 p1.Ex_.Class_] rfl ty142 rfl) <| bE H fun y32 h33 H => oq rfl (qc rfl fn155 (fun w1 hw1 => laws_eqEx_ok w1 (cs0 := [.slice a18 p0.Ex_.Bins_.length c19, .int .i64 p0.Ex_.Class_]) (cs1 := [.slice a28 p1.Ex_.Bins_.length c29, .int .i64 p1.Ex_.Class_]) h33 (rdm_Timpl_Ex (x := p0.Ex_) (c0 := [.slice a18 p0.Ex_.Bins_.length c19]) (c1 := [.int .i64 p0.Ex_.Class_]) (rds_bor g16 w1 hw1) rfl) (rdm_Timpl_Ex (x := p1.Ex_) (c0 := [.slice a28 p1.Ex_.Bins_.length c29]) (c1 := [.int .i64 p1.Ex_.Class_]) (rds_bor g26 w1 hw1) rfl))) tt2 <| ow_batch [.p] rfl <| ow_nil <| x_qs <| cI H rfl (fun H => ?_) (fun H => ?_)
 ·exact c_seq <| c_reg <| ow_batch [.p] rfl <| ow_nil <| x_qs <| c_ret <| x_qs_ret <| xr 4 rfl (by cases H; exact q1)
 ·refine c_skip <| x_qs <| c_seq <| c_seq <| c_reg <| ow_batch [.fa 144 1 2 fa144_1] rfl <| o1 rfl (r1 2 0 rfl ty3 rfl) <| ow_batch [.fa 144 1 2 fa144_1] rfl <| o1 rfl (r1 2 1 rfl ty3 rfl) <| ow_batch [.p] rfl <| ow_nil <| x_qs <| cI H rfl (fun H => ?_) (fun H => ?_)
  ·exact c_seq <| c_reg <| ow_batch [.p] rfl <| ow_nil <| x_qs <| c_ret <| x_qs_ret <| xr 4 rfl (by cases H; exact q1)
  ·exact c_skip <| x_qs <| c_seq <| c_reg <| ow_batch [.p] rfl <| ow_nil <| x_qs <| c_ret <| xr 4 rfl (by cases H; exact q1)
theorem laws_eqEntryS_ok (w : World) {p0 : List Timpl_Entry} {p1 : List Timpl_Entry} {a_0 : Option Addr} {n_0 c_0 : Nat} {a_1 : Option Addr} {n_1 c_1 : Nat} {r : Bool} (H : laws_eqEntryS p0 p1 = some r)  (g0 : (eList (eTimpl_Entry) 144).rd w [] p0 [.slice a_0 n_0 c_0]) (g1 : (eList (eTimpl_Entry) 144).rd w [] p1 [.slice a_1 n_1 c_1]) :
    Calls Tryz.prog 26 #[.slice a_0 n_0 c_0, .slice a_1 n_1 c_1] w (fun en w' => en = .returned (.bool r) ∧ Ext [] w w') := by
 obtain rfl := rd_n g0
 obtain rfl := rd_n g1
 unfold laws_eqEntryS at H
 refine f_enter (vs := [.slice a_0 p0.length c_0, .slice a_1 p1.length c_1]) Tryz.func26 rfl Tryz.ntmps26 rfl (St.init w []) <| c_seq <| c_reg <| ow_batch [.p] rfl <| ow_nil <| x_qs <| c_seq <| c_seq <| c_reg <| ow_batch [.p, .lenS 55 144 sl55, .p, .lenS 55 144 sl55, .p] rfl <| ow_nil <| x_qs <| cI H rfl (fun H => ?_) (fun H => ?_)
 ·exact c_seq <| c_reg <| ow_batch [.p] rfl <| ow_nil <| x_qs <| c_ret <| x_qs_ret <| xr 4 rfl (by cases H; exact q1)
 ·refine c_skip <| x_qs <| c_seq <| c_seq <| c_reg <| ow_batch [.p] rfl <| ow_nil <| x_qs <| c_block <| CW.at (loopI1 (fun (i45 : Int) => St w [] []) (fun (i45 : Int) => [(0, .slice a_0 p0.length c_0), (1, .slice a_1 p1.length c_1), (5, .int .i64 i45)]) (fun kk => fun (i45 : Int) => laws_eqEntryS_L1 p0 p1 kk i45 = some r) (fun _ H => ?_) (fun k1 ihk1 i45 H => ?_) Fuel (0) (H)) (fun _ h => St.sel [] rfl rfl h) ⟨rfl, rfl, rfl,  trivial⟩
  ·unfold laws_eqEntryS_L1 at H
   exact absurd H (by simp)
  ·unfold laws_eqEntryS_L1 at H
   refine c_seq <| c_seq <| c_reg <| ow_batch [.p, .p, .lenS 55 144 sl55, .p] rfl <| ow_nil <| x_qs <| cI H rfl (fun H => ?_) (fun H => ?_)
   ·refine c_skip <| x_qs <| c_seq <| c_block <| c_seq <| c_regQ mixed (by kernel_rfl) <| ow_batch [.p, .p] rfl <| bE H fun e81 h82 H => ow_ixB rfl rfl rfl rfl rfl sl55 ty144 rfl g0 h82 fun q85 c86 hd83 hA84 => ?_
    obtain ⟨c87, c88, rfl, g89, g90⟩ := rdo_Timpl_Entry hd83
    obtain ⟨c91, c92, rfl, g93, g94⟩ := rdo_Timpl_Ex g89
    obtain ⟨a95, c96, rfl⟩ := rd_sl1 g93
    obtain rfl : c92 = [.int .i64 e81.Ex_.Class_] := g94
    obtain rfl : c88 = [.int .i64 e81.Weight_] := g90
    refine o1 rfl (ry_load (cs := [.slice a95 e81.Ex_.Bins_.length c96, .int .i64 e81.Ex_.Class_, .int .i64 e81.Weight_]) rfl rfl ty144 (at_bor bor hA84) rfl) <| ow_batch [.p, .p] rfl <| bE H fun e97 h98 H => ow_ixB rfl rfl rfl rfl rfl sl55 ty144 rfl g1 h98 fun q101 c102 hd99 hA100 => ?_
    obtain ⟨c103, c104, rfl, g105, g106⟩ := rdo_Timpl_Entry hd99
    obtain ⟨c107, c108, rfl, g109, g110⟩ := rdo_Timpl_Ex g105
    obtain ⟨a111, c112, rfl⟩ := rd_sl1 g109
    obtain rfl : c108 = [.int .i64 e97.Ex_.Class_] := g110
    obtain rfl : c104 = [.int .i64 e97.Weight_] := g106
    refine o1 rfl (ry_load (cs := [.slice a111 e97.Ex_.Bins_.length c112, .int .i64 e97.Ex_.Class_, .int .i64 e97.Weight_]) rfl rfl ty144 (at_bor bor hA100) rfl) <| bE H fun y113 h114 H => oq rfl (qc rfl fn87 (fun w1 hw1 => laws_eqEntry_ok w1 (cs0 := [.slice a95 e81.Ex_.Bins_.length c96, .int .i64 e81.Ex_.Class_, .int .i64 e81.Weight_]) (cs1 := [.slice a111 e97.Ex_.Bins_.length c112, .int .i64 e97.Ex_.Class_, .int .i64 e97.Weight_]) h114 (rdm_Timpl_Entry (x := e81) (c0 := [.slice a95 e81.Ex_.Bins_.length c96, .int .i64 e81.Ex_.Class_]) (c1 := [.int .i64 e81.Weight_]) (rdm_Timpl_Ex (x := e81.Ex_) (c0 := [.slice a95 e81.Ex_.Bins_.length c96]) (c1 := [.int .i64 e81.Ex_.Class_]) (rds_bor g93 w1 hw1) rfl) rfl) (rdm_Timpl_Entry (x := e97) (c0 := [.slice a111 e97.Ex_.Bins_.length c112, .int .i64 e97.Ex_.Class_]) (c1 := [.int .i64 e97.Weight_]) (rdm_Timpl_Ex (x := e97.Ex_) (c0 := [.slice a111 e97.Ex_.Bins_.length c112]) (c1 := [.int .i64 e97.Ex_.Class_]) (rds_bor g109 w1 hw1) rfl) rfl))) tt2 <| ow_batch [.p] rfl <| ow_nilQ <| x_qs <| cI H rfl (fun H => ?_) (fun H => ?_)
    ·exact c_seq <| c_reg <| ow_batch [.p] rfl <| ow_nil <| x_qs <| c_ret <| x_qb_ret <| x_qs_ret <| x_ql_ret <| x_qb_ret <| x_qs_ret <| xr 4 rfl (by cases H; exact q1)
    ·exact c_skip <| x_qb <| x_qs <| c_reg <| ow_batch [.p, .p, .p] rfl <| ow_nil <| x_ql (RW.at (ihk1 (IntKind.i64.wrap (i45 + 1)) (H)) (fun _ h => St.sel [] rfl rfl h) ⟨rfl, rfl, rfl, trivial⟩)
   ·exact c_exit <| x_qs_exit <| x_ql_exit <| x_qb_here <| x_qs <| c_seq <| c_reg <| ow_batch [.p] rfl <| ow_nil <| x_qs <| c_ret <| xr 4 rfl (by cases H; exact q1)
theorem laws_markText_ok (w : World) {p0 : Int}  {r : List UInt8} (H : laws_markText p0 = some r)   :
    Calls Tryz.prog 142 #[.int .i64 p0] w (fun en w' => en = .returned (vS r) ∧ Ext [] w w') := by
 unfold laws_markText at H
 refine f_enter (vs := [.int .i64 p0]) Tryz.func142 rfl Tryz.ntmps142 rfl (St.init w []) <| c_seq <| c_reg <| ow_batch [.p] rfl <| ow_nil <| x_qs <| c_seq <| c_seq <| c_reg <| ow_batch [.p, .p] rfl <| ow_nil <| x_qs <| cI H rfl (fun H => ?_) (fun H => ?_)
 ·exact c_seq <| c_reg <| ow_batch [.p] rfl <| ow_nil <| x_qs <| c_ret <| x_qs_ret <| xr 2 rfl (by cases H; exact q1)
 ·refine c_skip <| x_qs <| c_seq <| c_reg <| ow_batch [.p] rfl <| ow_nil <| x_qs <| c_seq <| c_block <| CW.at (loopI2 (fun (i15 : Int) (s16 : List UInt8) => St w [] []) (fun (i15 : Int) (s16 : List UInt8) => [(0, .int .i64 i15), (3, vS s16)]) (fun kk => fun (i15 : Int) (s16 : List UInt8) => laws_markText_L1 kk i15 s16 = some r) (fun _ _ H => ?_) (fun k1 ihk1 i15 s16 H => ?_) Fuel (p0) (([] : List UInt8)) (H)) (fun _ h => St.sel [] rfl rfl h) ⟨rfl, rfl,  trivial⟩
  ·unfold laws_markText_L1 at H
   exact absurd H (by simp)
  ·unfold laws_markText_L1 at H
   refine c_seq <| c_seq <| c_reg <| ow_batch [.p, .p] rfl <| ow_nil <| x_qs <| cI H rfl (fun H => ?_) (fun H => ?_)
   ·exact c_skip <| x_qs <| c_block <| c_seq <| c_reg <| ow_batch [.p, .p, .p, .cv 3 5 .u8 us3 in5] rfl <| ow_blit (val := Value.int .u8) (h1 := fun _ => rfl) [IntKind.u8.wrap (IntKind.i64.wrap (48 + (Int.tmod i15 10)))] [(0, [.int .u8 (IntKind.u8.wrap (IntKind.i64.wrap (48 + (Int.tmod i15 10))))])] rfl rfl rfl rfl rfl sl70 ty5 rfl rfl rfl ⟨rfl, rfl, Nat.le_of_ble_eq_true rfl,  trivial⟩ rfl rfl (fun _ => kp) fun b22 => o1 rfl (ry_bts (xs := ([IntKind.u8.wrap (IntKind.i64.wrap (48 + (Int.tmod i15 10)))] : List Int)) rfl rfl sl70 in5 st9 (fun w1 hw1 => rds_own (e := eList (eVal (Value.int .u8) (fun _ => rfl)) 5) (r := 0) rfl w1 hw1)) <| ow_batch [.p] rfl <| bE H fun s23 h24 H => o1 rfl (ry_sadd rfl rfl rfl h24) <| ow_batch [.p] rfl <| ow_nil <| x_qs <| c_reg <| ow_batch [.p, .p, .p] rfl <| ow_nil <| x_qb <| x_ql (RW.at (ihk1 (IntKind.i64.wrap (Int.tdiv i15 10)) (s23) (H)) (fun _ h => St.sel [] rfl rfl h) ⟨rfl, rfl, trivial⟩)
   ·exact c_exit <| x_qs_exit <| x_ql_exit <| x_qb_here <| x_qs <| c_seq <| c_reg <| ow_batch [.p] rfl <| bE H fun s25 h26 H => o1 rfl (ry_sadd rfl rfl rfl h26) <| ow_batch [.p] rfl <| ow_nil <| x_qs <| c_ret <| xr 2 rfl (by cases H; exact q1)
theorem laws_markIntS_ok (w : World) {M0 : List Nat} {p0 : List Int} {p1 : Int} {a_0_0 : Option Addr} {n_0_0 c_0_0 : Nat} {F_0_0 : List Nat} {r : Int × (List Int)} (H : laws_markIntS p0 p1 = some r) (HS : St w M0 [Res.own (eList (eVal (Value.int .i64) (fun _ => rfl)) 3) F_0_0 p0 [.slice a_0_0 n_0_0 c_0_0]] w)  :
    Calls Tryz.prog 71 #[.slice a_0_0 n_0_0 c_0_0, .int .i64 p1] w (fun en w' => ∃ v, en = .returned v ∧ ∃ (F0 : List Nat), v = .int .i64 r.1 ∧ St w M0 [Res.own (eList (eVal (Value.int .i64) (fun _ => rfl)) 3) F0 r.2 [.slice a_0_0 n_0_0 c_0_0]] w') := by
 obtain rfl := own_nS (i := 0) HS rfl
 unfold laws_markIntS at H
 refine f_enter (vs := [.slice a_0_0 p0.length c_0_0, .int .i64 p1]) Tryz.func71 rfl Tryz.ntmps71 rfl (HS) <| c_seq <| c_reg <| ow_batch [.p] rfl <| ow_nil <| x_qs <| c_seq <| c_seq <| c_reg <| ow_batch [.p] rfl <| ow_nil <| x_qs <| c_block <| CW.at (loopI3 (fun (l15 : List Int) (i17 : Int) (i18 : Int) => St w M0 [Res.own (eList (eVal (Value.int .i64) (fun _ => rfl)) 3) F_0_0 l15 [.slice a_0_0 p0.length c_0_0]]) (fun (l15 : List Int) (i17 : Int) (i18 : Int) => [(0, .slice a_0_0 p0.length c_0_0), (1, .int .i64 i17), (5, .int .i64 i18)]) (fun kk => fun (l15 : List Int) (i17 : Int) (i18 : Int) => laws_markIntS_L1 p0 kk l15 i17 i18 = some r) (fun _ _ _ H => ?_) (fun k1 ihk1 l15 i17 i18 H => ?_) Fuel (p0) (p1) (0) (H)) (fun _ h => St.sel [0] rfl rfl h) ⟨rfl, rfl, rfl,  trivial⟩
 ·unfold laws_markIntS_L1 at H
  exact absurd H (by simp)
 ·unfold laws_markIntS_L1 at H
  refine c_seq <| c_seq <| c_reg <| ow_batch [.p, .p, .lenS 59 3 sl59, .p] rfl <| ow_nil <| x_qs <| cI H rfl (fun H => ?_) (fun H => ?_)
  ·exact c_skip <| x_qs <| c_seq <| c_block <| c_seq <| c_reg <| ow_batch [.p, .p, .p] rfl <| bE H fun e24 h25 H => ow_ixE (e := eVal (Value.int .i64) (fun _ => rfl)) (xs := l15) (j := i18) rfl rfl rfl rfl rfl sl59 ty3 rfl (fun w1 hw1 => rds_own (e := eList (eVal (Value.int .i64) (fun _ => rfl)) 3) (r := 0) rfl w1 hw1) h25 (by rw [Nat.mul_one]) <| ow_storeV (i := 0) (j := i18) rfl rfl rfl rfl rfl rfl ty3 rfl h25 (fun _ => rfl) kp <| ow_nil <| x_qs <| c_reg <| ow_batch [.p, .p, .p] rfl <| ow_nil <| x_qb <| x_qs <| c_reg <| ow_batch [.p, .p, .p] rfl <| ow_nil <| x_ql (RW.at (ihk1 ((l15.set i18.toNat i17)) (IntKind.i64.wrap (i17 + 1)) (IntKind.i64.wrap (i18 + 1)) (H)) (fun _ h => St.sel [0] rfl rfl h) ⟨rfl, rfl, rfl, trivial⟩)
  ·exact c_exit <| x_qs_exit <| x_ql_exit <| x_qb_here <| x_qs <| c_seq <| c_reg <| ow_batch [.p, .p] rfl <| ow_nil <| x_qs <| c_ret <| x_retR (rs := [.tmp 4]) (vs := [.int .i64 i17]) rfl ⟨rfl, trivial⟩ (fun w' hw' => by
    obtain rfl := of_some H
    exact ⟨_, rfl, F_0_0, rfl, hw'.sel [0] rfl rfl⟩)
theorem laws_markStringS_ok (w : World) {M0 : List Nat} {p0 : List (List UInt8)} {p1 : Int} {a_0_0 : Option Addr} {n_0_0 c_0_0 : Nat} {F_0_0 : List Nat} {r : Int × (List (List UInt8))} (H : laws_markStringS p0 p1 = some r) (HS : St w M0 [Res.own (eList (eStr) 9) F_0_0 p0 [.slice a_0_0 n_0_0 c_0_0]] w)  :
    Calls Tryz.prog 69 #[.slice a_0_0 n_0_0 c_0_0, .int .i64 p1] w (fun en w' => ∃ v, en = .returned v ∧ ∃ (F0 : List Nat), v = .int .i64 r.1 ∧ St w M0 [Res.own (eList (eStr) 9) F0 r.2 [.slice a_0_0 n_0_0 c_0_0]] w') := by
 obtain rfl := own_nS (i := 0) HS rfl
 unfold laws_markStringS at H
 refine f_enter (vs := [.slice a_0_0 p0.length c_0_0, .int .i64 p1]) Tryz.func69 rfl Tryz.ntmps69 rfl (HS) <| c_seq <| c_reg <| ow_batch [.p] rfl <| ow_nil <| x_qs <| c_seq <| c_seq <| c_reg <| ow_batch [.p] rfl <| ow_nil <| x_qs <| c_block <| CW.at (loopI3 (fun (l18 : List (List UInt8)) (i19 : Int) (i20 : Int) => St w M0 [Res.own (eList (eStr) 9) F_0_0 l18 [.slice a_0_0 p0.length c_0_0]]) (fun (l18 : List (List UInt8)) (i19 : Int) (i20 : Int) => [(0, .slice a_0_0 p0.length c_0_0), (1, .int .i64 i19), (5, .int .i64 i20)]) (fun kk => fun (l18 : List (List UInt8)) (i19 : Int) (i20 : Int) => laws_markStringS_L1 p0 kk l18 i19 i20 = some r) (fun _ _ _ H => ?_) (fun k1 ihk1 l18 i19 i20 H => ?_) Fuel (p0) (p1) (0) (H)) (fun _ h => St.sel [0] rfl rfl h) ⟨rfl, rfl, rfl,  trivial⟩
 ·unfold laws_markStringS_L1 at H
  exact absurd H (by simp)
 ·unfold laws_markStringS_L1 at H
  refine c_seq <| c_seq <| c_reg <| ow_batch [.p, .p, .lenS 23 9 sl23, .p] rfl <| ow_nil <| x_qs <| cI H rfl (fun H => ?_) (fun H => ?_)
  ·exact c_skip <| x_qs <| c_seq <| c_block <| c_seq <| c_reg <| ow_batch [.p, .p, .p] rfl <| bE H fun y28 h29 H => oq rfl (qc rfl fn142 (fun w1 hw1 => laws_markText_ok w1  h29)) tt2 <| bE H fun e30 h31 H => ow_ixE (e := eStr) (xs := l18) (j := i20) rfl rfl rfl rfl rfl sl23 ty9 rfl (fun w1 hw1 => rds_own (e := eList (eStr) 9) (r := 0) rfl w1 hw1) h31 (by rw [Nat.mul_one]) <| ow_storeV (i := 0) (j := i20) rfl rfl rfl rfl rfl rfl ty9 rfl h31 (fun _ => rfl) kp <| ow_nil <| x_qs <| c_reg <| ow_batch [.p, .p, .p] rfl <| ow_nil <| x_qb <| x_qs <| c_reg <| ow_batch [.p, .p, .p] rfl <| ow_nil <| x_ql (RW.at (ihk1 ((l18.set i20.toNat y28)) (IntKind.i64.wrap (i19 + 1)) (IntKind.i64.wrap (i20 + 1)) (H)) (fun _ h => St.sel [0] rfl rfl h) ⟨rfl, rfl, rfl, trivial⟩)
  ·exact c_exit <| x_qs_exit <| x_ql_exit <| x_qb_here <| x_qs <| c_seq <| c_reg <| ow_batch [.p, .p] rfl <| ow_nil <| x_qs <| c_ret <| x_retR (rs := [.tmp 4]) (vs := [.int .i64 i19]) rfl ⟨rfl, trivial⟩ (fun w' hw' => by
    obtain rfl := of_some H
    exact ⟨_, rfl, F_0_0, rfl, hw'.sel [0] rfl rfl⟩)
theorem laws_markAttrS_ok (w : World) {M0 : List Nat} {p0 : List Timpl_Attr} {p1 : Int} {a_0_0 : Option Addr} {n_0_0 c_0_0 : Nat} {F_0_0 : List Nat} {r : Int × (List Timpl_Attr)} (H : laws_markAttrS p0 p1 = some r) (HS : St w M0 [Res.own (eList (eTimpl_Attr) 114) F_0_0 p0 [.slice a_0_0 n_0_0 c_0_0]] w)  :
    Calls Tryz.prog 68 #[.slice a_0_0 n_0_0 c_0_0, .int .i64 p1] w (fun en w' => ∃ v, en = .returned v ∧ ∃ (F0 : List Nat), v = .int .i64 r.1 ∧ St w M0 [Res.own (eList (eTimpl_Attr) 114) F0 r.2 [.slice a_0_0 n_0_0 c_0_0]] w') := by
 obtain rfl := own_nS (i := 0) HS rfl
 unfold laws_markAttrS at H
 refine f_enter (vs := [.slice a_0_0 p0.length c_0_0, .int .i64 p1]) Tryz.func68 rfl Tryz.ntmps68 rfl (HS) <| c_seq <| c_reg <| ow_batch [.p] rfl <| ow_nil <| x_qs <| c_seq <| c_seq <| c_reg <| ow_batch [.p] rfl <| ow_nil <| x_qs <| c_block <| CW.at (loopI4 (fun (l46 : List Timpl_Attr) (F47 : List Nat) (i48 : Int) (i49 : Int) => St w M0 [Res.own (eList (eTimpl_Attr) 114) F47 l46 [.slice a_0_0 p0.length c_0_0]]) (fun (l46 : List Timpl_Attr) (F47 : List Nat) (i48 : Int) (i49 : Int) => [(0, .slice a_0_0 p0.length c_0_0), (1, .int .i64 i48), (5, .int .i64 i49)]) (fun kk => fun (l46 : List Timpl_Attr) (F47 : List Nat) (i48 : Int) (i49 : Int) => laws_markAttrS_L1 p0 kk l46 i48 i49 = some r) (fun _ _ _ _ H => ?_) (fun k1 ihk1 l46 F47 i48 i49 H => ?_) Fuel (p0) (F_0_0) (p1) (0) (H)) (fun _ h => St.sel [0] rfl rfl h) ⟨rfl, rfl, rfl,  trivial⟩
 ·unfold laws_markAttrS_L1 at H
  exact absurd H (by simp)
 ·unfold laws_markAttrS_L1 at H
  refine c_seq <| c_seq <| c_reg <| ow_batch [.p, .p, .lenS 33 114 sl33, .p] rfl <| ow_nil <| x_qs <| cI H rfl (fun H => ?_) (fun H => ?_)
  ·refine c_skip <| x_qs <| c_seq <| c_block <| c_seq <| c_reg <| ow_batch [.p, .p, .p] rfl <| bE H fun y86 h87 H => oq rfl (qc rfl fn142 (fun w1 hw1 => laws_markText_ok w1  h87)) tt2 <| bE H fun e88 h89 H => ow_ex4 rfl (fun w1 hw1 => foc (r := 0) hw1 rfl h89) fun b91 G92 F93 c94 => ow_fact rfl (fun w1 hw1 => hw1.1) fun q90 => ?_
   obtain ⟨ha95, hn96⟩ := q90
   refine ow_st (C' := St w M0 [_, _, _]) rfl (fun w1 hw1 => hw1.2) <| ow_ex3 rfl (fun w1 hw1 => opn_Timpl_Attr (i := 2) hw1 rfl) fun a98 c99 F100 => ow_ex3 rfl (fun _ h => h) fun a101 c102 F103 => ow_fact rfl (fun w1 hw1 => hw1.1) fun q97 => ?_
   subst q97
   refine ow_st (C' := St w M0 [_, _, _, _, _]) rfl (fun w1 hw1 => hw1.2) <| ow_ixH rfl rfl rfl rfl rfl sl33 ty114 rfl (holeIn (p := 1) rfl) hn96 ha95 (idx_some h89).1 <| ow_batch [.fa 114 0 0 fa114_0] rfl <| ow_storeH (off := 0) [vS y86] (p := 1) (c' := [_, _, _]) rfl rfl rfl rfl rfl (by first | rfl | simp only [add_lit, add_add, add_zero]) rfl ty9 rfl rfl (by intro u hu; simp only [List.mem_cons, List.not_mem_nil, or_false] at hu; rcases hu with rfl <;> rfl) rfl rfl rfl kp <| ow_nil <| x_qs <| c_seq <| CW.weak (C' := St w M0 [_, _, _]) ?_ (fun _ h => St.sel [1, 3, 4] rfl rfl h)
   refine c_reg <| ow_batch [.p, .p, .p] rfl <| ow_nil <| x_qs <| c_seq <| c_reg <| ow_batch [.p, .p] rfl <| ow_ixH rfl rfl rfl rfl rfl sl33 ty114 rfl (holeIn (p := 0) rfl) hn96 ha95 (idx_some h89).1 <| ow_batch [.fa 114 1 1 fa114_1] rfl <| o1 rfl (ry_hole1 0 1 rfl rfl rfl ty59 (by first | rfl | simp only [add_lit, add_add, add_zero]) rfl) <| ow_batch [.p] rfl <| bE H fun y104 h105 H => ow_callS rfl fn71 rfl rfl rfl rfl (fun w1 hw1 => laws_markIntS_ok w1  h105 (hw1.carve [1] rfl rfl)) fun v106 w1 w2 hw1 hR108 => ?_
   obtain ⟨F109, rfl, hS107⟩ := hR108
   refine ⟨St w M0 [_, _, _, _], hw1.comp [1] rfl rfl hS107, fun _ _ => trivial, ?_⟩
   refine ow_batch [.p] rfl <| ow_nil <| x_qs <| c_reg <| ow_batch [.p, .p] rfl <| ow_ixH rfl rfl rfl rfl rfl sl33 ty114 rfl (holeIn (p := 0) rfl) hn96 ha95 (idx_some h89).1 <| ow_batch [.fa 114 2 2 fa114_2] rfl <| o1 rfl (ry_hole1 0 2 rfl rfl rfl ty23 (by first | rfl | simp only [add_lit, add_add, add_zero]) rfl) <| ow_batch [.p] rfl <| bE H fun y110 h111 H => ow_callS rfl fn69 rfl rfl rfl rfl (fun w1 hw1 => laws_markStringS_ok w1  h111 (hw1.carve [2] rfl rfl)) fun v112 w1 w2 hw1 hR114 => ?_
   obtain ⟨F115, rfl, hS113⟩ := hR114
   refine ⟨St w M0 [_, _, _, _, _], hw1.comp [2] rfl rfl hS113, fun _ _ => trivial, ?_⟩
   refine ow_batch [.p] rfl <| ow_nil <| x_qb <| x_qs <| CW.weak (C' := St w M0 [_, _, _]) ?_ (fun _ h => St.sel [0, 3, 4] rfl rfl h)
   exact c_reg <| ow_batch [.p, .p, .p] rfl <| ow_nil <| xw_ex (fun w1 hw1 => fus_Timpl_Attr (x0 := y86) [1, 2] hw1 rfl rfl) fun F116 => xw_st (C' := St w M0 [_, _, _, _]) (fun _ h => h) <| xw_ex (fun w1 hw1 => unf (p := 0) (q := 3) hw1 rfl rfl rfl hn96 ha95) fun F117 => xw_st (C' := St w M0 [_, _, _, _, _]) (fun _ h => h) <| x_ql (RW.at (ihk1 ((l46.set i49.toNat (Timpl_Attr.mk y86 y104.2 y110.2))) (F117) (y110.1) (IntKind.i64.wrap (i49 + 1)) (H)) (fun _ h => St.sel [4] rfl rfl h) ⟨rfl, rfl, rfl, trivial⟩)
  ·exact c_exit <| x_qs_exit <| x_ql_exit <| x_qb_here <| x_qs <| c_seq <| c_reg <| ow_batch [.p, .p] rfl <| ow_nil <| x_qs <| c_ret <| x_retR (rs := [.tmp 4]) (vs := [.int .i64 i48]) rfl ⟨rfl, trivial⟩ (fun w' hw' => by
    obtain rfl := of_some H
    exact ⟨_, rfl, F47, rfl, hw'.sel [0] rfl rfl⟩)
theorem laws_markSchema_ok (w : World) {M0 : List Nat} {p0 : Timpl_Schema} {p1 : Int} {a_0_0 : Option Addr} {n_0_0 c_0_0 : Nat} {F_0_0 : List Nat} {a_0_1 : Option Addr} {n_0_1 c_0_1 : Nat} {F_0_1 : List Nat} {r : Int × Timpl_Schema} (H : laws_markSchema p0 p1 = some r) (HS : St w M0 [Res.own (eList (eTimpl_Attr) 114) F_0_0 p0.Attrs_ [.slice a_0_0 n_0_0 c_0_0], Res.own (eList (eStr) 9) F_0_1 p0.Classes_ [.slice a_0_1 n_0_1 c_0_1]] w)  :
    Calls Tryz.prog 17 #[.agg #[.slice a_0_0 n_0_0 c_0_0, .slice a_0_1 n_0_1 c_0_1], .int .i64 p1] w (fun en w' => ∃ v, en = .returned v ∧ ∃ (F0 : List Nat), ∃ (F1 : List Nat), v = .int .i64 r.1 ∧ St w M0 [Res.own (eList (eTimpl_Attr) 114) F0 r.2.Attrs_ [.slice a_0_0 n_0_0 c_0_0], Res.own (eList (eStr) 9) F1 r.2.Classes_ [.slice a_0_1 n_0_1 c_0_1]] w') := by
 obtain rfl := own_nS (i := 0) HS rfl
 obtain rfl := own_nS (i := 1) HS rfl
 unfold laws_markSchema at H
 refine f_enter (vs := [.agg #[.slice a_0_0 p0.Attrs_.length c_0_0, .slice a_0_1 p0.Classes_.length c_0_1], .int .i64 p1]) Tryz.func17 rfl Tryz.ntmps17 rfl (HS) <| c_seq <| c_reg <| ob [.slice a_0_0 p0.Attrs_.length c_0_0, .slice a_0_1 p0.Classes_.length c_0_1] rfl fun b10 => ow_batch [.p] rfl <| ow_nil <| x_qs <| c_seq <| c_reg <| ow_batch [.fa 35 0 0 fa35_0] rfl <| o1 rfl (r1 0 2 rfl ty33 rfl) <| ow_batch [.p] rfl <| bE H fun y11 h12 H => ow_callS rfl fn68 rfl rfl rfl rfl (fun w1 hw1 => laws_markAttrS_ok w1  h12 (hw1.carve [0] rfl rfl)) fun v13 w1 w2 hw1 hR15 => ?_
 obtain ⟨F16, rfl, hS14⟩ := hR15
 refine ⟨St w M0 [_, _, _, _], hw1.comp [0] rfl rfl hS14, fun _ _ => trivial, ?_⟩
 refine ow_batch [.p] rfl <| ow_nil <| x_qs <| c_seq <| c_reg <| ow_batch [.fa 35 1 1 fa35_1] rfl <| o1 rfl (r1 1 2 rfl ty23 rfl) <| ow_batch [.p] rfl <| bE H fun y17 h18 H => ow_callS rfl fn69 rfl rfl rfl rfl (fun w1 hw1 => laws_markStringS_ok w1  h18 (hw1.carve [1] rfl rfl)) fun v19 w1 w2 hw1 hR21 => ?_
 obtain ⟨F22, rfl, hS20⟩ := hR21
 refine ⟨St w M0 [_, _, _, _, _], hw1.comp [1] rfl rfl hS20, fun _ _ => trivial, ?_⟩
 refine ow_batch [.p] rfl <| ow_nil <| x_qs <| c_seq <| CW.weak (C' := St w M0 [_, _, _]) ?_ (fun _ h => St.sel [2, 3, 4] rfl rfl h)
 exact c_reg <| ow_batch [.p, .p] rfl <| ow_nil <| x_qs <| c_ret <| x_retR (rs := [.tmp 4]) (vs := [.int .i64 y17.1]) rfl ⟨rfl, trivial⟩ (fun w' hw' => by
  obtain rfl := of_some H
  exact ⟨_, rfl, F16, F22, rfl, hw'.sel [1, 2] rfl rfl⟩)
theorem laws_markIntSS_ok (w : World) {M0 : List Nat} {p0 : List (List Int)} {p1 : Int} {a_0_0 : Option Addr} {n_0_0 c_0_0 : Nat} {F_0_0 : List Nat} {r : Int × (List (List Int))} (H : laws_markIntSS p0 p1 = some r) (HS : St w M0 [Res.own (eList (eList (eVal (Value.int .i64) (fun _ => rfl)) 3) 59) F_0_0 p0 [.slice a_0_0 n_0_0 c_0_0]] w)  :
    Calls Tryz.prog 94 #[.slice a_0_0 n_0_0 c_0_0, .int .i64 p1] w (fun en w' => ∃ v, en = .returned v ∧ ∃ (F0 : List Nat), v = .int .i64 r.1 ∧ St w M0 [Res.own (eList (eList (eVal (Value.int .i64) (fun _ => rfl)) 3) 59) F0 r.2 [.slice a_0_0 n_0_0 c_0_0]] w') := by
 obtain rfl := own_nS (i := 0) HS rfl
 unfold laws_markIntSS at H
 refine f_enter (vs := [.slice a_0_0 p0.length c_0_0, .int .i64 p1]) Tryz.func94 rfl Tryz.ntmps94 rfl (HS) <| c_seq <| c_reg <| ow_batch [.p] rfl <| ow_nil <| x_qs <| c_seq <| c_seq <| c_reg <| ow_batch [.p] rfl <| ow_nil <| x_qs <| c_block <| CW.at (loopI4 (fun (l34 : List (List Int)) (F35 : List Nat) (i36 : Int) (i37 : Int) => St w M0 [Res.own (eList (eList (eVal (Value.int .i64) (fun _ => rfl)) 3) 59) F35 l34 [.slice a_0_0 p0.length c_0_0]]) (fun (l34 : List (List Int)) (F35 : List Nat) (i36 : Int) (i37 : Int) => [(0, .slice a_0_0 p0.length c_0_0), (1, .int .i64 i36), (5, .int .i64 i37)]) (fun kk => fun (l34 : List (List Int)) (F35 : List Nat) (i36 : Int) (i37 : Int) => laws_markIntSS_L1 p0 kk l34 i36 i37 = some r) (fun _ _ _ _ H => ?_) (fun k1 ihk1 l34 F35 i36 i37 H => ?_) Fuel (p0) (F_0_0) (p1) (0) (H)) (fun _ h => St.sel [0] rfl rfl h) ⟨rfl, rfl, rfl,  trivial⟩
 ·unfold laws_markIntSS_L1 at H
  exact absurd H (by simp)
 ·unfold laws_markIntSS_L1 at H
  refine c_seq <| c_seq <| c_reg <| ow_batch [.p, .p, .lenS 60 59 sl60, .p] rfl <| ow_nil <| x_qs <| cI H rfl (fun H => ?_) (fun H => ?_)
  ·refine c_skip <| x_qs <| c_seq <| c_block <| c_reg <| ow_batch [.p, .p] rfl <| bE H fun e61 h62 H => ow_ex4 rfl (fun w1 hw1 => foc (r := 0) hw1 rfl h62) fun b64 G65 F66 c67 => ow_fact rfl (fun w1 hw1 => hw1.1) fun q63 => ?_
   obtain ⟨ha68, hn69⟩ := q63
   refine ow_st (C' := St w M0 [_, _, _]) rfl (fun w1 hw1 => hw1.2) <| ow_ex2 rfl (fun w1 hw1 => opn_sl (i := 2) hw1 rfl) fun a70 c71 => ow_fact rfl (fun w1 hw1 => hw1.1) fun q72 => ?_
   subst q72
   refine ow_st (C' := St w M0 [_, _, _]) rfl (fun w1 hw1 => hw1.2) <| ow_ixH rfl rfl rfl rfl rfl sl60 ty59 rfl (holeIn (p := 1) rfl) hn69 ha68 (idx_some h62).1 <| o1 rfl (ry_hole1 1 0 rfl rfl rfl ty59 (by first | rfl | simp only [add_lit, add_add, add_zero]) rfl) <| ow_batch [.p] rfl <| bE H fun y73 h74 H => ow_callS rfl fn71 rfl rfl rfl rfl (fun w1 hw1 => laws_markIntS_ok w1  h74 (hw1.carve [2] rfl rfl)) fun v75 w1 w2 hw1 hR77 => ?_
   obtain ⟨F78, rfl, hS76⟩ := hR77
   refine ⟨St w M0 [_, _, _, _], hw1.comp [2] rfl rfl hS76, fun _ _ => trivial, ?_⟩
   refine ow_batch [.p] rfl <| ow_nil <| x_qb <| x_qs <| CW.weak (C' := St w M0 [_, _]) ?_ (fun _ h => St.sel [1, 3] rfl rfl h)
   exact c_reg <| ow_batch [.p, .p, .p] rfl <| ow_nil <| xw_ex (fun w1 hw1 => unf (p := 0) (q := 1) hw1 rfl rfl rfl hn69 ha68) fun F79 => xw_st (C' := St w M0 [_, _, _]) (fun _ h => h) <| x_ql (RW.at (ihk1 ((l34.set i37.toNat y73.2)) (F79) (y73.1) (IntKind.i64.wrap (i37 + 1)) (H)) (fun _ h => St.sel [2] rfl rfl h) ⟨rfl, rfl, rfl, trivial⟩)
  ·exact c_exit <| x_qs_exit <| x_ql_exit <| x_qb_here <| x_qs <| c_seq <| c_reg <| ow_batch [.p, .p] rfl <| ow_nil <| x_qs <| c_ret <| x_retR (rs := [.tmp 4]) (vs := [.int .i64 i36]) rfl ⟨rfl, trivial⟩ (fun w' hw' => by
    obtain rfl := of_some H
    exact ⟨_, rfl, F35, rfl, hw'.sel [0] rfl rfl⟩)
theorem laws_markNodeS_ok (w : World) {M0 : List Nat} {p0 : List Timpl_Node} {p1 : Int} {a_0_0 : Option Addr} {n_0_0 c_0_0 : Nat} {F_0_0 : List Nat} {r : Int × (List Timpl_Node)} (H : laws_markNodeS p0 p1 = some r) (HS : St w M0 [Res.own (eList (eTimpl_Node) 118) F_0_0 p0 [.slice a_0_0 n_0_0 c_0_0]] w)  :
    Calls Tryz.prog 70 #[.slice a_0_0 n_0_0 c_0_0, .int .i64 p1] w (fun en w' => ∃ v, en = .returned v ∧ ∃ (F0 : List Nat), v = .int .i64 r.1 ∧ St w M0 [Res.own (eList (eTimpl_Node) 118) F0 r.2 [.slice a_0_0 n_0_0 c_0_0]] w') := by
 obtain rfl := own_nS (i := 0) HS rfl
 unfold laws_markNodeS at H
 refine f_enter (vs := [.slice a_0_0 p0.length c_0_0, .int .i64 p1]) Tryz.func70 rfl Tryz.ntmps70 rfl (HS) <| c_seq <| c_reg <| ow_batch [.p] rfl <| ow_nil <| x_qs <| c_seq <| c_seq <| c_reg <| ow_batch [.p] rfl <| ow_nil <| x_qs <| c_block <| CW.at (loopI4 (fun (l62 : List Timpl_Node) (F63 : List Nat) (i65 : Int) (i66 : Int) => St w M0 [Res.own (eList (eTimpl_Node) 118) F63 l62 [.slice a_0_0 p0.length c_0_0]]) (fun (l62 : List Timpl_Node) (F63 : List Nat) (i65 : Int) (i66 : Int) => [(0, .slice a_0_0 p0.length c_0_0), (1, .int .i64 i65), (5, .int .i64 i66)]) (fun kk => fun (l62 : List Timpl_Node) (F63 : List Nat) (i65 : Int) (i66 : Int) => laws_markNodeS_L1 p0 kk l62 i65 i66 = some r) (fun _ _ _ _ H => ?_) (fun k1 ihk1 l62 F63 i65 i66 H => ?_) Fuel (p0) (F_0_0) (p1) (0) (H)) (fun _ h => St.sel [0] rfl rfl h) ⟨rfl, rfl, rfl,  trivial⟩
 ·unfold laws_markNodeS_L1 at H
  exact absurd H (by simp)
 ·unfold laws_markNodeS_L1 at H
  refine c_seq <| c_seq <| c_reg <| ow_batch [.p, .p, .lenS 37 118 sl37, .p] rfl <| ow_nil <| x_qs <| cI H rfl (fun H => ?_) (fun H => ?_)
  ·refine c_skip <| x_qs <| c_seq <| c_block <| c_seq <| c_reg <| ow_batch [.p, .p, .p, .p, .p] rfl <| bE H fun e119 h120 H => ow_ex4 rfl (fun w1 hw1 => foc (r := 0) hw1 rfl h120) fun b122 G123 F124 c125 => ow_fact rfl (fun w1 hw1 => hw1.1) fun q121 => ?_
   obtain ⟨ha126, hn127⟩ := q121
   refine ow_st (C' := St w M0 [_, _, _]) rfl (fun w1 hw1 => hw1.2) <| ow_ex3 rfl (fun w1 hw1 => opn_Timpl_Node (i := 2) hw1 rfl) fun a129 c130 F131 => ow_ex3 rfl (fun _ h => h) fun a132 c133 F134 => ow_ex3 rfl (fun _ h => h) fun a135 c136 F137 => ow_ex3 rfl (fun _ h => h) fun a138 c139 F140 => ow_fact rfl (fun w1 hw1 => hw1.1) fun q128 => ?_
   subst q128
   refine ow_st (C' := St w M0 [_, _, _, _, _, _, _]) rfl (fun w1 hw1 => hw1.2) <| ow_ixH rfl rfl rfl rfl rfl sl37 ty118 rfl (holeIn (p := 1) rfl) hn127 ha126 (idx_some h120).1 <| ow_batch [.fa 118 0 0 fa118_0] rfl <| ow_storeH (off := 0) [.bool ((Int.tmod i65 3) == 0)] (p := 1) (c' := [_, _, _, _, _, _, _, _, _, _, _, _]) rfl rfl rfl rfl rfl (by first | rfl | simp only [add_lit, add_add, add_zero]) rfl ty4 rfl rfl (by intro u hu; simp only [List.mem_cons, List.not_mem_nil, or_false] at hu; rcases hu with rfl <;> rfl) rfl rfl rfl kp <| ow_nil <| x_qs <| c_seq <| CW.weak (C' := St w M0 [_, _, _, _, _]) ?_ (fun _ h => St.sel [1, 3, 4, 5, 6] rfl rfl h)
   refine c_reg <| ow_batch [.p, .p, .p] rfl <| ow_nil <| x_qs <| c_seq <| c_reg <| ow_batch [.p, .p, .p] rfl <| ow_ixH rfl rfl rfl rfl rfl sl37 ty118 rfl (holeIn (p := 0) rfl) hn127 ha126 (idx_some h120).1 <| ow_batch [.fa 118 1 1 fa118_1, .fa 116 0 0 fa116_0] rfl <| ow_storeH (off := 1) [.int .i64 (IntKind.i64.wrap (i65 + 1))] (p := 0) (c' := [_, _, _, _, _, _, _, _, _, _, _, _]) rfl rfl rfl rfl rfl (by first | rfl | simp only [add_lit, add_add, add_zero]) rfl ty3 rfl rfl (by intro u hu; simp only [List.mem_cons, List.not_mem_nil, or_false] at hu; rcases hu with rfl <;> rfl) rfl rfl rfl kp <| ow_nil <| x_qs <| c_seq <| c_reg <| ow_batch [.p, .p, .p] rfl <| ow_nil <| x_qs <| c_seq <| c_reg <| ow_batch [.p, .p, .p] rfl <| ow_ixH rfl rfl rfl rfl rfl sl37 ty118 rfl (holeIn (p := 0) rfl) hn127 ha126 (idx_some h120).1 <| ow_batch [.fa 118 1 1 fa118_1, .fa 116 1 1 fa116_1] rfl <| ow_storeH (off := 2) [.int .i64 (IntKind.i64.wrap ((IntKind.i64.wrap (i65 + 1)) + 1))] (p := 0) (c' := [_, _, _, _, _, _, _, _, _, _, _, _]) rfl rfl rfl rfl rfl (by first | rfl | simp only [add_lit, add_add, add_zero]) rfl ty3 rfl rfl (by intro u hu; simp only [List.mem_cons, List.not_mem_nil, or_false] at hu; rcases hu with rfl <;> rfl) rfl rfl rfl kp <| ow_nil <| x_qs <| c_seq <| c_reg <| ow_batch [.p, .p, .p] rfl <| ow_nil <| x_qs <| c_seq <| c_reg <| ow_batch [.p, .p] rfl <| ow_ixH rfl rfl rfl rfl rfl sl37 ty118 rfl (holeIn (p := 0) rfl) hn127 ha126 (idx_some h120).1 <| ow_batch [.fa 118 2 3 fa118_2] rfl <| o1 rfl (ry_hole1 0 3 rfl rfl rfl ty59 (by first | rfl | simp only [add_lit, add_add, add_zero]) rfl) <| ow_batch [.p] rfl <| bE H fun y141 h142 H => ow_callS rfl fn71 rfl rfl rfl rfl (fun w1 hw1 => laws_markIntS_ok w1  h142 (hw1.carve [1] rfl rfl)) fun v143 w1 w2 hw1 hR145 => ?_
   obtain ⟨F146, rfl, hS144⟩ := hR145
   refine ⟨St w M0 [_, _, _, _, _, _], hw1.comp [1] rfl rfl hS144, fun _ _ => trivial, ?_⟩
   refine ow_batch [.p] rfl <| ow_nil <| x_qs <| c_seq <| c_reg <| ow_batch [.p, .p, .p] rfl <| ow_ixH rfl rfl rfl rfl rfl sl37 ty118 rfl (holeIn (p := 0) rfl) hn127 ha126 (idx_some h120).1 <| ow_batch [.fa 118 3 4 fa118_3] rfl <| ow_storeH (off := 4) [.int .i64 y141.1] (p := 0) (c' := [_, _, _, _, _, _, _, _, _, _, _, _]) rfl rfl rfl rfl rfl (by first | rfl | simp only [add_lit, add_add, add_zero]) rfl ty3 rfl rfl (by intro u hu; simp only [List.mem_cons, List.not_mem_nil, or_false] at hu; rcases hu with rfl <;> rfl) rfl rfl rfl kp <| ow_nil <| x_qs <| c_seq <| c_reg <| ow_batch [.p, .p, .p] rfl <| ow_nil <| x_qs <| c_seq <| c_reg <| ow_batch [.p, .p] rfl <| ow_ixH rfl rfl rfl rfl rfl sl37 ty118 rfl (holeIn (p := 0) rfl) hn127 ha126 (idx_some h120).1 <| ow_batch [.fa 118 4 5 fa118_4, .fa 62 0 0 fa62_0] rfl <| o1 rfl (ry_hole1 0 5 rfl rfl rfl ty59 (by first | rfl | simp only [add_lit, add_add, add_zero]) rfl) <| ow_batch [.p] rfl <| bE H fun y147 h148 H => ow_callS rfl fn71 rfl rfl rfl rfl (fun w1 hw1 => laws_markIntS_ok w1  h148 (hw1.carve [2] rfl rfl)) fun v149 w1 w2 hw1 hR151 => ?_
   obtain ⟨F152, rfl, hS150⟩ := hR151
   refine ⟨St w M0 [_, _, _, _, _, _, _], hw1.comp [2] rfl rfl hS150, fun _ _ => trivial, ?_⟩
   refine ow_batch [.p] rfl <| ow_nil <| x_qs <| c_seq <| CW.weak (C' := St w M0 [_, _, _, _, _]) ?_ (fun _ h => St.sel [0, 3, 4, 5, 6] rfl rfl h)
   refine c_reg <| ow_batch [.p, .p] rfl <| ow_ixH rfl rfl rfl rfl rfl sl37 ty118 rfl (holeIn (p := 0) rfl) hn127 ha126 (idx_some h120).1 <| ow_batch [.fa 118 4 5 fa118_4, .fa 62 1 1 fa62_1] rfl <| o1 rfl (ry_hole1 0 6 rfl rfl rfl ty60 (by first | rfl | simp only [add_lit, add_add, add_zero]) rfl) <| ow_batch [.p] rfl <| bE H fun y153 h154 H => ow_callS rfl fn94 rfl rfl rfl rfl (fun w1 hw1 => laws_markIntSS_ok w1  h154 (hw1.carve [1] rfl rfl)) fun v155 w1 w2 hw1 hR157 => ?_
   obtain ⟨F158, rfl, hS156⟩ := hR157
   refine ⟨St w M0 [_, _, _, _, _, _], hw1.comp [1] rfl rfl hS156, fun _ _ => trivial, ?_⟩
   refine ow_batch [.p] rfl <| ow_nil <| x_qs <| c_seq <| c_reg <| ow_batch [.p, .p, .p] rfl <| ow_ixH rfl rfl rfl rfl rfl sl37 ty118 rfl (holeIn (p := 0) rfl) hn127 ha126 (idx_some h120).1 <| ow_batch [.fa 118 5 7 fa118_5] rfl <| ow_storeH (off := 7) [.int .i64 y153.1] (p := 0) (c' := [_, _, _, _, _, _, _, _, _, _, _, _]) rfl rfl rfl rfl rfl (by first | rfl | simp only [add_lit, add_add, add_zero]) rfl ty3 rfl rfl (by intro u hu; simp only [List.mem_cons, List.not_mem_nil, or_false] at hu; rcases hu with rfl <;> rfl) rfl rfl rfl kp <| ow_nil <| x_qs <| c_seq <| c_reg <| ow_batch [.p, .p, .p] rfl <| ow_nil <| x_qs <| c_seq <| c_reg <| ow_batch [.p, .p] rfl <| ow_ixH rfl rfl rfl rfl rfl sl37 ty118 rfl (holeIn (p := 0) rfl) hn127 ha126 (idx_some h120).1 <| ow_batch [.fa 118 6 8 fa118_6] rfl <| o1 rfl (ry_hole1 0 8 rfl rfl rfl ty59 (by first | rfl | simp only [add_lit, add_add, add_zero]) rfl) <| ow_batch [.p] rfl <| bE H fun y159 h160 H => ow_callS rfl fn71 rfl rfl rfl rfl (fun w1 hw1 => laws_markIntS_ok w1  h160 (hw1.carve [2] rfl rfl)) fun v161 w1 w2 hw1 hR163 => ?_
   obtain ⟨F164, rfl, hS162⟩ := hR163
   refine ⟨St w M0 [_, _, _, _, _, _, _], hw1.comp [2] rfl rfl hS162, fun _ _ => trivial, ?_⟩
   refine ow_batch [.p] rfl <| ow_nil <| x_qs <| c_seq <| CW.weak (C' := St w M0 [_, _, _, _, _]) ?_ (fun _ h => St.sel [0, 3, 4, 5, 6] rfl rfl h)
   refine c_reg <| ow_batch [.p, .p, .p] rfl <| ow_ixH rfl rfl rfl rfl rfl sl37 ty118 rfl (holeIn (p := 0) rfl) hn127 ha126 (idx_some h120).1 <| ow_batch [.fa 118 7 9 fa118_7] rfl <| ow_storeH (off := 9) [.int .i64 y159.1] (p := 0) (c' := [_, _, _, _, _, _, _, _, _, _, _, _]) rfl rfl rfl rfl rfl (by first | rfl | simp only [add_lit, add_add, add_zero]) rfl ty3 rfl rfl (by intro u hu; simp only [List.mem_cons, List.not_mem_nil, or_false] at hu; rcases hu with rfl <;> rfl) rfl rfl rfl kp <| ow_nil <| x_qs <| c_seq <| c_reg <| ow_batch [.p, .p, .p] rfl <| ow_nil <| x_qs <| c_seq <| c_reg <| ow_batch [.p, .p, .p] rfl <| ow_ixH rfl rfl rfl rfl rfl sl37 ty118 rfl (holeIn (p := 0) rfl) hn127 ha126 (idx_some h120).1 <| ow_batch [.fa 118 8 10 fa118_8] rfl <| ow_storeH (off := 10) [.int .i64 (IntKind.i64.wrap (y159.1 + 1))] (p := 0) (c' := [_, _, _, _, _, _, _, _, _, _, _, _]) rfl rfl rfl rfl rfl (by first | rfl | simp only [add_lit, add_add, add_zero]) rfl ty3 rfl rfl (by intro u hu; simp only [List.mem_cons, List.not_mem_nil, or_false] at hu; rcases hu with rfl <;> rfl) rfl rfl rfl kp <| ow_nil <| x_qs <| c_seq <| c_reg <| ow_batch [.p, .p, .p] rfl <| ow_nil <| x_qs <| c_seq <| c_reg <| ow_batch [.p, .p, .p] rfl <| ow_ixH rfl rfl rfl rfl rfl sl37 ty118 rfl (holeIn (p := 0) rfl) hn127 ha126 (idx_some h120).1 <| ow_batch [.fa 118 9 11 fa118_9] rfl <| ow_storeH (off := 11) [.int .i64 (IntKind.i64.wrap ((IntKind.i64.wrap (y159.1 + 1)) + 1))] (p := 0) (c' := [_, _, _, _, _, _, _, _, _, _, _, _]) rfl rfl rfl rfl rfl (by first | rfl | simp only [add_lit, add_add, add_zero]) rfl ty3 rfl rfl (by intro u hu; simp only [List.mem_cons, List.not_mem_nil, or_false] at hu; rcases hu with rfl <;> rfl) rfl rfl rfl kp <| ow_nil <| x_qs <| c_reg <| ow_batch [.p, .p, .p] rfl <| ow_nil <| x_qb <| x_qs <| c_reg <| ow_batch [.p, .p, .p] rfl <| ?_
   exact ow_nil <| xw_ex (fun w1 hw1 => fus_Timpl_Node (x0 := ((Int.tmod i65 3) == 0)) (x1 := IntKind.i64.wrap (i65 + 1)) (x2 := IntKind.i64.wrap ((IntKind.i64.wrap (i65 + 1)) + 1)) (x4 := y141.1) (x7 := y153.1) (x9 := y159.1) (x10 := IntKind.i64.wrap (y159.1 + 1)) (x11 := IntKind.i64.wrap ((IntKind.i64.wrap (y159.1 + 1)) + 1)) [1, 2, 3, 4] hw1 rfl rfl) fun F165 => xw_st (C' := St w M0 [_, _, _, _, _, _]) (fun _ h => h) <| xw_ex (fun w1 hw1 => unf (p := 0) (q := 5) hw1 rfl rfl rfl hn127 ha126) fun F166 => xw_st (C' := St w M0 [_, _, _, _, _, _, _]) (fun _ h => h) <| x_ql (RW.at (ihk1 ((l62.set i66.toNat (Timpl_Node.mk ((Int.tmod i65 3) == 0) (Timpl_Fork.mk (IntKind.i64.wrap (i65 + 1)) (IntKind.i64.wrap ((IntKind.i64.wrap (i65 + 1)) + 1))) y141.2 y141.1 (Timpl_Stats.mk y147.2 y153.2) y153.1 y159.2 y159.1 (IntKind.i64.wrap (y159.1 + 1)) (IntKind.i64.wrap ((IntKind.i64.wrap (y159.1 + 1)) + 1))))) (F166) (IntKind.i64.wrap ((IntKind.i64.wrap ((IntKind.i64.wrap (y159.1 + 1)) + 1)) + 1)) (IntKind.i64.wrap (i66 + 1)) (H)) (fun _ h => St.sel [6] rfl rfl h) ⟨rfl, rfl, rfl, trivial⟩)
  ·exact c_exit <| x_qs_exit <| x_ql_exit <| x_qb_here <| x_qs <| c_seq <| c_reg <| ow_batch [.p, .p] rfl <| ow_nil <| x_qs <| c_ret <| x_retR (rs := [.tmp 4]) (vs := [.int .i64 i65]) rfl ⟨rfl, trivial⟩ (fun w' hw' => by
    obtain rfl := of_some H
    exact ⟨_, rfl, F63, rfl, hw'.sel [0] rfl rfl⟩)
theorem laws_markTree_ok (w : World) {M0 : List Nat} {p0 : Timpl_Tree} {p1 : Int} {a_0_0 : Option Addr} {n_0_0 c_0_0 : Nat} {F_0_0 : List Nat} {r : Int × Timpl_Tree} (H : laws_markTree p0 p1 = some r) (HS : St w M0 [Res.own (eList (eTimpl_Node) 118) F_0_0 p0.Nodes_ [.slice a_0_0 n_0_0 c_0_0]] w)  :
    Calls Tryz.prog 18 #[.agg #[.slice a_0_0 n_0_0 c_0_0, .int .i64 p0.Seen_], .int .i64 p1] w (fun en w' => ∃ v, en = .returned v ∧ ∃ (F0 : List Nat), v = .int .i64 r.1 ∧ St w M0 [Res.own (eList (eTimpl_Node) 118) F0 r.2.Nodes_ [.slice a_0_0 n_0_0 c_0_0]] w') := by
 obtain rfl := own_nS (i := 0) HS rfl
 unfold laws_markTree at H
 refine f_enter (vs := [.agg #[.slice a_0_0 p0.Nodes_.length c_0_0, .int .i64 p0.Seen_], .int .i64 p1]) Tryz.func18 rfl Tryz.ntmps18 rfl (HS) <| c_seq <| c_reg <| ob [.slice a_0_0 p0.Nodes_.length c_0_0, .int .i64 p0.Seen_] rfl fun b10 => ow_batch [.p] rfl <| ow_nil <| x_qs <| c_seq <| c_reg <| ow_batch [.fa 39 0 0 fa39_0] rfl <| o1 rfl (r1 0 1 rfl ty37 rfl) <| ow_batch [.p] rfl <| bE H fun y11 h12 H => ow_callS rfl fn70 rfl rfl rfl rfl (fun w1 hw1 => laws_markNodeS_ok w1  h12 (hw1.carve [0] rfl rfl)) fun v13 w1 w2 hw1 hR15 => ?_
 obtain ⟨F16, rfl, hS14⟩ := hR15
 refine ⟨St w M0 [_, _, _], hw1.comp [0] rfl rfl hS14, fun _ _ => trivial, ?_⟩
 exact ow_batch [.p] rfl <| ow_nil <| x_qs <| c_seq <| c_reg <| ow_batch [.p, .p] rfl <| ow_nil <| x_qs <| c_ret <| x_retR (rs := [.tmp 4]) (vs := [.int .i64 y11.1]) rfl ⟨rfl, trivial⟩ (fun w' hw' => by
  obtain rfl := of_some H
  exact ⟨_, rfl, F16, rfl, hw'.sel [2] rfl rfl⟩)
theorem laws_heldIntS_ok (w : World) {p0 : List Int} {p1 : Int} {a_0 : Option Addr} {n_0 c_0 : Nat} {r : Int} (H : laws_heldIntS p0 p1 = some r)  (g0 : (eList (eVal (Value.int .i64) (fun _ => rfl)) 3).rd w [] p0 [.slice a_0 n_0 c_0]) :
    Calls Tryz.prog 72 #[.slice a_0 n_0 c_0, .int .i64 p1] w (fun en w' => en = .returned (.int .i64 r) ∧ Ext [] w w') := by
 obtain rfl := rd_n g0
 unfold laws_heldIntS at H
 refine f_enter (vs := [.slice a_0 p0.length c_0, .int .i64 p1]) Tryz.func72 rfl Tryz.ntmps72 rfl (St.init w []) <| c_seq <| c_reg <| ow_batch [.p] rfl <| ow_nil <| x_qs <| c_seq <| c_seq <| c_reg <| ow_batch [.p] rfl <| ow_nil <| x_qs <| c_block <| CW.at (loopI2 (fun (i14 : Int) (i15 : Int) => St w [] []) (fun (i14 : Int) (i15 : Int) => [(0, .slice a_0 p0.length c_0), (1, .int .i64 i14), (5, .int .i64 i15)]) (fun kk => fun (i14 : Int) (i15 : Int) => laws_heldIntS_L1 p0 kk i14 i15 = some r) (fun _ _ H => ?_) (fun k1 ihk1 i14 i15 H => ?_) Fuel (p1) (0) (H)) (fun _ h => St.sel [] rfl rfl h) ⟨rfl, rfl, rfl,  trivial⟩
 ·unfold laws_heldIntS_L1 at H
  exact absurd H (by simp)
 ·unfold laws_heldIntS_L1 at H
  refine c_seq <| c_seq <| c_reg <| ow_batch [.p, .p, .lenS 59 3 sl59, .p] rfl <| ow_nil <| x_qs <| cI H rfl (fun H => ?_) (fun H => ?_)
  ·refine c_skip <| x_qs <| c_seq <| c_block <| c_seq <| c_seq <| c_reg <| ow_batch [.p, .p] rfl <| bE H fun e20 h21 H => ow_ixE (e := eVal (Value.int .i64) (fun _ => rfl)) (xs := p0) (j := i15) rfl rfl rfl rfl rfl sl59 ty3 rfl (fun w1 hw1 => rds_bor g0 w1 hw1) h21 (by rw [Nat.mul_one]) <| o1 rfl (ry_load1 rfl rfl ty3 (at_elV (fun w1 hw1 => rds_bor g0 w1 hw1) h21)) <| ow_batch [.p, .p] rfl <| ow_nil <| x_qs <| cI H rfl (fun H => ?_) (fun H => ?_)
   ·exact c_seq <| c_reg <| ow_batch [.p] rfl <| ow_nil <| x_qs <| c_ret <| x_qs_ret <| x_qb_ret <| x_qs_ret <| x_ql_ret <| x_qb_ret <| x_qs_ret <| xr 4 rfl (by cases H; exact q1)
   ·exact c_skip <| x_qs <| c_reg <| ow_batch [.p, .p, .p] rfl <| ow_nil <| x_qb <| x_qs <| c_reg <| ow_batch [.p, .p, .p] rfl <| ow_nil <| x_ql (RW.at (ihk1 (IntKind.i64.wrap (i14 + 1)) (IntKind.i64.wrap (i15 + 1)) (H)) (fun _ h => St.sel [] rfl rfl h) ⟨rfl, rfl, rfl, trivial⟩)
  ·exact c_exit <| x_qs_exit <| x_ql_exit <| x_qb_here <| x_qs <| c_seq <| c_reg <| ow_batch [.p, .p] rfl <| ow_nil <| x_qs <| c_ret <| xr 4 rfl (by cases H; exact q1)
theorem laws_heldIntSS_ok (w : World) {p0 : List (List Int)} {p1 : Int} {a_0 : Option Addr} {n_0 c_0 : Nat} {r : Int} (H : laws_heldIntSS p0 p1 = some r)  (g0 : (eList (eList (eVal (Value.int .i64) (fun _ => rfl)) 3) 59).rd w [] p0 [.slice a_0 n_0 c_0]) :
    Calls Tryz.prog 95 #[.slice a_0 n_0 c_0, .int .i64 p1] w (fun en w' => en = .returned (.int .i64 r) ∧ Ext [] w w') := by
 obtain rfl := rd_n g0
 unfold laws_heldIntSS at H
 refine f_enter (vs := [.slice a_0 p0.length c_0, .int .i64 p1]) Tryz.func95 rfl Tryz.ntmps95 rfl (St.init w []) <| c_seq <| c_reg <| ow_batch [.p] rfl <| ow_nil <| x_qs <| c_seq <| c_seq <| c_reg <| ow_batch [.p] rfl <| ow_nil <| x_qs <| c_block <| CW.at (loopI2 (fun (i22 : Int) (i23 : Int) => St w [] []) (fun (i22 : Int) (i23 : Int) => [(0, .slice a_0 p0.length c_0), (1, .int .i64 i22), (5, .int .i64 i23)]) (fun kk => fun (i22 : Int) (i23 : Int) => laws_heldIntSS_L1 p0 kk i22 i23 = some r) (fun _ _ H => ?_) (fun k1 ihk1 i22 i23 H => ?_) Fuel (p1) (0) (H)) (fun _ h => St.sel [] rfl rfl h) ⟨rfl, rfl, rfl,  trivial⟩
 ·unfold laws_heldIntSS_L1 at H
  exact absurd H (by simp)
 ·unfold laws_heldIntSS_L1 at H
  refine c_seq <| c_seq <| c_reg <| ow_batch [.p, .p, .lenS 60 59 sl60, .p] rfl <| ow_nil <| x_qs <| cI H rfl (fun H => ?_) (fun H => ?_)
  ·refine c_skip <| x_qs <| c_seq <| c_block <| c_seq <| c_reg <| ow_batch [.p, .p] rfl <| bE H fun e36 h37 H => ow_ixB rfl rfl rfl rfl rfl sl60 ty59 rfl g0 h37 fun q40 c41 hd38 hA39 => ?_
   obtain ⟨a42, c43, rfl⟩ := rd_sl1 hd38
   refine o1 rfl (ry_load1 rfl rfl ty59 (at_bor bor hA39)) <| ow_batch [.p] rfl <| bE H fun y44 h45 H => oq rfl (qc rfl fn72 (fun w1 hw1 => laws_heldIntS_ok w1  h45 (rds_bor hd38 w1 hw1))) tt2 <| ow_batch [.p] rfl <| ow_nil <| x_qs <| c_seq <| c_reg <| ow_batch [.p, .p] rfl <| ow_nil <| x_qs <| cI H rfl (fun H => ?_) (fun H => ?_)
   ·exact c_seq <| c_reg <| ow_batch [.p] rfl <| ow_nil <| x_qs <| c_ret <| x_qb_ret <| x_qs_ret <| x_ql_ret <| x_qb_ret <| x_qs_ret <| xr 4 rfl (by cases H; exact q1)
   ·exact c_skip <| x_qb <| x_qs <| c_reg <| ow_batch [.p, .p, .p] rfl <| ow_nil <| x_ql (RW.at (ihk1 (y44) (IntKind.i64.wrap (i23 + 1)) (H)) (fun _ h => St.sel [] rfl rfl h) ⟨rfl, rfl, rfl, trivial⟩)
  ·exact c_exit <| x_qs_exit <| x_ql_exit <| x_qb_here <| x_qs <| c_seq <| c_reg <| ow_batch [.p, .p] rfl <| ow_nil <| x_qs <| c_ret <| xr 4 rfl (by cases H; exact q1)
theorem impl_NodeTruth_ok (w : World) {M0 : List Nat} {p0 : Timpl_Schema} {p1 : Timpl_Tree} {p2 : List Timpl_Entry} {p3 : Int} {cs0 : List Value} {cs1 : List Value} {a_2 : Option Addr} {n_2 c_2 : Nat} {r : Timpl_Stats} (H : impl_NodeTruth p0 p1 p2 p3 = some r) (HS : St w M0 [] w) (g0 : (eTimpl_Schema).rd w M0 p0 cs0) (g1 : (eTimpl_Tree).rd w M0 p1 cs1) (g2 : (eList (eTimpl_Entry) 144).rd w M0 p2 [.slice a_2 n_2 c_2]) :
    Calls Tryz.prog 28 #[.agg cs0.toArray, .agg cs1.toArray, .slice a_2 n_2 c_2, .int .i64 p3] w (fun en w' => ∃ v, en = .returned v ∧ ∃ (a0 : Option Addr), ∃ (n0 : Nat), ∃ (c0 : Nat), ∃ (F0 : List Nat), ∃ (a1 : Option Addr), ∃ (n1 : Nat), ∃ (c1 : Nat), ∃ (F1 : List Nat), v = .agg #[.slice a0 n0 c0, .slice a1 n1 c1] ∧ St w M0 [Res.own (eList (eVal (Value.int .i64) (fun _ => rfl)) 3) F0 r.Totals_ [.slice a0 n0 c0], Res.own (eList (eList (eVal (Value.int .i64) (fun _ => rfl)) 3) 59) F1 r.Cells_ [.slice a1 n1 c1]] w') := by
 obtain ⟨c10, c11, rfl, g12, g13⟩ := rdo_Timpl_Schema g0
 obtain ⟨a14, c15, rfl⟩ := rd_sl1 g12
 obtain ⟨a16, c17, rfl⟩ := rd_sl1 g13
 obtain ⟨c18, c19, rfl, g20, g21⟩ := rdo_Timpl_Tree g1
 obtain ⟨a22, c23, rfl⟩ := rd_sl1 g20
 obtain rfl : c19 = [.int .i64 p1.Seen_] := g21
 obtain rfl := rd_n g2
 unfold impl_NodeTruth at H
 refine f_enter (vs := [.agg #[.slice a14 p0.Attrs_.length c15, .slice a16 p0.Classes_.length c17], .agg #[.slice a22 p1.Nodes_.length c23, .int .i64 p1.Seen_], .slice a_2 p2.length c_2, .int .i64 p3]) Tryz.func28 rfl Tryz.ntmps28 rfl (HS) <| c_seq <| c_reg <| ob [.slice a14 p0.Attrs_.length c15, .slice a16 p0.Classes_.length c17] rfl fun b24 => ob [.slice a22 p1.Nodes_.length c23, .int .i64 p1.Seen_] rfl fun b25 => ow_alloc rfl rfl rfl rfl ty62 (fun _ => kp) fun b26 => ow_nil <| x_qs <| c_seq <| c_seq <| c_reg <| o1 rfl (rx 0 0 [.slice a14 p0.Attrs_.length c15, .slice a16 p0.Classes_.length c17] rfl ty35 rfl) <| o1 rfl (rx 0 1 [.slice a22 p1.Nodes_.length c23, .int .i64 p1.Seen_] rfl ty39 rfl) <| bE H fun y27 h28 H => oq rfl (qc rfl fn59 (fun w1 hw1 => impl_TreeOk_ok w1 (cs0 := [.slice a14 p0.Attrs_.length c15, .slice a16 p0.Classes_.length c17]) (cs1 := [.slice a22 p1.Nodes_.length c23, .int .i64 p1.Seen_]) h28 (rdm_Timpl_Schema (x := p0) (c0 := [.slice a14 p0.Attrs_.length c15]) (c1 := [.slice a16 p0.Classes_.length c17]) (rds_bor g12 w1 hw1) (rds_bor g13 w1 hw1)) (rdm_Timpl_Tree (x := p1) (c0 := [.slice a22 p1.Nodes_.length c23]) (c1 := [.int .i64 p1.Seen_]) (rds_bor g20 w1 hw1) rfl))) tt2 <| ow_batch [.p, .p] rfl <| bE H fun u29 hu33 H => ow_cut [(21, .bool u29), (2, .slice a_2 p2.length c_2), (3, .int .i64 p3), (4, .pointer (some ⟨b24, 0, none⟩)), (5, .pointer (some ⟨b25, 0, none⟩)), (8, .pointer (some ⟨b26, 0, none⟩))] 5 ?_ (fun key => OW.sub (R := [(2, .slice a_2 p2.length c_2), (3, .int .i64 p3), (4, .pointer (some ⟨b24, 0, none⟩)), (5, .pointer (some ⟨b25, 0, none⟩)), (8, .pointer (some ⟨b26, 0, none⟩)), (16, .bool (!y27))]) ?_ (sb rfl))
 ·refine ow_batch [.p] rfl <| bE H fun u34 hu38 H => ow_cut [(30, .bool u34), (2, .slice a_2 p2.length c_2), (3, .int .i64 p3), (4, .pointer (some ⟨b24, 0, none⟩)), (5, .pointer (some ⟨b25, 0, none⟩)), (8, .pointer (some ⟨b26, 0, none⟩))] 8 ?_ (fun key => OW.sub (R := [(2, .slice a_2 p2.length c_2), (3, .int .i64 p3), (4, .pointer (some ⟨b24, 0, none⟩)), (5, .pointer (some ⟨b25, 0, none⟩)), (8, .pointer (some ⟨b26, 0, none⟩)), (22, .bool u29)]) ?_ (sb rfl))
  ·refine ow_nil <| x_qs <| cI H rfl (fun H => ?_) (fun H => ?_)
   ·exact c_seq <| c_reg <| o1 rfl (ry_build2 [] [.slice none 0 0, .slice none 0 0] rfl rfl ty62 fs62 rfl trivial rfl) <| sC 0 [.slice none 0 0, .slice none 0 0] [_, _] 2 rfl ty62 rfl <| ow_nil <| x_qs <| c_ret <| x_qs_ret <| xw_st (fun _ h => St.pushNil (e := eVal (Value.int .i64) (fun _ => rfl)) (T := 3) h) <| xw_st (fun _ h => St.pushNil (e := eList (eVal (Value.int .i64) (fun _ => rfl)) 3) (T := 59) h) <| x_retR (rs := [.cell 8 62]) (vs := [.agg #[.slice none 0 0, .slice none 0 0]]) rfl ⟨⟨_, [.slice none 0 0, .slice none 0 0], _, _, _, rfl, ty62, (at_box (T := 62) 0 (boxIn (i := 2) rfl) rfl), rfl, rfl⟩, trivial⟩ (fun w' hw' => by
     obtain rfl := of_some H
     exact ⟨_, rfl, none, 0, 0, [], none, 0, 0, [], rfl, hw'.sel [3, 4] rfl rfl⟩)
   ·refine c_skip <| x_qs <| c_seq <| c_reg <| o1 rfl (rx 0 0 [.slice a14 p0.Attrs_.length c15, .slice a16 p0.Classes_.length c17] rfl ty35 rfl) <| o1 rfl (ry_build2 [] [.int .i64 0, .int .i64 0, .int .i64 0, .int .i64 0, .int .i64 0, .int .i64 0, .bool false] rfl rfl ty53 fs53 rfl trivial rfl) <| o1 rfl (rx 0 1 [.slice a22 p1.Nodes_.length c23, .int .i64 p1.Seen_] rfl ty39 rfl) <| ow_batch [.p, .p] rfl <| bE H fun y39 h40 H => ow_callS rfl fn83 rfl rfl rfl rfl (fun w1 hw1 => impl_history_ok w1 (p1 := (Timpl_Rule.mk 0 0 0 0 0 0 false)) (cs0 := [.slice a14 p0.Attrs_.length c15, .slice a16 p0.Classes_.length c17]) (cs2 := [.slice a22 p1.Nodes_.length c23, .int .i64 p1.Seen_]) h40 (hw1.carve [] rfl rfl) (rdm_Timpl_Schema (x := p0) (c0 := [.slice a14 p0.Attrs_.length c15]) (c1 := [.slice a16 p0.Classes_.length c17]) (rds_bor g12 w1 hw1) (rds_bor g13 w1 hw1)) (rdm_Timpl_Tree (x := p1) (c0 := [.slice a22 p1.Nodes_.length c23]) (c1 := [.int .i64 p1.Seen_]) (rds_bor g20 w1 hw1) rfl) (rds_bor g2 w1 hw1)) fun v41 w1 w2 hw1 hR43 => ?_
    obtain ⟨a44, n45, c46, F47, a48, n49, c50, F51, a52, n53, c54, F55, rfl, hS42⟩ := hR43
    obtain rfl := own_nS (i := 0) hS42 rfl
    obtain rfl := own_nS (i := 1) hS42 rfl
    obtain rfl := own_nS (i := 2) hS42 rfl
    refine ⟨St w M0 [_, _, _, _, _, _], hw1.comp [] rfl rfl hS42, fun _ _ => trivial, ?_⟩
    exact ow_batch [.p, .p, .p, .p] rfl <| ow_alloc rfl rfl rfl rfl ty62 (fun _ => kp) fun b56 => sC 0 [.slice a44 y39.1.Totals_.length c46, .slice a48 y39.1.Cells_.length c50] [_, _] 6 rfl ty62 rfl <| ow_batch [.p, .p] rfl <| ow_nil <| x_qs <| c_seq <| c_reg <| o1 rfl (rx 0 6 [.slice a44 y39.1.Totals_.length c46, .slice a48 y39.1.Cells_.length c50] rfl ty62 rfl) <| sC 0 [.slice a44 y39.1.Totals_.length c46, .slice a48 y39.1.Cells_.length c50] [_, _] 2 rfl ty62 rfl <| ow_nil <| x_qs <| c_ret <| x_retR (rs := [.cell 8 62]) (vs := [.agg #[.slice a44 y39.1.Totals_.length c46, .slice a48 y39.1.Cells_.length c50]]) rfl ⟨⟨_, [.slice a44 y39.1.Totals_.length c46, .slice a48 y39.1.Cells_.length c50], _, _, _, rfl, ty62, (at_box (T := 62) 0 (boxIn (i := 2) rfl) rfl), rfl, rfl⟩, trivial⟩ (fun w' hw' => by
     obtain rfl := of_some H
     exact ⟨_, rfl, a44, y39.1.Totals_.length, c46, F47, a48, y39.1.Cells_.length, c50, F51, rfl, hw'.sel [3, 4] rfl rfl⟩)
  ·clear H
   have H := hu38
   clear hu38
   generalize u29 = t37 at H key ⊢
   cases t37
   ·have H := of_if_f rfl H
    refine ow_batch [.p, .fa 39 0 0 fa39_0] rfl <| o1 rfl (r1 0 1 rfl ty37 rfl) <| ow_batch [.lenS 37 118 sl37, .p] rfl <| bE H fun y35 h36 H => oq rfl (qc rfl fn91 (fun w1 hw1 => impl_within_ok w1  h36)) tt2 <| ow_batch [.p] rfl <| ow_batch [.p] rfl <| ?_
    obtain rfl := of_some H
    exact OW.sub key (sb rfl)
   ·have H := of_if_t rfl H
    refine ow_batch [.p, .p, .p, .p, .p, .p, .p, .p] rfl ?_
    obtain rfl := of_some H
    exact OW.sub key (sb rfl)
 ·clear H
  have H := hu33
  clear hu33
  generalize (!y27) = t32 at H key ⊢
  cases t32
  ·have H := of_if_f rfl H
   refine o1 rfl (rx 0 0 [.slice a14 p0.Attrs_.length c15, .slice a16 p0.Classes_.length c17] rfl ty35 rfl) <| ow_batch [.p] rfl <| bE H fun y30 h31 H => oq rfl (qc rfl fn82 (fun w1 hw1 => impl_EntriesOk_ok w1 (cs0 := [.slice a14 p0.Attrs_.length c15, .slice a16 p0.Classes_.length c17]) h31 (rdm_Timpl_Schema (x := p0) (c0 := [.slice a14 p0.Attrs_.length c15]) (c1 := [.slice a16 p0.Classes_.length c17]) (rds_bor g12 w1 hw1) (rds_bor g13 w1 hw1)) (rds_bor g2 w1 hw1))) tt2 <| ow_batch [.p] rfl <| ow_batch [.p] rfl <| ?_
   obtain rfl := of_some H
   exact OW.sub key (sb rfl)
  ·have H := of_if_t rfl H
   refine ow_batch [.p, .p, .p, .p, .p] rfl ?_
   obtain rfl := of_some H
   exact OW.sub key (sb rfl)
theorem laws_markEntryS_ok (w : World) {M0 : List Nat} {p0 : List Timpl_Entry} {p1 : Int} {a_0_0 : Option Addr} {n_0_0 c_0_0 : Nat} {F_0_0 : List Nat} {r : Int × (List Timpl_Entry)} (H : laws_markEntryS p0 p1 = some r) (HS : St w M0 [Res.own (eList (eTimpl_Entry) 144) F_0_0 p0 [.slice a_0_0 n_0_0 c_0_0]] w)  :
    Calls Tryz.prog 30 #[.slice a_0_0 n_0_0 c_0_0, .int .i64 p1] w (fun en w' => ∃ v, en = .returned v ∧ ∃ (F0 : List Nat), v = .int .i64 r.1 ∧ St w M0 [Res.own (eList (eTimpl_Entry) 144) F0 r.2 [.slice a_0_0 n_0_0 c_0_0]] w') := by
 obtain rfl := own_nS (i := 0) HS rfl
 unfold laws_markEntryS at H
 refine f_enter (vs := [.slice a_0_0 p0.length c_0_0, .int .i64 p1]) Tryz.func30 rfl Tryz.ntmps30 rfl (HS) <| c_seq <| c_reg <| ow_batch [.p] rfl <| ow_nil <| x_qs <| c_seq <| c_seq <| c_reg <| ow_batch [.p] rfl <| ow_nil <| x_qs <| c_block <| CW.at (loopI4 (fun (l35 : List Timpl_Entry) (F36 : List Nat) (i37 : Int) (i38 : Int) => St w M0 [Res.own (eList (eTimpl_Entry) 144) F36 l35 [.slice a_0_0 p0.length c_0_0]]) (fun (l35 : List Timpl_Entry) (F36 : List Nat) (i37 : Int) (i38 : Int) => [(0, .slice a_0_0 p0.length c_0_0), (1, .int .i64 i37), (5, .int .i64 i38)]) (fun kk => fun (l35 : List Timpl_Entry) (F36 : List Nat) (i37 : Int) (i38 : Int) => laws_markEntryS_L1 p0 kk l35 i37 i38 = some r) (fun _ _ _ _ H => ?_) (fun k1 ihk1 l35 F36 i37 i38 H => ?_) Fuel (p0) (F_0_0) (p1) (0) (H)) (fun _ h => St.sel [0] rfl rfl h) ⟨rfl, rfl, rfl,  trivial⟩
 ·unfold laws_markEntryS_L1 at H
  exact absurd H (by simp)
 ·unfold laws_markEntryS_L1 at H
  refine c_seq <| c_seq <| c_reg <| ow_batch [.p, .p, .lenS 55 144 sl55, .p] rfl <| ow_nil <| x_qs <| cI H rfl (fun H => ?_) (fun H => ?_)
  ·refine c_skip <| x_qs <| c_seq <| c_block <| c_seq <| c_reg <| ow_batch [.p, .p] rfl <| bE H fun e64 h65 H => ow_ex4 rfl (fun w1 hw1 => foc (r := 0) hw1 rfl h65) fun b67 G68 F69 c70 => ow_fact rfl (fun w1 hw1 => hw1.1) fun q66 => ?_
   obtain ⟨ha71, hn72⟩ := q66
   refine ow_st (C' := St w M0 [_, _, _]) rfl (fun w1 hw1 => hw1.2) <| ow_ex3 rfl (fun w1 hw1 => opn_Timpl_Entry (i := 2) hw1 rfl) fun a74 c75 F76 => ow_fact rfl (fun w1 hw1 => hw1.1) fun q73 => ?_
   subst q73
   refine ow_st (C' := St w M0 [_, _, _, _]) rfl (fun w1 hw1 => hw1.2) <| ow_ixH rfl rfl rfl rfl rfl sl55 ty144 rfl (holeIn (p := 1) rfl) hn72 ha71 (idx_some h65).1 <| ow_batch [.fa 144 0 0 fa144_0, .fa 142 0 0 fa142_0] rfl <| o1 rfl (ry_hole1 1 0 rfl rfl rfl ty59 (by first | rfl | simp only [add_lit, add_add, add_zero]) rfl) <| ow_batch [.p] rfl <| bE H fun y77 h78 H => ow_callS rfl fn71 rfl rfl rfl rfl (fun w1 hw1 => laws_markIntS_ok w1  h78 (hw1.carve [3] rfl rfl)) fun v79 w1 w2 hw1 hR81 => ?_
   obtain ⟨F82, rfl, hS80⟩ := hR81
   refine ⟨St w M0 [_, _, _, _, _], hw1.comp [3] rfl rfl hS80, fun _ _ => trivial, ?_⟩
   refine ow_batch [.p] rfl <| ow_nil <| x_qs <| c_seq <| CW.weak (C' := St w M0 [_, _]) ?_ (fun _ h => St.sel [1, 4] rfl rfl h)
   exact c_reg <| ow_batch [.p, .p, .p] rfl <| ow_ixH rfl rfl rfl rfl rfl sl55 ty144 rfl (holeIn (p := 0) rfl) hn72 ha71 (idx_some h65).1 <| ow_batch [.fa 144 0 0 fa144_0, .fa 142 1 1 fa142_1] rfl <| ow_storeH (off := 1) [.int .i64 y77.1] (p := 0) (c' := [_, _, _]) rfl rfl rfl rfl rfl (by first | rfl | simp only [add_lit, add_add, add_zero]) rfl ty3 rfl rfl (by intro u hu; simp only [List.mem_cons, List.not_mem_nil, or_false] at hu; rcases hu with rfl <;> rfl) rfl rfl rfl kp <| ow_nil <| x_qs <| c_seq <| c_reg <| ow_batch [.p, .p, .p] rfl <| ow_nil <| x_qs <| c_seq <| c_reg <| ow_batch [.p, .p, .p] rfl <| ow_ixH rfl rfl rfl rfl rfl sl55 ty144 rfl (holeIn (p := 0) rfl) hn72 ha71 (idx_some h65).1 <| ow_batch [.fa 144 1 2 fa144_1] rfl <| ow_storeH (off := 2) [.int .i64 (IntKind.i64.wrap (y77.1 + 1))] (p := 0) (c' := [_, _, _]) rfl rfl rfl rfl rfl (by first | rfl | simp only [add_lit, add_add, add_zero]) rfl ty3 rfl rfl (by intro u hu; simp only [List.mem_cons, List.not_mem_nil, or_false] at hu; rcases hu with rfl <;> rfl) rfl rfl rfl kp <| ow_nil <| x_qs <| c_reg <| ow_batch [.p, .p, .p] rfl <| ow_nil <| x_qb <| x_qs <| c_reg <| ow_batch [.p, .p, .p] rfl <| ow_nil <| xw_ex (fun w1 hw1 => fus_Timpl_Entry (x1 := y77.1) (x2 := IntKind.i64.wrap (y77.1 + 1)) [1] hw1 rfl rfl) fun F83 => xw_st (C' := St w M0 [_, _, _]) (fun _ h => h) <| xw_ex (fun w1 hw1 => unf (p := 0) (q := 2) hw1 rfl rfl rfl hn72 ha71) fun F84 => xw_st (C' := St w M0 [_, _, _, _]) (fun _ h => h) <| x_ql (RW.at (ihk1 ((l35.set i38.toNat (Timpl_Entry.mk (Timpl_Ex.mk y77.2 y77.1) (IntKind.i64.wrap (y77.1 + 1))))) (F84) (IntKind.i64.wrap ((IntKind.i64.wrap (y77.1 + 1)) + 1)) (IntKind.i64.wrap (i38 + 1)) (H)) (fun _ h => St.sel [3] rfl rfl h) ⟨rfl, rfl, rfl, trivial⟩)
  ·exact c_exit <| x_qs_exit <| x_ql_exit <| x_qb_here <| x_qs <| c_seq <| c_reg <| ow_batch [.p, .p] rfl <| ow_nil <| x_qs <| c_ret <| x_retR (rs := [.tmp 4]) (vs := [.int .i64 i37]) rfl ⟨rfl, trivial⟩ (fun w' hw' => by
    obtain rfl := of_some H
    exact ⟨_, rfl, F36, rfl, hw'.sel [0] rfl rfl⟩)
theorem laws_markStats_ok (w : World) {M0 : List Nat} {p0 : Timpl_Stats} {p1 : Int} {a_0_0 : Option Addr} {n_0_0 c_0_0 : Nat} {F_0_0 : List Nat} {a_0_1 : Option Addr} {n_0_1 c_0_1 : Nat} {F_0_1 : List Nat} {r : Int × Timpl_Stats} (H : laws_markStats p0 p1 = some r) (HS : St w M0 [Res.own (eList (eVal (Value.int .i64) (fun _ => rfl)) 3) F_0_0 p0.Totals_ [.slice a_0_0 n_0_0 c_0_0], Res.own (eList (eList (eVal (Value.int .i64) (fun _ => rfl)) 3) 59) F_0_1 p0.Cells_ [.slice a_0_1 n_0_1 c_0_1]] w)  :
    Calls Tryz.prog 31 #[.agg #[.slice a_0_0 n_0_0 c_0_0, .slice a_0_1 n_0_1 c_0_1], .int .i64 p1] w (fun en w' => ∃ v, en = .returned v ∧ ∃ (F0 : List Nat), ∃ (F1 : List Nat), v = .int .i64 r.1 ∧ St w M0 [Res.own (eList (eVal (Value.int .i64) (fun _ => rfl)) 3) F0 r.2.Totals_ [.slice a_0_0 n_0_0 c_0_0], Res.own (eList (eList (eVal (Value.int .i64) (fun _ => rfl)) 3) 59) F1 r.2.Cells_ [.slice a_0_1 n_0_1 c_0_1]] w') := by
 obtain rfl := own_nS (i := 0) HS rfl
 obtain rfl := own_nS (i := 1) HS rfl
 unfold laws_markStats at H
 refine f_enter (vs := [.agg #[.slice a_0_0 p0.Totals_.length c_0_0, .slice a_0_1 p0.Cells_.length c_0_1], .int .i64 p1]) Tryz.func31 rfl Tryz.ntmps31 rfl (HS) <| c_seq <| c_reg <| ob [.slice a_0_0 p0.Totals_.length c_0_0, .slice a_0_1 p0.Cells_.length c_0_1] rfl fun b10 => ow_batch [.p] rfl <| ow_nil <| x_qs <| c_seq <| c_reg <| ow_batch [.fa 62 0 0 fa62_0] rfl <| o1 rfl (r1 0 2 rfl ty59 rfl) <| ow_batch [.p] rfl <| bE H fun y11 h12 H => ow_callS rfl fn71 rfl rfl rfl rfl (fun w1 hw1 => laws_markIntS_ok w1  h12 (hw1.carve [0] rfl rfl)) fun v13 w1 w2 hw1 hR15 => ?_
 obtain ⟨F16, rfl, hS14⟩ := hR15
 refine ⟨St w M0 [_, _, _, _], hw1.comp [0] rfl rfl hS14, fun _ _ => trivial, ?_⟩
 refine ow_batch [.p] rfl <| ow_nil <| x_qs <| c_seq <| c_reg <| ow_batch [.fa 62 1 1 fa62_1] rfl <| o1 rfl (r1 1 2 rfl ty60 rfl) <| ow_batch [.p] rfl <| bE H fun y17 h18 H => ow_callS rfl fn94 rfl rfl rfl rfl (fun w1 hw1 => laws_markIntSS_ok w1  h18 (hw1.carve [1] rfl rfl)) fun v19 w1 w2 hw1 hR21 => ?_
 obtain ⟨F22, rfl, hS20⟩ := hR21
 refine ⟨St w M0 [_, _, _, _, _], hw1.comp [1] rfl rfl hS20, fun _ _ => trivial, ?_⟩
 refine ow_batch [.p] rfl <| ow_nil <| x_qs <| c_seq <| CW.weak (C' := St w M0 [_, _, _]) ?_ (fun _ h => St.sel [2, 3, 4] rfl rfl h)
 exact c_reg <| ow_batch [.p, .p] rfl <| ow_nil <| x_qs <| c_ret <| x_retR (rs := [.tmp 4]) (vs := [.int .i64 y17.1]) rfl ⟨rfl, trivial⟩ (fun w' hw' => by
  obtain rfl := of_some H
  exact ⟨_, rfl, F16, F22, rfl, hw'.sel [1, 2] rfl rfl⟩)
theorem laws_heldStats_ok (w : World) {p0 : Timpl_Stats} {p1 : Int} {cs0 : List Value} {r : Int} (H : laws_heldStats p0 p1 = some r)  (g0 : (eTimpl_Stats).rd w [] p0 cs0) :
    Calls Tryz.prog 32 #[.agg cs0.toArray, .int .i64 p1] w (fun en w' => en = .returned (.int .i64 r) ∧ Ext [] w w') := by
 obtain ⟨c10, c11, rfl, g12, g13⟩ := rdo_Timpl_Stats g0
 obtain ⟨a14, c15, rfl⟩ := rd_sl1 g12
 obtain ⟨a16, c17, rfl⟩ := rd_sl1 g13
 unfold laws_heldStats at H
 refine f_enter (vs := [.agg #[.slice a14 p0.Totals_.length c15, .slice a16 p0.Cells_.length c17], .int .i64 p1]) Tryz.func32 rfl Tryz.ntmps32 rfl (St.init w []) <| c_seq <| c_reg <| ob [.slice a14 p0.Totals_.length c15, .slice a16 p0.Cells_.length c17] rfl fun b18 => ow_batch [.p] rfl <| ow_nil <| x_qs <| c_seq <| c_reg <| ow_batch [.fa 62 0 0 fa62_0] rfl <| o1 rfl (r1 0 0 rfl ty59 rfl) <| ow_batch [.p] rfl <| bE H fun y19 h20 H => oq rfl (qc rfl fn72 (fun w1 hw1 => laws_heldIntS_ok w1  h20 (rds_bor g12 w1 hw1))) tt2 <| ow_batch [.p] rfl <| ow_nil <| x_qs <| c_seq <| c_seq <| c_reg <| ow_batch [.p, .p] rfl <| ow_nil <| x_qs <| cI H rfl (fun H => ?_) (fun H => ?_)
 ·exact c_seq <| c_reg <| ow_batch [.p] rfl <| ow_nil <| x_qs <| c_ret <| x_qs_ret <| xr 4 rfl (by cases H; exact q1)
 ·refine c_skip <| x_qs <| c_seq <| c_reg <| ow_batch [.fa 62 1 1 fa62_1] rfl <| o1 rfl (r1 1 0 rfl ty60 rfl) <| ow_batch [.p] rfl <| bE H fun y21 h22 H => oq rfl (qc rfl fn95 (fun w1 hw1 => laws_heldIntSS_ok w1  h22 (rds_bor g13 w1 hw1))) tt2 <| ow_batch [.p] rfl <| ow_nil <| x_qs <| c_seq <| c_seq <| c_reg <| ow_batch [.p, .p] rfl <| ow_nil <| x_qs <| cI H rfl (fun H => ?_) (fun H => ?_)
  ·exact c_seq <| c_reg <| ow_batch [.p] rfl <| ow_nil <| x_qs <| c_ret <| x_qs_ret <| xr 4 rfl (by cases H; exact q1)
  ·exact c_skip <| x_qs <| c_seq <| c_reg <| ow_batch [.p, .p] rfl <| ow_nil <| x_qs <| c_ret <| xr 4 rfl (by cases H; exact q1)
end Go.Vk
