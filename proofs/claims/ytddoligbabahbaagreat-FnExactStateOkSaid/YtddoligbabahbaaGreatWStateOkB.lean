/- The code does what the functions of data say. Printed by program. -/
import Derived.Test.YtddoligbabahbaaGreatWStateOkA
namespace Go.Vk
open Go.Proofs Go.RowKit
set_option maxHeartbeats 4000000
set_option maxRecDepth 100000
theorem spec_l19Split_ok (w : World) {p0 : Timpl_Schema} {p1 : Timpl_Tree} {p2 : Int} {cs0 : List Value} {cs1 : List Value} {r : Bool} (H : spec_l19Split p0 p1 p2 = some r)  (g0 : (eTimpl_Schema).rd w [] p0 cs0) (g1 : (eTimpl_Tree).rd w [] p1 cs1) :
    Calls Tryz.prog 124 #[.agg cs0.toArray, .agg cs1.toArray, .int .i64 p2] w (fun en w' => en = .returned (.bool r) ∧ Ext [] w w') := by
 obtain ⟨c10, c11, rfl, g12, g13⟩ := rdo_Timpl_Schema g0
 obtain ⟨a14, c15, rfl⟩ := rd_sl1 g12
 obtain ⟨a16, c17, rfl⟩ := rd_sl1 g13
 obtain ⟨c18, c19, rfl, g20, g21⟩ := rdo_Timpl_Tree g1
 obtain ⟨a22, c23, rfl⟩ := rd_sl1 g20
 obtain rfl : c19 = [.int .i64 p1.Seen_] := g21
 unfold spec_l19Split at H
 refine f_enter (vs := [.agg #[.slice a14 p0.Attrs_.length c15, .slice a16 p0.Classes_.length c17], .agg #[.slice a22 p1.Nodes_.length c23, .int .i64 p1.Seen_], .int .i64 p2]) Tryz.func124 rfl Tryz.ntmps124 rfl (St.init w []) <| c_seq <| c_reg <| ob [.slice a14 p0.Attrs_.length c15, .slice a16 p0.Classes_.length c17] rfl fun b24 => ob [.slice a22 p1.Nodes_.length c23, .int .i64 p1.Seen_] rfl fun b25 => ow_batch [.p] rfl <| ow_nil <| x_qs <| c_seq <| c_reg <| ow_batch [.fa 39 0 0 fa39_0] rfl <| o1 rfl (r1 0 1 rfl ty37 rfl) <| ow_batch [.p] rfl <| bE H fun e26 h27 H => ow_ixB rfl rfl rfl rfl rfl sl37 ty118 rfl g20 h27 fun q30 c31 hd28 hA29 => ?_
 obtain ⟨c32, c33, c34, c35, c36, c37, c38, c39, c40, c41, rfl, g42, g43, g44, g45, g46, g47, g48, g49, g50, g51⟩ := rdo_Timpl_Node hd28
 obtain rfl : c32 = [.bool e26.Leaf_] := g42
 obtain rfl : c33 = [.int .i64 e26.Fork_.Attr_, .int .i64 e26.Fork_.At_] := g43
 obtain ⟨a52, c53, rfl⟩ := rd_sl1 g44
 obtain rfl : c35 = [.int .i64 e26.Miss_] := g45
 obtain ⟨c54, c55, rfl, g56, g57⟩ := rdo_Timpl_Stats g46
 obtain ⟨a58, c59, rfl⟩ := rd_sl1 g56
 obtain ⟨a60, c61, rfl⟩ := rd_sl1 g57
 obtain rfl : c37 = [.int .i64 e26.Since_] := g47
 obtain ⟨a62, c63, rfl⟩ := rd_sl1 g48
 obtain rfl : c39 = [.int .i64 e26.Depth_] := g49
 obtain rfl : c40 = [.int .i64 e26.Up_] := g50
 obtain rfl : c41 = [.int .i64 e26.Born_] := g51
 refine o1 rfl (ry_load (cs := [.bool e26.Leaf_, .int .i64 e26.Fork_.Attr_, .int .i64 e26.Fork_.At_, .slice a52 e26.Kids_.length c53, .int .i64 e26.Miss_, .slice a58 e26.Stats_.Totals_.length c59, .slice a60 e26.Stats_.Cells_.length c61, .int .i64 e26.Since_, .slice a62 e26.Attrs_.length c63, .int .i64 e26.Depth_, .int .i64 e26.Up_, .int .i64 e26.Born_]) rfl rfl ty118 (at_bor bor hA29) rfl) <| ow_alloc rfl rfl rfl rfl ty118 (fun _ => kp) fun b64 => sC 0 [.bool e26.Leaf_, .int .i64 e26.Fork_.Attr_, .int .i64 e26.Fork_.At_, .slice a52 e26.Kids_.length c53, .int .i64 e26.Miss_, .slice a58 e26.Stats_.Totals_.length c59, .slice a60 e26.Stats_.Cells_.length c61, .int .i64 e26.Since_, .slice a62 e26.Attrs_.length c63, .int .i64 e26.Depth_, .int .i64 e26.Up_, .int .i64 e26.Born_] [_, _, _, _, _, _, _, _, _, _, _, _] 2 rfl ty118 rfl <| ow_nil <| x_qs <| c_seq <| c_seq <| c_regQ mixed (by kernel_rfl) <| o1 rfl (rx 0 0 [.slice a14 p0.Attrs_.length c15, .slice a16 p0.Classes_.length c17] rfl ty35 rfl) <| ow_batch [.fa 118 1 1 fa118_1] rfl <| o1 rfl (rx 1 2 [.int .i64 e26.Fork_.Attr_, .int .i64 e26.Fork_.At_] rfl ty116 rfl) <| bE H fun y65 h66 H => oq rfl (qc rfl fn195 (fun w1 hw1 => spec_ForkOk_ok w1 (p1 := e26.Fork_) (cs0 := [.slice a14 p0.Attrs_.length c15, .slice a16 p0.Classes_.length c17]) h66 (rdm_Timpl_Schema (x := p0) (c0 := [.slice a14 p0.Attrs_.length c15]) (c1 := [.slice a16 p0.Classes_.length c17]) (rds_bor g12 w1 hw1) (rds_bor g13 w1 hw1)))) tt2 <| ow_batch [.p, .p] rfl <| bE H fun u67 hu71 H => ow_cut [(28, .bool u67), (2, .int .i64 p2), (3, .pointer (some ⟨b24, 0, none⟩)), (4, .pointer (some ⟨b25, 0, none⟩)), (7, .pointer (some ⟨b64, 0, none⟩))] 9 ?_ (fun key => OW.sub (R := [(2, .int .i64 p2), (3, .pointer (some ⟨b24, 0, none⟩)), (4, .pointer (some ⟨b25, 0, none⟩)), (7, .pointer (some ⟨b64, 0, none⟩)), (19, .bool (!y65))]) ?_ (sb rfl))
 ·refine ow_batch [.p] rfl <| bE H fun u72 hu76 H => ow_cut [(38, .bool u72), (2, .int .i64 p2), (3, .pointer (some ⟨b24, 0, none⟩)), (4, .pointer (some ⟨b25, 0, none⟩)), (7, .pointer (some ⟨b64, 0, none⟩))] 9 ?_ (fun key => OW.sub (R := [(2, .int .i64 p2), (3, .pointer (some ⟨b24, 0, none⟩)), (4, .pointer (some ⟨b25, 0, none⟩)), (7, .pointer (some ⟨b64, 0, none⟩)), (29, .bool u67)]) ?_ (sb rfl))
  ·refine ow_batch [.p] rfl <| bE H fun u77 hu81 H => ow_cut [(45, .bool u77), (2, .int .i64 p2), (3, .pointer (some ⟨b24, 0, none⟩)), (4, .pointer (some ⟨b25, 0, none⟩)), (7, .pointer (some ⟨b64, 0, none⟩))] 6 ?_ (fun key => OW.sub (R := [(2, .int .i64 p2), (3, .pointer (some ⟨b24, 0, none⟩)), (4, .pointer (some ⟨b25, 0, none⟩)), (7, .pointer (some ⟨b64, 0, none⟩)), (39, .bool u72)]) ?_ (sb rfl))
   ·refine ow_batch [.p] rfl <| ow_cut [(52, .bool (u77 || (decide ((e26.Stats_.Cells_.length : Int) > 0)))), (2, .int .i64 p2), (3, .pointer (some ⟨b24, 0, none⟩)), (4, .pointer (some ⟨b25, 0, none⟩)), (7, .pointer (some ⟨b64, 0, none⟩))] 6 ?_ (fun key => OW.sub (R := [(2, .int .i64 p2), (3, .pointer (some ⟨b24, 0, none⟩)), (4, .pointer (some ⟨b25, 0, none⟩)), (7, .pointer (some ⟨b64, 0, none⟩)), (46, .bool u77)]) ?_ (sb rfl))
    ·refine ow_batch [.p] rfl <| ow_cut [(57, .bool ((u77 || (decide ((e26.Stats_.Cells_.length : Int) > 0))) || (e26.Since_ != 0))), (2, .int .i64 p2), (3, .pointer (some ⟨b24, 0, none⟩)), (4, .pointer (some ⟨b25, 0, none⟩)), (7, .pointer (some ⟨b64, 0, none⟩))] 4 ?_ (fun key => OW.sub (R := [(2, .int .i64 p2), (3, .pointer (some ⟨b24, 0, none⟩)), (4, .pointer (some ⟨b25, 0, none⟩)), (7, .pointer (some ⟨b64, 0, none⟩)), (53, .bool (u77 || (decide ((e26.Stats_.Cells_.length : Int) > 0))))]) ?_ (sb rfl))
     ·refine ow_batch [.p] rfl <| bE H fun u86 hu90 H => ow_cut [(64, .bool u86), (2, .int .i64 p2), (4, .pointer (some ⟨b25, 0, none⟩)), (7, .pointer (some ⟨b64, 0, none⟩))] 6 ?_ (fun key => OW.sub (R := [(2, .int .i64 p2), (3, .pointer (some ⟨b24, 0, none⟩)), (4, .pointer (some ⟨b25, 0, none⟩)), (7, .pointer (some ⟨b64, 0, none⟩)), (58, .bool ((u77 || (decide ((e26.Stats_.Cells_.length : Int) > 0))) || (e26.Since_ != 0)))]) ?_ (sb rfl))
      ·refine ow_nilQ <| x_qs <| cI H rfl (fun H => ?_) (fun H => ?_)
       ·exact c_seq <| c_reg <| ow_batch [.p] rfl <| ow_nil <| x_qs <| c_ret <| x_qs_ret <| xr 6 rfl (by cases H; exact q1)
       ·refine c_skip <| x_qs <| c_seq <| c_seq <| c_reg <| ow_batch [.p] rfl <| ow_nil <| x_qs <| c_block <| CW.at (loopI1 (fun (i149 : Int) => St w [] [Res.box b25 39 [.slice a22 p1.Nodes_.length c23, .int .i64 p1.Seen_], Res.box b64 118 [.bool e26.Leaf_, .int .i64 e26.Fork_.Attr_, .int .i64 e26.Fork_.At_, .slice a52 e26.Kids_.length c53, .int .i64 e26.Miss_, .slice a58 e26.Stats_.Totals_.length c59, .slice a60 e26.Stats_.Cells_.length c61, .int .i64 e26.Since_, .slice a62 e26.Attrs_.length c63, .int .i64 e26.Depth_, .int .i64 e26.Up_, .int .i64 e26.Born_]]) (fun (i149 : Int) => [(2, .int .i64 p2), (4, .pointer (some ⟨b25, 0, none⟩)), (7, .pointer (some ⟨b64, 0, none⟩)), (8, .int .i64 i149)]) (fun kk => fun (i149 : Int) => spec_l19Split_L1 e26 p2 p1 kk i149 = some r) (fun _ H => ?_) (fun k1 ihk1 i149 H => ?_) Fuel (0) (H)) (fun _ h => St.sel [1, 2] rfl rfl h) ⟨rfl, rfl, rfl, rfl,  trivial⟩
        ·unfold spec_l19Split_L1 at H
         exact absurd H (by simp)
        ·unfold spec_l19Split_L1 at H
         refine c_seq <| c_seq <| c_reg <| ow_batch [.p, .fa 118 2 3 fa118_2] rfl <| o1 rfl (r1 3 1 rfl ty59 rfl) <| ow_batch [.lenS 59 3 sl59, .p] rfl <| ow_nil <| x_qs <| cI H rfl (fun H => ?_) (fun H => ?_)
         ·refine c_skip <| x_qs <| c_seq <| c_block <| c_seq <| c_regQ mixed (by kernel_rfl) <| ow_batch [.fa 118 2 3 fa118_2] rfl <| o1 rfl (r1 3 1 rfl ty59 rfl) <| ow_batch [.p] rfl <| bE H fun e208 h209 H => ow_ixE (e := eVal (Value.int .i64) (fun _ => rfl)) (xs := e26.Kids_) (j := i149) rfl rfl rfl rfl rfl sl59 ty3 rfl (fun w1 hw1 => rds_bor g44 w1 hw1) h209 (by rw [Nat.mul_one]) <| o1 rfl (ry_load1 rfl rfl ty3 (at_elV (fun w1 hw1 => rds_bor g44 w1 hw1) h209)) <| ow_batch [.p, .p, .fa 39 0 0 fa39_0] rfl <| o1 rfl (r1 0 0 rfl ty37 rfl) <| ow_batch [.lenS 37 118 sl37, .p] rfl <| bE H fun y210 h211 H => oq rfl (qc rfl fn88 (fun w1 hw1 => spec_l1In_ok w1  h211)) tt2 <| ow_batch [.p, .p] rfl <| bE H fun u212 hu254 H => ow_cut [(98, .bool u212), (2, .int .i64 p2), (4, .pointer (some ⟨b25, 0, none⟩)), (7, .pointer (some ⟨b64, 0, none⟩)), (8, .int .i64 i149)] 13 ?_ (fun key => OW.sub (R := [(2, .int .i64 p2), (4, .pointer (some ⟨b25, 0, none⟩)), (7, .pointer (some ⟨b64, 0, none⟩)), (8, .int .i64 i149), (85, .bool (!y210))]) ?_ (sb rfl))
          ·refine ow_batch [.p] rfl <| bE H fun u255 hu264 H => ow_cut [(116, .bool u255), (2, .int .i64 p2), (4, .pointer (some ⟨b25, 0, none⟩)), (7, .pointer (some ⟨b64, 0, none⟩)), (8, .int .i64 i149)] 17 ?_ (fun key => OW.sub (R := [(2, .int .i64 p2), (4, .pointer (some ⟨b25, 0, none⟩)), (7, .pointer (some ⟨b64, 0, none⟩)), (8, .int .i64 i149), (99, .bool u212)]) ?_ (sb rfl))
           ·refine ow_nilQ <| x_qs <| cI H rfl (fun H => ?_) (fun H => ?_)
            ·exact c_seq <| c_reg <| ow_batch [.p] rfl <| ow_nil <| x_qs <| c_ret <| x_qb_ret <| x_qs_ret <| x_ql_ret <| x_qb_ret <| x_qs_ret <| xr 6 rfl (by cases H; exact q1)
            ·exact c_skip <| x_qb <| x_qs <| c_reg <| ow_batch [.p, .p, .p] rfl <| ow_nil <| x_ql (RW.at (ihk1 (IntKind.i64.wrap (i149 + 1)) (H)) (fun _ h => St.sel [0, 1] rfl rfl h) ⟨rfl, rfl, rfl, rfl, trivial⟩)
           ·clear H
            have H := hu264
            clear hu264
            generalize u212 = t263 at H key ⊢
            cases t263
            ·have H := of_if_f rfl H
             refine ow_batch [.p, .p, .p] rfl <| bE H fun u256 hu262 H => ow_cut [(115, .bool u256), (2, .int .i64 p2), (4, .pointer (some ⟨b25, 0, none⟩)), (7, .pointer (some ⟨b64, 0, none⟩)), (8, .int .i64 i149), (99, .bool false)] 13 ?_ (fun key => OW.sub (R := [(2, .int .i64 p2), (4, .pointer (some ⟨b25, 0, none⟩)), (7, .pointer (some ⟨b64, 0, none⟩)), (8, .int .i64 i149), (99, .bool false), (102, .bool (decide (i149 > 0)))]) ?_ (sb rfl))
             ·refine ow_batch [.p] rfl ?_
              obtain rfl := of_some H
              exact OW.sub key (sb rfl)
             ·clear H
              have H := hu262
              clear hu262
              generalize (decide (i149 > 0)) = t261 at H key ⊢
              cases t261
              ·have H := of_if_f rfl H
               refine ow_batch [.p, .p, .p, .p, .p, .p, .p, .p, .p, .p, .p, .p, .p] rfl ?_
               obtain rfl := of_some H
               exact OW.sub key (sb rfl)
              ·have H := of_if_t rfl H
               refine ow_batch [.fa 118 2 3 fa118_2] rfl <| o1 rfl (r1 3 1 rfl ty59 rfl) <| ow_batch [.p] rfl <| bE H fun e257 h258 H => ow_ixE (e := eVal (Value.int .i64) (fun _ => rfl)) (xs := e26.Kids_) (j := i149) rfl rfl rfl rfl rfl sl59 ty3 rfl (fun w1 hw1 => rds_bor g44 w1 hw1) h258 (by rw [Nat.mul_one]) <| o1 rfl (ry_load1 rfl rfl ty3 (at_elV (fun w1 hw1 => rds_bor g44 w1 hw1) h258)) <| ow_batch [.fa 118 2 3 fa118_2] rfl <| o1 rfl (r1 3 1 rfl ty59 rfl) <| ow_batch [.p, .p] rfl <| bE H fun e259 h260 H => ow_ixE (e := eVal (Value.int .i64) (fun _ => rfl)) (xs := e26.Kids_) (j := IntKind.i64.wrap (i149 - 1)) rfl rfl rfl rfl rfl sl59 ty3 rfl (fun w1 hw1 => rds_bor g44 w1 hw1) h260 (by rw [Nat.mul_one]) <| o1 rfl (ry_load1 rfl rfl ty3 (at_elV (fun w1 hw1 => rds_bor g44 w1 hw1) h260)) <| ow_batch [.p] rfl <| ow_batch [.p] rfl <| ?_
               obtain rfl := of_some H
               exact OW.sub key (sb rfl)
            ·have H := of_if_t rfl H
             refine ow_batch [.p, .p, .p, .p, .p, .p, .p, .p, .p, .p, .p, .p, .p, .p, .p, .p, .p] rfl ?_
             obtain rfl := of_some H
             exact OW.sub key (sb rfl)
          ·clear H
           have H := hu254
           clear hu254
           generalize (!y210) = t253 at H key ⊢
           cases t253
           ·have H := of_if_f rfl H
            refine ow_batch [.fa 39 0 0 fa39_0] rfl <| o1 rfl (r1 0 0 rfl ty37 rfl) <| ow_batch [.fa 118 2 3 fa118_2] rfl <| o1 rfl (r1 3 1 rfl ty59 rfl) <| ow_batch [.p] rfl <| bE H fun e213 h214 H => ow_ixE (e := eVal (Value.int .i64) (fun _ => rfl)) (xs := e26.Kids_) (j := i149) rfl rfl rfl rfl rfl sl59 ty3 rfl (fun w1 hw1 => rds_bor g44 w1 hw1) h214 (by rw [Nat.mul_one]) <| o1 rfl (ry_load1 rfl rfl ty3 (at_elV (fun w1 hw1 => rds_bor g44 w1 hw1) h214)) <| bE H fun e215 h216 H => ow_ixB rfl rfl rfl rfl rfl sl37 ty118 rfl g20 h216 fun q219 c220 hd217 hA218 => ?_
            obtain ⟨c221, c222, c223, c224, c225, c226, c227, c228, c229, c230, rfl, g231, g232, g233, g234, g235, g236, g237, g238, g239, g240⟩ := rdo_Timpl_Node hd217
            obtain rfl : c221 = [.bool e215.Leaf_] := g231
            obtain rfl : c222 = [.int .i64 e215.Fork_.Attr_, .int .i64 e215.Fork_.At_] := g232
            obtain ⟨a241, c242, rfl⟩ := rd_sl1 g233
            obtain rfl : c224 = [.int .i64 e215.Miss_] := g234
            obtain ⟨c243, c244, rfl, g245, g246⟩ := rdo_Timpl_Stats g235
            obtain ⟨a247, c248, rfl⟩ := rd_sl1 g245
            obtain ⟨a249, c250, rfl⟩ := rd_sl1 g246
            obtain rfl : c226 = [.int .i64 e215.Since_] := g236
            obtain ⟨a251, c252, rfl⟩ := rd_sl1 g237
            obtain rfl : c228 = [.int .i64 e215.Depth_] := g238
            obtain rfl : c229 = [.int .i64 e215.Up_] := g239
            obtain rfl : c230 = [.int .i64 e215.Born_] := g240
            refine ow_batch [.fa 118 8 10 fa118_8] rfl <| o1 rfl (ry_load1 rfl rfl ty3 (at_bor bor (at_K hA218 10 1))) <| ow_batch [.p, .p] rfl <| ow_batch [.p] rfl <| ?_
            obtain rfl := of_some H
            exact OW.sub key (sb rfl)
           ·have H := of_if_t rfl H
            refine ow_batch [.p, .p, .p, .p, .p, .p, .p, .p, .p, .p, .p, .p, .p] rfl ?_
            obtain rfl := of_some H
            exact OW.sub key (sb rfl)
         ·exact c_exit <| x_qs_exit <| x_ql_exit <| x_qb_here <| x_qs <| c_seq <| c_reg <| ow_batch [.p] rfl <| ow_nil <| x_qs <| c_ret <| xr 6 rfl (by cases H; exact q1)
      ·clear H
       have H := hu90
       clear hu90
       generalize ((u77 || (decide ((e26.Stats_.Cells_.length : Int) > 0))) || (e26.Since_ != 0)) = t89 at H key ⊢
       cases t89
       ·have H := of_if_f rfl H
        refine o1 rfl (rx 0 0 [.slice a14 p0.Attrs_.length c15, .slice a16 p0.Classes_.length c17] rfl ty35 rfl) <| ow_batch [.fa 118 6 8 fa118_6] rfl <| o1 rfl (r1 8 2 rfl ty59 rfl) <| bE H fun y87 h88 H => oq rfl (qc rfl fn194 (fun w1 hw1 => spec_AttrsOk_ok w1 (cs0 := [.slice a14 p0.Attrs_.length c15, .slice a16 p0.Classes_.length c17]) h88 (rdm_Timpl_Schema (x := p0) (c0 := [.slice a14 p0.Attrs_.length c15]) (c1 := [.slice a16 p0.Classes_.length c17]) (rds_bor g12 w1 hw1) (rds_bor g13 w1 hw1)) (rds_bor g48 w1 hw1))) tt2 <| ow_batch [.p] rfl <| ow_batch [.p] rfl <| ?_
        obtain rfl := of_some H
        exact OW.sub key (sb rfl)
       ·have H := of_if_t rfl H
        refine ow_batch [.p, .p, .p, .p, .p, .p] rfl ?_
        obtain rfl := of_some H
        exact OW.sub key (sb rfl)
     ·generalize (u77 || (decide ((e26.Stats_.Cells_.length : Int) > 0))) = t85 at key ⊢
      cases t85
      ·exact ow_batch [.fa 118 5 7 fa118_5] rfl <| o1 rfl (r1 7 2 rfl ty3 rfl) <| ow_batch [.p] rfl <| ow_batch [.p] rfl <| OW.sub key (sb rfl)
      ·exact ow_batch [.p, .p, .p, .p] rfl <| OW.sub key (sb rfl)
    ·generalize u77 = t83 at key ⊢
     cases t83
     ·exact ow_batch [.fa 118 4 5 fa118_4, .fa 62 1 1 fa62_1] rfl <| o1 rfl (r1 6 2 rfl ty60 rfl) <| ow_batch [.lenS 60 59 sl60, .p] rfl <| ow_batch [.p] rfl <| OW.sub key (sb rfl)
     ·exact ow_batch [.p, .p, .p, .p, .p, .p] rfl <| OW.sub key (sb rfl)
   ·clear H
    have H := hu81
    clear hu81
    generalize u72 = t80 at H key ⊢
    cases t80
    ·have H := of_if_f rfl H
     refine o1 rfl (rx 0 0 [.slice a14 p0.Attrs_.length c15, .slice a16 p0.Classes_.length c17] rfl ty35 rfl) <| ow_batch [.fa 118 4 5 fa118_4] rfl <| o1 rfl (rx 5 2 [.slice a58 e26.Stats_.Totals_.length c59, .slice a60 e26.Stats_.Cells_.length c61] rfl ty62 rfl) <| bE H fun y78 h79 H => oq rfl (qc rfl fn157 (fun w1 hw1 => spec_StatsOk_ok w1 (cs0 := [.slice a14 p0.Attrs_.length c15, .slice a16 p0.Classes_.length c17]) (cs1 := [.slice a58 e26.Stats_.Totals_.length c59, .slice a60 e26.Stats_.Cells_.length c61]) h79 (rdm_Timpl_Schema (x := p0) (c0 := [.slice a14 p0.Attrs_.length c15]) (c1 := [.slice a16 p0.Classes_.length c17]) (rds_bor g12 w1 hw1) (rds_bor g13 w1 hw1)) (rdm_Timpl_Stats (x := e26.Stats_) (c0 := [.slice a58 e26.Stats_.Totals_.length c59]) (c1 := [.slice a60 e26.Stats_.Cells_.length c61]) (rds_bor g56 w1 hw1) (rds_bor g57 w1 hw1)))) tt2 <| ow_batch [.p] rfl <| ow_batch [.p] rfl <| ?_
     obtain rfl := of_some H
     exact OW.sub key (sb rfl)
    ·have H := of_if_t rfl H
     refine ow_batch [.p, .p, .p, .p, .p, .p] rfl ?_
     obtain rfl := of_some H
     exact OW.sub key (sb rfl)
  ·clear H
   have H := hu76
   clear hu76
   generalize u67 = t75 at H key ⊢
   cases t75
   ·have H := of_if_f rfl H
    refine ow_batch [.fa 118 3 4 fa118_3] rfl <| o1 rfl (r1 4 2 rfl ty3 rfl) <| ow_batch [.fa 118 2 3 fa118_2] rfl <| o1 rfl (r1 3 2 rfl ty59 rfl) <| ow_batch [.lenS 59 3 sl59, .p] rfl <| bE H fun y73 h74 H => oq rfl (qc rfl fn88 (fun w1 hw1 => spec_l1In_ok w1  h74)) tt2 <| ow_batch [.p] rfl <| ow_batch [.p] rfl <| ?_
    obtain rfl := of_some H
    exact OW.sub key (sb rfl)
   ·have H := of_if_t rfl H
    refine ow_batch [.p, .p, .p, .p, .p, .p, .p, .p, .p] rfl ?_
    obtain rfl := of_some H
    exact OW.sub key (sb rfl)
 ·clear H
  have H := hu71
  clear hu71
  generalize (!y65) = t70 at H key ⊢
  cases t70
  ·have H := of_if_f rfl H
   refine ow_batch [.fa 118 2 3 fa118_2] rfl <| o1 rfl (r1 3 2 rfl ty59 rfl) <| ow_batch [.lenS 59 3 sl59] rfl <| o1 rfl (rx 0 0 [.slice a14 p0.Attrs_.length c15, .slice a16 p0.Classes_.length c17] rfl ty35 rfl) <| ow_batch [.fa 118 1 1 fa118_1] rfl <| o1 rfl (rx 1 2 [.int .i64 e26.Fork_.Attr_, .int .i64 e26.Fork_.At_] rfl ty116 rfl) <| bE H fun y68 h69 H => oq rfl (qc rfl fn196 (fun w1 hw1 => spec_Branches_ok w1 (p1 := e26.Fork_) (cs0 := [.slice a14 p0.Attrs_.length c15, .slice a16 p0.Classes_.length c17]) h69 (rdm_Timpl_Schema (x := p0) (c0 := [.slice a14 p0.Attrs_.length c15]) (c1 := [.slice a16 p0.Classes_.length c17]) (rds_bor g12 w1 hw1) (rds_bor g13 w1 hw1)))) tt2 <| ow_batch [.p] rfl <| ow_batch [.p] rfl <| ?_
   obtain rfl := of_some H
   exact OW.sub key (sb rfl)
  ·have H := of_if_t rfl H
   refine ow_batch [.p, .p, .p, .p, .p, .p, .p, .p, .p] rfl ?_
   obtain rfl := of_some H
   exact OW.sub key (sb rfl)
theorem spec_l19Among_ok (w : World) {p0 : List Int} {p1 : Int} {a_0 : Option Addr} {n_0 c_0 : Nat} {r : Bool} (H : spec_l19Among p0 p1 = some r)  (g0 : (eList (eVal (Value.int .i64) (fun _ => rfl)) 3).rd w [] p0 [.slice a_0 n_0 c_0]) :
    Calls Tryz.prog 125 #[.slice a_0 n_0 c_0, .int .i64 p1] w (fun en w' => en = .returned (.bool r) ∧ Ext [] w w') := by
 obtain rfl := rd_n g0
 unfold spec_l19Among at H
 refine f_enter (vs := [.slice a_0 p0.length c_0, .int .i64 p1]) Tryz.func125 rfl Tryz.ntmps125 rfl (St.init w []) <| c_seq <| c_reg <| ow_batch [.p] rfl <| ow_nil <| x_qs <| c_seq <| c_seq <| c_reg <| ow_batch [.p] rfl <| ow_nil <| x_qs <| c_block <| CW.at (loopI1 (fun (i13 : Int) => St w [] []) (fun (i13 : Int) => [(0, .slice a_0 p0.length c_0), (1, .int .i64 p1), (5, .int .i64 i13)]) (fun kk => fun (i13 : Int) => spec_l19Among_L1 p0 p1 kk i13 = some r) (fun _ H => ?_) (fun k1 ihk1 i13 H => ?_) Fuel (0) (H)) (fun _ h => St.sel [] rfl rfl h) ⟨rfl, rfl, rfl,  trivial⟩
 ·unfold spec_l19Among_L1 at H
  exact absurd H (by simp)
 ·unfold spec_l19Among_L1 at H
  refine c_seq <| c_seq <| c_reg <| ow_batch [.p, .p, .lenS 59 3 sl59, .p] rfl <| ow_nil <| x_qs <| cI H rfl (fun H => ?_) (fun H => ?_)
  ·refine c_skip <| x_qs <| c_seq <| c_block <| c_seq <| c_reg <| ow_batch [.p, .p] rfl <| bE H fun e18 h19 H => ow_ixE (e := eVal (Value.int .i64) (fun _ => rfl)) (xs := p0) (j := i13) rfl rfl rfl rfl rfl sl59 ty3 rfl (fun w1 hw1 => rds_bor g0 w1 hw1) h19 (by rw [Nat.mul_one]) <| o1 rfl (ry_load1 rfl rfl ty3 (at_elV (fun w1 hw1 => rds_bor g0 w1 hw1) h19)) <| ow_batch [.p, .p] rfl <| ow_nil <| x_qs <| cI H rfl (fun H => ?_) (fun H => ?_)
   ·exact c_seq <| c_reg <| ow_batch [.p] rfl <| ow_nil <| x_qs <| c_ret <| x_qb_ret <| x_qs_ret <| x_ql_ret <| x_qb_ret <| x_qs_ret <| xr 4 rfl (by cases H; exact q1)
   ·exact c_skip <| x_qb <| x_qs <| c_reg <| ow_batch [.p, .p, .p] rfl <| ow_nil <| x_ql (RW.at (ihk1 (IntKind.i64.wrap (i13 + 1)) (H)) (fun _ h => St.sel [] rfl rfl h) ⟨rfl, rfl, rfl, trivial⟩)
  ·exact c_exit <| x_qs_exit <| x_ql_exit <| x_qb_here <| x_qs <| c_seq <| c_reg <| ow_batch [.p] rfl <| ow_nil <| x_qs <| c_ret <| xr 4 rfl (by cases H; exact q1)
theorem spec_TreeOk_ok (w : World) {p0 : Timpl_Schema} {p1 : Timpl_Tree} {cs0 : List Value} {cs1 : List Value} {r : Bool} (H : spec_TreeOk p0 p1 = some r)  (g0 : (eTimpl_Schema).rd w [] p0 cs0) (g1 : (eTimpl_Tree).rd w [] p1 cs1) :
    Calls Tryz.prog 52 #[.agg cs0.toArray, .agg cs1.toArray] w (fun en w' => en = .returned (.bool r) ∧ Ext [] w w') := by
 obtain ⟨c10, c11, rfl, g12, g13⟩ := rdo_Timpl_Schema g0
 obtain ⟨a14, c15, rfl⟩ := rd_sl1 g12
 obtain ⟨a16, c17, rfl⟩ := rd_sl1 g13
 obtain ⟨c18, c19, rfl, g20, g21⟩ := rdo_Timpl_Tree g1
 obtain ⟨a22, c23, rfl⟩ := rd_sl1 g20
 obtain rfl : c19 = [.int .i64 p1.Seen_] := g21
 unfold spec_TreeOk at H
 refine f_enter (vs := [.agg #[.slice a14 p0.Attrs_.length c15, .slice a16 p0.Classes_.length c17], .agg #[.slice a22 p1.Nodes_.length c23, .int .i64 p1.Seen_]]) Tryz.func52 rfl Tryz.ntmps52 rfl (St.init w []) <| c_seq <| c_reg <| ob [.slice a14 p0.Attrs_.length c15, .slice a16 p0.Classes_.length c17] rfl fun b24 => ob [.slice a22 p1.Nodes_.length c23, .int .i64 p1.Seen_] rfl fun b25 => ow_batch [.p] rfl <| ow_nil <| x_qs <| c_seq <| c_seq <| c_reg <| o1 rfl (rx 0 0 [.slice a14 p0.Attrs_.length c15, .slice a16 p0.Classes_.length c17] rfl ty35 rfl) <| bE H fun y26 h27 H => oq rfl (qc rfl fn122 (fun w1 hw1 => spec_SchemaOk_ok w1 (cs0 := [.slice a14 p0.Attrs_.length c15, .slice a16 p0.Classes_.length c17]) h27 (rdm_Timpl_Schema (x := p0) (c0 := [.slice a14 p0.Attrs_.length c15]) (c1 := [.slice a16 p0.Classes_.length c17]) (rds_bor g12 w1 hw1) (rds_bor g13 w1 hw1)))) tt2 <| ow_batch [.p, .p] rfl <| bE H fun u28 hu32 H => ow_cut [(17, .bool u28), (2, .pointer (some ⟨b24, 0, none⟩)), (3, .pointer (some ⟨b25, 0, none⟩))] 6 ?_ (fun key => OW.sub (R := [(2, .pointer (some ⟨b24, 0, none⟩)), (3, .pointer (some ⟨b25, 0, none⟩)), (11, .bool (!y26))]) ?_ (sb rfl))
 ·refine ow_batch [.p] rfl <| bE H fun u33 hu37 H => ow_cut [(23, .bool u33), (2, .pointer (some ⟨b24, 0, none⟩)), (3, .pointer (some ⟨b25, 0, none⟩))] 5 ?_ (fun key => OW.sub (R := [(2, .pointer (some ⟨b24, 0, none⟩)), (3, .pointer (some ⟨b25, 0, none⟩)), (18, .bool u28)]) ?_ (sb rfl))
  ·refine ow_nil <| x_qs <| cI H rfl (fun H => ?_) (fun H => ?_)
   ·exact c_seq <| c_reg <| ow_batch [.p] rfl <| ow_nil <| x_qs <| c_ret <| x_qs_ret <| xr 4 rfl (by cases H; exact q1)
   ·refine c_skip <| x_qs <| c_seq <| c_seq <| c_reg <| ow_batch [.p] rfl <| ow_nil <| x_qs <| c_block <| CW.at (loopI1 (fun (i152 : Int) => St w [] [Res.box b24 35 [.slice a14 p0.Attrs_.length c15, .slice a16 p0.Classes_.length c17], Res.box b25 39 [.slice a22 p1.Nodes_.length c23, .int .i64 p1.Seen_]]) (fun (i152 : Int) => [(2, .pointer (some ⟨b24, 0, none⟩)), (3, .pointer (some ⟨b25, 0, none⟩)), (5, .int .i64 i152)]) (fun kk => fun (i152 : Int) => spec_TreeOk_L1 p1 p0 kk i152 = some r) (fun _ H => ?_) (fun k1 ihk1 i152 H => ?_) Fuel (0) (H)) (fun _ h => St.sel [0, 1] rfl rfl h) ⟨rfl, rfl, rfl,  trivial⟩
    ·unfold spec_TreeOk_L1 at H
     exact absurd H (by simp)
    ·unfold spec_TreeOk_L1 at H
     refine c_seq <| c_seq <| c_reg <| ow_batch [.p, .fa 39 0 0 fa39_0] rfl <| o1 rfl (r1 0 1 rfl ty37 rfl) <| ow_batch [.lenS 37 118 sl37, .p] rfl <| ow_nil <| x_qs <| cI H rfl (fun H => ?_) (fun H => ?_)
     ·refine c_skip <| x_qs <| c_seq <| c_block <| c_seq <| c_reg <| ow_batch [.fa 39 0 0 fa39_0] rfl <| o1 rfl (r1 0 1 rfl ty37 rfl) <| ow_batch [.p] rfl <| bE H fun e267 h268 H => ow_ixB rfl rfl rfl rfl rfl sl37 ty118 rfl g20 h268 fun q271 c272 hd269 hA270 => ?_
      obtain ⟨c273, c274, c275, c276, c277, c278, c279, c280, c281, c282, rfl, g283, g284, g285, g286, g287, g288, g289, g290, g291, g292⟩ := rdo_Timpl_Node hd269
      obtain rfl : c273 = [.bool e267.Leaf_] := g283
      obtain rfl : c274 = [.int .i64 e267.Fork_.Attr_, .int .i64 e267.Fork_.At_] := g284
      obtain ⟨a293, c294, rfl⟩ := rd_sl1 g285
      obtain rfl : c276 = [.int .i64 e267.Miss_] := g286
      obtain ⟨c295, c296, rfl, g297, g298⟩ := rdo_Timpl_Stats g287
      obtain ⟨a299, c300, rfl⟩ := rd_sl1 g297
      obtain ⟨a301, c302, rfl⟩ := rd_sl1 g298
      obtain rfl : c278 = [.int .i64 e267.Since_] := g288
      obtain ⟨a303, c304, rfl⟩ := rd_sl1 g289
      obtain rfl : c280 = [.int .i64 e267.Depth_] := g290
      obtain rfl : c281 = [.int .i64 e267.Up_] := g291
      obtain rfl : c282 = [.int .i64 e267.Born_] := g292
      refine o1 rfl (ry_load (cs := [.bool e267.Leaf_, .int .i64 e267.Fork_.Attr_, .int .i64 e267.Fork_.At_, .slice a293 e267.Kids_.length c294, .int .i64 e267.Miss_, .slice a299 e267.Stats_.Totals_.length c300, .slice a301 e267.Stats_.Cells_.length c302, .int .i64 e267.Since_, .slice a303 e267.Attrs_.length c304, .int .i64 e267.Depth_, .int .i64 e267.Up_, .int .i64 e267.Born_]) rfl rfl ty118 (at_bor bor hA270) rfl) <| ow_alloc rfl rfl rfl rfl ty118 (fun _ => kp) fun b305 => sC 0 [.bool e267.Leaf_, .int .i64 e267.Fork_.Attr_, .int .i64 e267.Fork_.At_, .slice a293 e267.Kids_.length c294, .int .i64 e267.Miss_, .slice a299 e267.Stats_.Totals_.length c300, .slice a301 e267.Stats_.Cells_.length c302, .int .i64 e267.Since_, .slice a303 e267.Attrs_.length c304, .int .i64 e267.Depth_, .int .i64 e267.Up_, .int .i64 e267.Born_] [_, _, _, _, _, _, _, _, _, _, _, _] 2 rfl ty118 rfl <| ow_nil <| x_qs <| c_seq <| c_seq <| c_reg <| ow_batch [.fa 118 7 9 fa118_7] rfl <| o1 rfl (r1 9 2 rfl ty3 rfl) <| bE H fun y306 h307 H => oq rfl (qc rfl fn88 (fun w1 hw1 => spec_l1In_ok w1  h307)) tt2 <| ow_batch [.p, .p] rfl <| bE H fun u308 hu312 H => ow_cut [(47, .bool u308), (2, .pointer (some ⟨b24, 0, none⟩)), (3, .pointer (some ⟨b25, 0, none⟩)), (5, .int .i64 i152), (6, .pointer (some ⟨b305, 0, none⟩))] 7 ?_ (fun key => OW.sub (R := [(2, .pointer (some ⟨b24, 0, none⟩)), (3, .pointer (some ⟨b25, 0, none⟩)), (5, .int .i64 i152), (6, .pointer (some ⟨b305, 0, none⟩)), (40, .bool (!y306))]) ?_ (sb rfl))
      ·refine ow_nil <| x_qs <| cI H rfl (fun H => ?_) (fun H => ?_)
       ·exact c_seq <| c_reg <| ow_batch [.p] rfl <| ow_nil <| x_qs <| c_ret <| x_qs_ret <| x_qb_ret <| x_qs_ret <| x_ql_ret <| x_qb_ret <| x_qs_ret <| xr 4 rfl (by cases H; exact q1)
       ·refine c_skip <| x_qs <| c_seq <| c_seq <| c_reg <| ow_batch [.fa 118 0 0 fa118_0] rfl <| o1 rfl (r1 0 2 rfl ty4 rfl) <| ow_batch [.p] rfl <| bE H fun u313 hu317 H => ow_cut [(55, .bool u313), (2, .pointer (some ⟨b24, 0, none⟩)), (3, .pointer (some ⟨b25, 0, none⟩)), (5, .int .i64 i152), (6, .pointer (some ⟨b305, 0, none⟩))] 5 ?_ (fun key => OW.sub (R := [(2, .pointer (some ⟨b24, 0, none⟩)), (3, .pointer (some ⟨b25, 0, none⟩)), (5, .int .i64 i152), (6, .pointer (some ⟨b305, 0, none⟩)), (50, .bool e267.Leaf_)]) ?_ (sb rfl))
        ·refine ow_batch [.p] rfl <| bE H fun u318 hu325 H => ow_cut [(67, .bool u318), (2, .pointer (some ⟨b24, 0, none⟩)), (3, .pointer (some ⟨b25, 0, none⟩)), (5, .int .i64 i152), (6, .pointer (some ⟨b305, 0, none⟩))] 11 ?_ (fun key => OW.sub (R := [(2, .pointer (some ⟨b24, 0, none⟩)), (3, .pointer (some ⟨b25, 0, none⟩)), (5, .int .i64 i152), (6, .pointer (some ⟨b305, 0, none⟩)), (56, .bool u313)]) ?_ (sb rfl))
         ·refine ow_nil <| x_qs <| cI H rfl (fun H => ?_) (fun H => ?_)
          ·exact c_seq <| c_reg <| ow_batch [.p] rfl <| ow_nil <| x_qs <| c_ret <| x_qs_ret <| x_qb_ret <| x_qs_ret <| x_ql_ret <| x_qb_ret <| x_qs_ret <| xr 4 rfl (by cases H; exact q1)
          ·refine c_skip <| x_qs <| c_seq <| c_seq <| c_reg <| ow_batch [.p, .p] rfl <| ow_nil <| x_qs <| cI H rfl (fun H => ?_) (fun H => ?_)
           ·refine c_seq <| c_seq <| c_reg <| ow_batch [.fa 118 8 10 fa118_8] rfl <| o1 rfl (r1 10 2 rfl ty3 rfl) <| ow_batch [.p, .p] rfl <| ow_cut [(77, .bool ((e267.Up_ != (-1)) || (e267.Depth_ != 0))), (2, .pointer (some ⟨b24, 0, none⟩)), (3, .pointer (some ⟨b25, 0, none⟩)), (5, .int .i64 i152), (6, .pointer (some ⟨b305, 0, none⟩))] 4 ?_ (fun key => OW.sub (R := [(2, .pointer (some ⟨b24, 0, none⟩)), (3, .pointer (some ⟨b25, 0, none⟩)), (5, .int .i64 i152), (6, .pointer (some ⟨b305, 0, none⟩)), (73, .bool (e267.Up_ != (-1)))]) ?_ (sb rfl))
            ·refine ow_batch [.p] rfl <| ow_cut [(82, .bool (((e267.Up_ != (-1)) || (e267.Depth_ != 0)) || (e267.Born_ != 0))), (2, .pointer (some ⟨b24, 0, none⟩)), (3, .pointer (some ⟨b25, 0, none⟩)), (5, .int .i64 i152)] 4 ?_ (fun key => OW.sub (R := [(2, .pointer (some ⟨b24, 0, none⟩)), (3, .pointer (some ⟨b25, 0, none⟩)), (5, .int .i64 i152), (6, .pointer (some ⟨b305, 0, none⟩)), (78, .bool ((e267.Up_ != (-1)) || (e267.Depth_ != 0)))]) ?_ (sb rfl))
             ·refine ow_nil <| x_qs <| cI H rfl (fun H => ?_) (fun H => ?_)
              ·exact c_seq <| c_reg <| ow_batch [.p] rfl <| ow_nil <| x_qs <| c_ret <| x_qs_ret <| x_qs_ret <| x_qb_ret <| x_qs_ret <| x_ql_ret <| x_qb_ret <| x_qs_ret <| xr 4 rfl (by cases H; exact q1)
              ·exact c_skip <| x_qs <| c_exit <| x_qs_exit <| x_qb_here <| x_qs <| c_reg <| ow_batch [.p, .p, .p] rfl <| ow_nil <| x_ql (RW.at (ihk1 (IntKind.i64.wrap (i152 + 1)) (H)) (fun _ h => St.sel [0, 1] rfl rfl h) ⟨rfl, rfl, rfl, trivial⟩)
             ·generalize ((e267.Up_ != (-1)) || (e267.Depth_ != 0)) = t329 at key ⊢
              cases t329
              ·exact ow_batch [.fa 118 9 11 fa118_9] rfl <| o1 rfl (r1 11 2 rfl ty3 rfl) <| ow_batch [.p] rfl <| ow_batch [.p] rfl <| OW.sub key (sb rfl)
              ·exact ow_batch [.p, .p, .p, .p] rfl <| OW.sub key (sb rfl)
            ·generalize (e267.Up_ != (-1)) = t327 at key ⊢
             cases t327
             ·exact ow_batch [.fa 118 7 9 fa118_7] rfl <| o1 rfl (r1 9 2 rfl ty3 rfl) <| ow_batch [.p] rfl <| ow_batch [.p] rfl <| OW.sub key (sb rfl)
             ·exact ow_batch [.p, .p, .p, .p] rfl <| OW.sub key (sb rfl)
           ·refine c_skip <| x_qs <| c_seq <| c_seq <| c_reg <| ow_batch [.fa 118 8 10 fa118_8] rfl <| o1 rfl (r1 10 2 rfl ty3 rfl) <| ow_batch [.p, .p] rfl <| bE H fun y330 h331 H => oq rfl (qc rfl fn88 (fun w1 hw1 => spec_l1In_ok w1  h331)) tt2 <| ow_batch [.p] rfl <| ow_nil <| x_qs <| cI H rfl (fun H => ?_) (fun H => ?_)
            ·exact c_seq <| c_reg <| ow_batch [.p] rfl <| ow_nil <| x_qs <| c_ret <| x_qs_ret <| x_qb_ret <| x_qs_ret <| x_ql_ret <| x_qb_ret <| x_qs_ret <| xr 4 rfl (by cases H; exact q1)
            ·refine c_skip <| x_qs <| c_seq <| c_reg <| ow_batch [.fa 39 0 0 fa39_0] rfl <| o1 rfl (r1 0 1 rfl ty37 rfl) <| ow_batch [.fa 118 8 10 fa118_8] rfl <| o1 rfl (r1 10 2 rfl ty3 rfl) <| bE H fun e332 h333 H => ow_ixB rfl rfl rfl rfl rfl sl37 ty118 rfl g20 h333 fun q336 c337 hd334 hA335 => ?_
             obtain ⟨c338, c339, c340, c341, c342, c343, c344, c345, c346, c347, rfl, g348, g349, g350, g351, g352, g353, g354, g355, g356, g357⟩ := rdo_Timpl_Node hd334
             obtain rfl : c338 = [.bool e332.Leaf_] := g348
             obtain rfl : c339 = [.int .i64 e332.Fork_.Attr_, .int .i64 e332.Fork_.At_] := g349
             obtain ⟨a358, c359, rfl⟩ := rd_sl1 g350
             obtain rfl : c341 = [.int .i64 e332.Miss_] := g351
             obtain ⟨c360, c361, rfl, g362, g363⟩ := rdo_Timpl_Stats g352
             obtain ⟨a364, c365, rfl⟩ := rd_sl1 g362
             obtain ⟨a366, c367, rfl⟩ := rd_sl1 g363
             obtain rfl : c343 = [.int .i64 e332.Since_] := g353
             obtain ⟨a368, c369, rfl⟩ := rd_sl1 g354
             obtain rfl : c345 = [.int .i64 e332.Depth_] := g355
             obtain rfl : c346 = [.int .i64 e332.Up_] := g356
             obtain rfl : c347 = [.int .i64 e332.Born_] := g357
             refine o1 rfl (ry_load (cs := [.bool e332.Leaf_, .int .i64 e332.Fork_.Attr_, .int .i64 e332.Fork_.At_, .slice a358 e332.Kids_.length c359, .int .i64 e332.Miss_, .slice a364 e332.Stats_.Totals_.length c365, .slice a366 e332.Stats_.Cells_.length c367, .int .i64 e332.Since_, .slice a368 e332.Attrs_.length c369, .int .i64 e332.Depth_, .int .i64 e332.Up_, .int .i64 e332.Born_]) rfl rfl ty118 (at_bor bor hA335) rfl) <| ow_alloc rfl rfl rfl rfl ty118 (fun _ => kp) fun b370 => sC 0 [.bool e332.Leaf_, .int .i64 e332.Fork_.Attr_, .int .i64 e332.Fork_.At_, .slice a358 e332.Kids_.length c359, .int .i64 e332.Miss_, .slice a364 e332.Stats_.Totals_.length c365, .slice a366 e332.Stats_.Cells_.length c367, .int .i64 e332.Since_, .slice a368 e332.Attrs_.length c369, .int .i64 e332.Depth_, .int .i64 e332.Up_, .int .i64 e332.Born_] [_, _, _, _, _, _, _, _, _, _, _, _] 3 rfl ty118 rfl <| ow_nil <| x_qs <| c_seq <| c_reg <| ow_batch [.fa 118 0 0 fa118_0] rfl <| o1 rfl (r1 0 3 rfl ty4 rfl) <| ow_batch [.p] rfl <| bE H fun u371 hu375 H => ow_cut [(103, .bool u371), (2, .pointer (some ⟨b24, 0, none⟩)), (3, .pointer (some ⟨b25, 0, none⟩)), (5, .int .i64 i152), (6, .pointer (some ⟨b305, 0, none⟩)), (7, .pointer (some ⟨b370, 0, none⟩))] 6 ?_ (fun key => OW.sub (R := [(2, .pointer (some ⟨b24, 0, none⟩)), (3, .pointer (some ⟨b25, 0, none⟩)), (5, .int .i64 i152), (6, .pointer (some ⟨b305, 0, none⟩)), (7, .pointer (some ⟨b370, 0, none⟩)), (97, .bool e332.Leaf_)]) ?_ (sb rfl))
             ·refine ow_batch [.p] rfl <| ow_cut [(111, .bool (u371 || ((IntKind.i64.wrap (e332.Depth_ + 1)) != e267.Depth_))), (2, .pointer (some ⟨b24, 0, none⟩)), (3, .pointer (some ⟨b25, 0, none⟩)), (5, .int .i64 i152), (6, .pointer (some ⟨b305, 0, none⟩)), (7, .pointer (some ⟨b370, 0, none⟩))] 7 ?_ (fun key => OW.sub (R := [(2, .pointer (some ⟨b24, 0, none⟩)), (3, .pointer (some ⟨b25, 0, none⟩)), (5, .int .i64 i152), (6, .pointer (some ⟨b305, 0, none⟩)), (7, .pointer (some ⟨b370, 0, none⟩)), (104, .bool u371)]) ?_ (sb rfl))
              ·refine ow_batch [.p] rfl <| ow_cut [(118, .bool ((u371 || ((IntKind.i64.wrap (e332.Depth_ + 1)) != e267.Depth_)) || (decide (e332.Born_ > e267.Born_)))), (2, .pointer (some ⟨b24, 0, none⟩)), (3, .pointer (some ⟨b25, 0, none⟩)), (5, .int .i64 i152)] 6 ?_ (fun key => OW.sub (R := [(2, .pointer (some ⟨b24, 0, none⟩)), (3, .pointer (some ⟨b25, 0, none⟩)), (5, .int .i64 i152), (6, .pointer (some ⟨b305, 0, none⟩)), (7, .pointer (some ⟨b370, 0, none⟩)), (112, .bool (u371 || ((IntKind.i64.wrap (e332.Depth_ + 1)) != e267.Depth_)))]) ?_ (sb rfl))
               ·refine ow_nil <| x_qs <| cI H rfl (fun H => ?_) (fun H => ?_)
                ·exact c_seq <| c_reg <| ow_batch [.p] rfl <| ow_nil <| x_qs <| c_ret <| x_qb_ret <| x_qs_ret <| x_ql_ret <| x_qb_ret <| x_qs_ret <| xr 4 rfl (by cases H; exact q1)
                ·exact c_skip <| x_qb <| x_qs <| c_reg <| ow_batch [.p, .p, .p] rfl <| ow_nil <| x_ql (RW.at (ihk1 (IntKind.i64.wrap (i152 + 1)) (H)) (fun _ h => St.sel [0, 1] rfl rfl h) ⟨rfl, rfl, rfl, trivial⟩)
               ·generalize (u371 || ((IntKind.i64.wrap (e332.Depth_ + 1)) != e267.Depth_)) = t379 at key ⊢
                cases t379
                ·exact ow_batch [.fa 118 9 11 fa118_9] rfl <| o1 rfl (r1 11 3 rfl ty3 rfl) <| ow_batch [.fa 118 9 11 fa118_9] rfl <| o1 rfl (r1 11 2 rfl ty3 rfl) <| ow_batch [.p] rfl <| ow_batch [.p] rfl <| OW.sub key (sb rfl)
                ·exact ow_batch [.p, .p, .p, .p, .p, .p] rfl <| OW.sub key (sb rfl)
              ·generalize u371 = t377 at key ⊢
               cases t377
               ·exact ow_batch [.fa 118 7 9 fa118_7] rfl <| o1 rfl (r1 9 3 rfl ty3 rfl) <| ow_batch [.p, .fa 118 7 9 fa118_7] rfl <| o1 rfl (r1 9 2 rfl ty3 rfl) <| ow_batch [.p] rfl <| ow_batch [.p] rfl <| OW.sub key (sb rfl)
               ·exact ow_batch [.p, .p, .p, .p, .p, .p, .p] rfl <| OW.sub key (sb rfl)
             ·clear H
              have H := hu375
              clear hu375
              generalize e332.Leaf_ = t374 at H key ⊢
              cases t374
              ·have H := of_if_f rfl H
               refine ow_batch [.fa 118 2 3 fa118_2] rfl <| o1 rfl (r1 3 3 rfl ty59 rfl) <| ow_batch [.p] rfl <| bE H fun y372 h373 H => oq rfl (qc rfl fn125 (fun w1 hw1 => spec_l19Among_ok w1  h373 (rds_bor g350 w1 hw1))) tt2 <| ow_batch [.p] rfl <| ow_batch [.p] rfl <| ?_
               obtain rfl := of_some H
               exact OW.sub key (sb rfl)
              ·have H := of_if_t rfl H
               refine ow_batch [.p, .p, .p, .p, .p, .p] rfl ?_
               obtain rfl := of_some H
               exact OW.sub key (sb rfl)
         ·clear H
          have H := hu325
          clear hu325
          generalize u313 = t324 at H key ⊢
          cases t324
          ·have H := of_if_f rfl H
           refine ow_batch [.fa 118 0 0 fa118_0] rfl <| o1 rfl (r1 0 2 rfl ty4 rfl) <| ow_batch [.p, .p] rfl <| bE H fun u319 hu323 H => ow_cut [(66, .bool u319), (2, .pointer (some ⟨b24, 0, none⟩)), (3, .pointer (some ⟨b25, 0, none⟩)), (5, .int .i64 i152), (6, .pointer (some ⟨b305, 0, none⟩)), (56, .bool false)] 6 ?_ (fun key => OW.sub (R := [(2, .pointer (some ⟨b24, 0, none⟩)), (3, .pointer (some ⟨b25, 0, none⟩)), (5, .int .i64 i152), (6, .pointer (some ⟨b305, 0, none⟩)), (56, .bool false), (60, .bool (!e267.Leaf_))]) ?_ (sb rfl))
           ·refine ow_batch [.p] rfl ?_
            obtain rfl := of_some H
            exact OW.sub key (sb rfl)
           ·clear H
            have H := hu323
            clear hu323
            generalize (!e267.Leaf_) = t322 at H key ⊢
            cases t322
            ·have H := of_if_f rfl H
             refine ow_batch [.p, .p, .p, .p, .p, .p] rfl ?_
             obtain rfl := of_some H
             exact OW.sub key (sb rfl)
            ·have H := of_if_t rfl H
             refine o1 rfl (rx 0 0 [.slice a14 p0.Attrs_.length c15, .slice a16 p0.Classes_.length c17] rfl ty35 rfl) <| o1 rfl (rx 0 1 [.slice a22 p1.Nodes_.length c23, .int .i64 p1.Seen_] rfl ty39 rfl) <| ow_batch [.p] rfl <| bE H fun y320 h321 H => oq rfl (qc rfl fn124 (fun w1 hw1 => spec_l19Split_ok w1 (cs0 := [.slice a14 p0.Attrs_.length c15, .slice a16 p0.Classes_.length c17]) (cs1 := [.slice a22 p1.Nodes_.length c23, .int .i64 p1.Seen_]) h321 (rdm_Timpl_Schema (x := p0) (c0 := [.slice a14 p0.Attrs_.length c15]) (c1 := [.slice a16 p0.Classes_.length c17]) (rds_bor g12 w1 hw1) (rds_bor g13 w1 hw1)) (rdm_Timpl_Tree (x := p1) (c0 := [.slice a22 p1.Nodes_.length c23]) (c1 := [.int .i64 p1.Seen_]) (rds_bor g20 w1 hw1) rfl))) tt2 <| ow_batch [.p] rfl <| ow_batch [.p] rfl <| ?_
             obtain rfl := of_some H
             exact OW.sub key (sb rfl)
          ·have H := of_if_t rfl H
           refine ow_batch [.p, .p, .p, .p, .p, .p, .p, .p, .p, .p, .p] rfl ?_
           obtain rfl := of_some H
           exact OW.sub key (sb rfl)
        ·clear H
         have H := hu317
         clear hu317
         generalize e267.Leaf_ = t316 at H key ⊢
         cases t316
         ·have H := of_if_f rfl H
          refine ow_batch [.p, .p, .p, .p, .p] rfl ?_
          obtain rfl := of_some H
          exact OW.sub key (sb rfl)
         ·have H := of_if_t rfl H
          refine o1 rfl (rx 0 0 [.slice a14 p0.Attrs_.length c15, .slice a16 p0.Classes_.length c17] rfl ty35 rfl) <| o1 rfl (rx 0 2 [.bool true, .int .i64 e267.Fork_.Attr_, .int .i64 e267.Fork_.At_, .slice a293 e267.Kids_.length c294, .int .i64 e267.Miss_, .slice a299 e267.Stats_.Totals_.length c300, .slice a301 e267.Stats_.Cells_.length c302, .int .i64 e267.Since_, .slice a303 e267.Attrs_.length c304, .int .i64 e267.Depth_, .int .i64 e267.Up_, .int .i64 e267.Born_] rfl ty118 rfl) <| bE H fun y314 h315 H => oq rfl (qc rfl fn123 (fun w1 hw1 => spec_l19Leaf_ok w1 (cs0 := [.slice a14 p0.Attrs_.length c15, .slice a16 p0.Classes_.length c17]) (cs1 := [.bool true, .int .i64 e267.Fork_.Attr_, .int .i64 e267.Fork_.At_, .slice a293 e267.Kids_.length c294, .int .i64 e267.Miss_, .slice a299 e267.Stats_.Totals_.length c300, .slice a301 e267.Stats_.Cells_.length c302, .int .i64 e267.Since_, .slice a303 e267.Attrs_.length c304, .int .i64 e267.Depth_, .int .i64 e267.Up_, .int .i64 e267.Born_]) h315 (rdm_Timpl_Schema (x := p0) (c0 := [.slice a14 p0.Attrs_.length c15]) (c1 := [.slice a16 p0.Classes_.length c17]) (rds_bor g12 w1 hw1) (rds_bor g13 w1 hw1)) (rdm_Timpl_Node (x := ({ e267 with Leaf_ := true })) (c0 := [.bool true]) (c1 := [.int .i64 e267.Fork_.Attr_, .int .i64 e267.Fork_.At_]) (c2 := [.slice a293 e267.Kids_.length c294]) (c3 := [.int .i64 e267.Miss_]) (c4 := [.slice a299 e267.Stats_.Totals_.length c300, .slice a301 e267.Stats_.Cells_.length c302]) (c5 := [.int .i64 e267.Since_]) (c6 := [.slice a303 e267.Attrs_.length c304]) (c7 := [.int .i64 e267.Depth_]) (c8 := [.int .i64 e267.Up_]) (c9 := [.int .i64 e267.Born_]) rfl rfl (rds_bor g285 w1 hw1) rfl (rdm_Timpl_Stats (x := e267.Stats_) (c0 := [.slice a299 e267.Stats_.Totals_.length c300]) (c1 := [.slice a301 e267.Stats_.Cells_.length c302]) (rds_bor g297 w1 hw1) (rds_bor g298 w1 hw1)) rfl (rds_bor g289 w1 hw1) rfl rfl rfl))) tt2 <| ow_batch [.p] rfl <| ow_batch [.p] rfl <| ?_
          obtain rfl := of_some H
          exact OW.sub key (sb rfl)
      ·clear H
       have H := hu312
       clear hu312
       generalize (!y306) = t311 at H key ⊢
       cases t311
       ·have H := of_if_f rfl H
        refine ow_batch [.fa 118 9 11 fa118_9] rfl <| o1 rfl (r1 11 2 rfl ty3 rfl) <| ow_batch [.fa 39 1 1 fa39_1] rfl <| o1 rfl (r1 1 1 rfl ty3 rfl) <| bE H fun y309 h310 H => oq rfl (qc rfl fn88 (fun w1 hw1 => spec_l1In_ok w1  h310)) tt2 <| ow_batch [.p] rfl <| ow_batch [.p] rfl <| ?_
        obtain rfl := of_some H
        exact OW.sub key (sb rfl)
       ·have H := of_if_t rfl H
        refine ow_batch [.p, .p, .p, .p, .p, .p, .p] rfl ?_
        obtain rfl := of_some H
        exact OW.sub key (sb rfl)
     ·exact c_exit <| x_qs_exit <| x_ql_exit <| x_qb_here <| x_qs <| c_seq <| c_reg <| ow_batch [.p] rfl <| ow_nil <| x_qs <| c_ret <| xr 4 rfl (by cases H; exact q1)
  ·clear H
   have H := hu37
   clear hu37
   generalize u28 = t36 at H key ⊢
   cases t36
   ·have H := of_if_f rfl H
    refine ow_batch [.fa 39 1 1 fa39_1] rfl <| o1 rfl (r1 1 1 rfl ty3 rfl) <| bE H fun y34 h35 H => oq rfl (qc rfl fn88 (fun w1 hw1 => spec_l1In_ok w1  h35)) tt2 <| ow_batch [.p] rfl <| ow_batch [.p] rfl <| ?_
    obtain rfl := of_some H
    exact OW.sub key (sb rfl)
   ·have H := of_if_t rfl H
    refine ow_batch [.p, .p, .p, .p, .p] rfl ?_
    obtain rfl := of_some H
    exact OW.sub key (sb rfl)
 ·clear H
  have H := hu32
  clear hu32
  generalize (!y26) = t31 at H key ⊢
  cases t31
  ·have H := of_if_f rfl H
   refine ow_batch [.fa 39 0 0 fa39_0] rfl <| o1 rfl (r1 0 1 rfl ty37 rfl) <| ow_batch [.lenS 37 118 sl37] rfl <| bE H fun y29 h30 H => oq rfl (qc rfl fn88 (fun w1 hw1 => spec_l1In_ok w1  h30)) tt2 <| ow_batch [.p] rfl <| ow_batch [.p] rfl <| ?_
   obtain rfl := of_some H
   exact OW.sub key (sb rfl)
  ·have H := of_if_t rfl H
   refine ow_batch [.p, .p, .p, .p, .p, .p] rfl ?_
   obtain rfl := of_some H
   exact OW.sub key (sb rfl)
theorem spec_RuleOk_ok (w : World) {p0 : Timpl_Rule}  {r : Bool} (H : spec_RuleOk p0 = some r)   :
    Calls Tryz.prog 74 #[.agg #[.int .i64 p0.Sure_, .int .i64 p0.Tie_, .int .i64 p0.Grace_, .int .i64 p0.Depth_, .int .i64 p0.Nodes_, .int .i64 p0.Units_, .bool p0.Two_]] w (fun en w' => en = .returned (.bool r) ∧ Ext [] w w') := by
 unfold spec_RuleOk at H
 refine f_enter (vs := [.agg #[.int .i64 p0.Sure_, .int .i64 p0.Tie_, .int .i64 p0.Grace_, .int .i64 p0.Depth_, .int .i64 p0.Nodes_, .int .i64 p0.Units_, .bool p0.Two_]]) Tryz.func74 rfl Tryz.ntmps74 rfl (St.init w []) <| c_seq <| c_reg <| ob [.int .i64 p0.Sure_, .int .i64 p0.Tie_, .int .i64 p0.Grace_, .int .i64 p0.Depth_, .int .i64 p0.Nodes_, .int .i64 p0.Units_, .bool p0.Two_] rfl fun b10 => ow_batch [.p] rfl <| ow_nil <| x_qs <| c_seq <| c_reg <| ow_batch [.fa 53 0 0 fa53_0] rfl <| o1 rfl (r1 0 0 rfl ty3 rfl) <| bE H fun y11 h12 H => oq rfl (qc rfl fn88 (fun w1 hw1 => spec_l1In_ok w1  h12)) tt2 <| ow_batch [.p] rfl <| bE H fun u13 hu17 H => ow_cut [(10, .bool u13), (1, .pointer (some ⟨b10, 0, none⟩)), (2, .bool false)] 4 ?_ (fun key => OW.sub (R := [(1, .pointer (some ⟨b10, 0, none⟩)), (2, .bool false), (6, .bool y11)]) ?_ (sb rfl))
 ·refine ow_batch [.p] rfl <| bE H fun u18 hu22 H => ow_cut [(15, .bool u18), (1, .pointer (some ⟨b10, 0, none⟩)), (2, .bool false)] 4 ?_ (fun key => OW.sub (R := [(1, .pointer (some ⟨b10, 0, none⟩)), (2, .bool false), (11, .bool u13)]) ?_ (sb rfl))
  ·refine ow_batch [.p] rfl <| bE H fun u23 hu27 H => ow_cut [(20, .bool u23), (1, .pointer (some ⟨b10, 0, none⟩)), (2, .bool false)] 4 ?_ (fun key => OW.sub (R := [(1, .pointer (some ⟨b10, 0, none⟩)), (2, .bool false), (16, .bool u18)]) ?_ (sb rfl))
   ·refine ow_batch [.p] rfl <| bE H fun u28 hu32 H => ow_cut [(25, .bool u28), (1, .pointer (some ⟨b10, 0, none⟩)), (2, .bool false)] 4 ?_ (fun key => OW.sub (R := [(1, .pointer (some ⟨b10, 0, none⟩)), (2, .bool false), (21, .bool u23)]) ?_ (sb rfl))
    ·refine ow_batch [.p] rfl <| bE H fun u33 hu37 H => ow_cut [(30, .bool u33), (2, .bool false)] 4 ?_ (fun key => OW.sub (R := [(1, .pointer (some ⟨b10, 0, none⟩)), (2, .bool false), (26, .bool u28)]) ?_ (sb rfl))
     ·exact ow_batch [.p] rfl <| ow_nil <| x_qs <| c_ret <| xr 2 rfl (by cases H; exact q1)
     ·clear H
      have H := hu37
      clear hu37
      generalize u28 = t36 at H key ⊢
      cases t36
      ·have H := of_if_f rfl H
       refine ow_batch [.p, .p, .p, .p] rfl ?_
       obtain rfl := of_some H
       exact OW.sub key (sb rfl)
      ·have H := of_if_t rfl H
       refine ow_batch [.fa 53 5 5 fa53_5] rfl <| o1 rfl (r1 5 0 rfl ty3 rfl) <| bE H fun y34 h35 H => oq rfl (qc rfl fn88 (fun w1 hw1 => spec_l1In_ok w1  h35)) tt2 <| ow_batch [.p] rfl <| ?_
       obtain rfl := of_some H
       exact OW.sub key (sb rfl)
    ·clear H
     have H := hu32
     clear hu32
     generalize u23 = t31 at H key ⊢
     cases t31
     ·have H := of_if_f rfl H
      refine ow_batch [.p, .p, .p, .p] rfl ?_
      obtain rfl := of_some H
      exact OW.sub key (sb rfl)
     ·have H := of_if_t rfl H
      refine ow_batch [.fa 53 4 4 fa53_4] rfl <| o1 rfl (r1 4 0 rfl ty3 rfl) <| bE H fun y29 h30 H => oq rfl (qc rfl fn88 (fun w1 hw1 => spec_l1In_ok w1  h30)) tt2 <| ow_batch [.p] rfl <| ?_
      obtain rfl := of_some H
      exact OW.sub key (sb rfl)
   ·clear H
    have H := hu27
    clear hu27
    generalize u18 = t26 at H key ⊢
    cases t26
    ·have H := of_if_f rfl H
     refine ow_batch [.p, .p, .p, .p] rfl ?_
     obtain rfl := of_some H
     exact OW.sub key (sb rfl)
    ·have H := of_if_t rfl H
     refine ow_batch [.fa 53 3 3 fa53_3] rfl <| o1 rfl (r1 3 0 rfl ty3 rfl) <| bE H fun y24 h25 H => oq rfl (qc rfl fn88 (fun w1 hw1 => spec_l1In_ok w1  h25)) tt2 <| ow_batch [.p] rfl <| ?_
     obtain rfl := of_some H
     exact OW.sub key (sb rfl)
  ·clear H
   have H := hu22
   clear hu22
   generalize u13 = t21 at H key ⊢
   cases t21
   ·have H := of_if_f rfl H
    refine ow_batch [.p, .p, .p, .p] rfl ?_
    obtain rfl := of_some H
    exact OW.sub key (sb rfl)
   ·have H := of_if_t rfl H
    refine ow_batch [.fa 53 2 2 fa53_2] rfl <| o1 rfl (r1 2 0 rfl ty3 rfl) <| bE H fun y19 h20 H => oq rfl (qc rfl fn88 (fun w1 hw1 => spec_l1In_ok w1  h20)) tt2 <| ow_batch [.p] rfl <| ?_
    obtain rfl := of_some H
    exact OW.sub key (sb rfl)
 ·clear H
  have H := hu17
  clear hu17
  generalize y11 = t16 at H key ⊢
  cases t16
  ·have H := of_if_f rfl H
   refine ow_batch [.p, .p, .p, .p] rfl ?_
   obtain rfl := of_some H
   exact OW.sub key (sb rfl)
  ·have H := of_if_t rfl H
   refine ow_batch [.fa 53 1 1 fa53_1] rfl <| o1 rfl (r1 1 0 rfl ty3 rfl) <| bE H fun y14 h15 H => oq rfl (qc rfl fn88 (fun w1 hw1 => spec_l1In_ok w1  h15)) tt2 <| ow_batch [.p] rfl <| ?_
   obtain rfl := of_some H
   exact OW.sub key (sb rfl)
theorem spec_l1Min_ok (w : World) {p0 : Int} {p1 : Int}  {r : Int} (H : spec_l1Min p0 p1 = some r)   :
    Calls Tryz.prog 181 #[.int .i64 p0, .int .i64 p1] w (fun en w' => en = .returned (.int .i64 r) ∧ Ext [] w w') := by
 unfold spec_l1Min at H
 refine f_enter (vs := [.int .i64 p0, .int .i64 p1]) Tryz.func181 rfl Tryz.ntmps181 rfl (St.init w []) <| c_seq <| c_reg <| ow_batch [.p] rfl <| ow_nil <| x_qs <| c_seq <| c_seq <| c_reg <| ow_batch [.p, .p, .p] rfl <| ow_nil <| x_qs <| cI H rfl (fun H => ?_) (fun H => ?_)
 ·exact c_seq <| c_reg <| ow_batch [.p, .p] rfl <| ow_nil <| x_qs <| c_ret <| x_qs_ret <| xr 4 rfl (by cases H; exact q1)
 ·exact c_skip <| x_qs <| c_seq <| c_reg <| ow_batch [.p, .p] rfl <| ow_nil <| x_qs <| c_ret <| xr 4 rfl (by cases H; exact q1)
theorem impl_within_ok (w : World) {p0 : Int} {p1 : Int} {p2 : Int}  {r : Bool} (H : impl_within p0 p1 p2 = some r)   :
    Calls Tryz.prog 91 #[.int .i64 p0, .int .i64 p1, .int .i64 p2] w (fun en w' => en = .returned (.bool r) ∧ Ext [] w w') := by
 unfold impl_within at H
 refine f_enter (vs := [.int .i64 p0, .int .i64 p1, .int .i64 p2]) Tryz.func91 rfl Tryz.ntmps91 rfl (St.init w []) <| c_seq <| c_reg <| ow_batch [.p] rfl <| ow_nil <| x_qs <| c_seq <| c_reg <| ow_batch [.p, .p, .p, .p] rfl <| ow_cut [(14, .bool ((decide (p0 ≥ p1)) && (decide (p0 ≤ p2)))), (6, .bool false)] 4 ?_ (fun key => OW.sub (R := [(0, .int .i64 p0), (2, .int .i64 p2), (6, .bool false), (10, .bool (decide (p0 ≥ p1)))]) ?_ (sb rfl))
 ·exact ow_batch [.p] rfl <| ow_nil <| x_qs <| c_ret <| xr 6 rfl (by cases H; exact q1)
 ·generalize (decide (p0 ≥ p1)) = t11 at key ⊢
  cases t11
  ·exact ow_batch [.p, .p, .p, .p] rfl <| OW.sub key (sb rfl)
  ·exact ow_batch [.p, .p, .p] rfl <| ow_batch [.p] rfl <| OW.sub key (sb rfl)
theorem impl_WordOk_ok (w : World) {p0 : List UInt8}  {r : Bool} (H : impl_WordOk p0 = some r)   :
    Calls Tryz.prog 209 #[vS p0] w (fun en w' => en = .returned (.bool r) ∧ Ext [] w w') := by
 unfold impl_WordOk at H
 refine f_enter (vs := [vS p0]) Tryz.func209 rfl Tryz.ntmps209 rfl (St.init w []) <| c_seq <| c_reg <| ow_batch [.p] rfl <| ow_nil <| x_qs <| c_seq <| c_seq <| c_reg <| ow_batch [.p, .lenT 9 st9] rfl <| bE H fun y10 h11 H => oq rfl (qc rfl fn91 (fun w1 hw1 => impl_within_ok w1  h11)) tt2 <| ow_batch [.p] rfl <| ow_nil <| x_qs <| cI H rfl (fun H => ?_) (fun H => ?_)
 ·exact c_seq <| c_reg <| ow_batch [.p] rfl <| ow_nil <| x_qs <| c_ret <| x_qs_ret <| xr 2 rfl (by cases H; exact q1)
 ·refine c_skip <| x_qs <| c_seq <| c_seq <| c_reg <| ow_batch [.p, .lenT 9 st9, .p] rfl <| ow_nil <| x_qs <| c_block <| CW.at (loopI1 (fun (i20 : Int) => St w [] []) (fun (i20 : Int) => [(0, vS p0), (9, .int .i64 (p0.length : Int)), (10, .int .i64 i20)]) (fun kk => fun (i20 : Int) => impl_WordOk_L1 p0 kk i20 = some r) (fun _ H => ?_) (fun k1 ihk1 i20 H => ?_) Fuel (0) (H)) (fun _ h => St.sel [] rfl rfl h) ⟨rfl, rfl, rfl,  trivial⟩
  ·unfold impl_WordOk_L1 at H
   exact absurd H (by simp)
  ·unfold impl_WordOk_L1 at H
   refine c_seq <| c_reg <| ow_batch [.p] rfl <| ow_nil <| x_qs <| c_seq <| cI H rfl (fun H => ?_) (fun H => ?_)
   ·refine c_skip <| x_qs <| c_seq <| c_block <| c_seq <| c_reg <| ow_batch [.p, .p] rfl <| ow_nil <| x_qs <| c_seq <| c_reg <| ow_batch [.p, .p] rfl <| bE H fun b29 h30 H => o1 rfl (ry_sidx (s := p0) rfl rfl rfl st9 h30) <| ow_batch [.p, .p] rfl <| bE H fun u31 hu35 H => ow_cut [(22, .bool u31), (0, vS p0), (9, .int .i64 (p0.length : Int)), (10, .int .i64 i20)] 5 ?_ (fun key => OW.sub (R := [(0, vS p0), (3, .int .i64 i20), (9, .int .i64 (p0.length : Int)), (10, .int .i64 i20), (17, .bool (decide ((b29.toNat : Int) < 97)))]) ?_ (sb rfl))
    ·refine ow_nil <| x_qs <| cI H rfl (fun H => ?_) (fun H => ?_)
     ·exact c_seq <| c_reg <| ow_batch [.p] rfl <| ow_nil <| x_qs <| c_ret <| x_qb_ret <| x_qs_ret <| x_ql_ret <| x_qb_ret <| x_qs_ret <| xr 2 rfl (by cases H; exact q1)
     ·exact c_skip <| x_qb <| x_qs <| c_reg <| ow_batch [.p, .p] rfl <| ow_nil <| x_ql (RW.at (ihk1 (IntKind.i64.wrap (i20 + 1)) (H)) (fun _ h => St.sel [] rfl rfl h) ⟨rfl, rfl, rfl, trivial⟩)
    ·clear H
     have H := hu35
     clear hu35
     generalize (decide ((b29.toNat : Int) < 97)) = t34 at H key ⊢
     cases t34
     ·have H := of_if_f rfl H
      refine ow_batch [.p, .p] rfl <| bE H fun b32 h33 H => o1 rfl (ry_sidx (s := p0) rfl rfl rfl st9 h33) <| ow_batch [.p] rfl <| ow_batch [.p] rfl <| ?_
      obtain rfl := of_some H
      exact OW.sub key (sb rfl)
     ·have H := of_if_t rfl H
      refine ow_batch [.p, .p, .p, .p, .p] rfl ?_
      obtain rfl := of_some H
      exact OW.sub key (sb rfl)
   ·exact c_exit <| x_qs_exit <| x_ql_exit <| x_qb_here <| x_qs <| c_seq <| c_reg <| ow_batch [.p] rfl <| ow_nil <| x_qs <| c_ret <| xr 2 rfl (by cases H; exact q1)
theorem lib_slices_Index___string_string__ok (w : World) {p0 : List (List UInt8)} {p1 : List UInt8} {a_0 : Option Addr} {n_0 c_0 : Nat} {r : Int} (H : lib_slices_Index___string_string_ p0 p1 = some r)  (g0 : (eList (eStr) 9).rd w [] p0 [.slice a_0 n_0 c_0]) :
    Calls Tryz.prog 259 #[.slice a_0 n_0 c_0, vS p1] w (fun en w' => en = .returned (.int .i64 r) ∧ Ext [] w w') := by
 obtain rfl := rd_n g0
 unfold lib_slices_Index___string_string_ at H
 refine f_enter (vs := [.slice a_0 p0.length c_0, vS p1]) Tryz.func259 rfl Tryz.ntmps259 rfl (St.init w []) <| c_seq <| c_reg <| ow_batch [.p] rfl <| ow_nil <| x_qs <| c_seq <| c_seq <| c_reg <| ow_batch [.p, .lenS 23 9 sl23, .p] rfl <| ow_nil <| x_qs <| c_block <| CW.at (loopI1 (fun (i13 : Int) => St w [] []) (fun (i13 : Int) => [(0, .slice a_0 p0.length c_0), (1, vS p1), (7, .int .i64 (p0.length : Int)), (8, .int .i64 i13)]) (fun kk => fun (i13 : Int) => lib_slices_Index___string_string__L1 p0 p1 kk i13 = some r) (fun _ H => ?_) (fun k1 ihk1 i13 H => ?_) Fuel (0) (H)) (fun _ h => St.sel [] rfl rfl h) ⟨rfl, rfl, rfl, rfl,  trivial⟩
 ·unfold lib_slices_Index___string_string__L1 at H
  exact absurd H (by simp)
 ·unfold lib_slices_Index___string_string__L1 at H
  refine c_seq <| c_reg <| ow_batch [.p] rfl <| ow_nil <| x_qs <| c_seq <| cI H rfl (fun H => ?_) (fun H => ?_)
  ·refine c_skip <| x_qs <| c_seq <| c_block <| c_seq <| c_reg <| ow_batch [.p, .p] rfl <| ow_nil <| x_qs <| c_seq <| c_reg <| ow_batch [.p, .p, .p] rfl <| bE H fun e18 h19 H => ow_ixE (e := eStr) (xs := p0) (j := i13) rfl rfl rfl rfl rfl sl23 ty9 rfl (fun w1 hw1 => rds_bor g0 w1 hw1) h19 (by rw [Nat.mul_one]) <| o1 rfl (ry_load1 rfl rfl ty9 (at_elV (fun w1 hw1 => rds_bor g0 w1 hw1) h19)) <| ow_batch [.p] rfl <| ow_nil <| x_qs <| cI H rfl (fun H => ?_) (fun H => ?_)
   ·exact c_seq <| c_reg <| ow_batch [.p, .p] rfl <| ow_nil <| x_qs <| c_ret <| x_qb_ret <| x_qs_ret <| x_ql_ret <| x_qb_ret <| x_qs_ret <| xr 4 rfl (by cases H; exact q1)
   ·exact c_skip <| x_qb <| x_qs <| c_reg <| ow_batch [.p, .p] rfl <| ow_nil <| x_ql (RW.at (ihk1 (IntKind.i64.wrap (i13 + 1)) (H)) (fun _ h => St.sel [] rfl rfl h) ⟨rfl, rfl, rfl, rfl, trivial⟩)
  ·exact c_exit <| x_qs_exit <| x_ql_exit <| x_qb_here <| x_qs <| c_seq <| c_reg <| ow_batch [.p] rfl <| ow_nil <| x_qs <| c_ret <| xr 4 rfl (by cases H; exact q1)
theorem lib_slices_Contains___string_string__ok (w : World) {p0 : List (List UInt8)} {p1 : List UInt8} {a_0 : Option Addr} {n_0 c_0 : Nat} {r : Bool} (H : lib_slices_Contains___string_string_ p0 p1 = some r)  (g0 : (eList (eStr) 9).rd w [] p0 [.slice a_0 n_0 c_0]) :
    Calls Tryz.prog 239 #[.slice a_0 n_0 c_0, vS p1] w (fun en w' => en = .returned (.bool r) ∧ Ext [] w w') := by
 obtain rfl := rd_n g0
 unfold lib_slices_Contains___string_string_ at H
 exact f_enter (vs := [.slice a_0 p0.length c_0, vS p1]) Tryz.func239 rfl Tryz.ntmps239 rfl (St.init w []) <| c_seq <| c_reg <| ow_batch [.p] rfl <| ow_nil <| x_qs <| c_seq <| c_reg <| ow_batch [.p, .p] rfl <| bE H fun y10 h11 H => oq rfl (qc rfl fn259 (fun w1 hw1 => lib_slices_Index___string_string__ok w1  h11 (rds_bor g0 w1 hw1))) tt2 <| ow_batch [.p, .p] rfl <| ow_nil <| x_qs <| c_ret <| xr 4 rfl (by cases H; exact q1)
theorem impl_distinctWords_ok (w : World) {p0 : List (List UInt8)} {a_0 : Option Addr} {n_0 c_0 : Nat} {r : Bool} (H : impl_distinctWords p0 = some r)  (g0 : (eList (eStr) 9).rd w [] p0 [.slice a_0 n_0 c_0]) :
    Calls Tryz.prog 202 #[.slice a_0 n_0 c_0] w (fun en w' => en = .returned (.bool r) ∧ Ext [] w w') := by
 obtain rfl := rd_n g0
 unfold impl_distinctWords at H
 refine f_enter (vs := [.slice a_0 p0.length c_0]) Tryz.func202 rfl Tryz.ntmps202 rfl (St.init w []) <| c_seq <| c_reg <| ow_batch [.p] rfl <| ow_nil <| x_qs <| c_seq <| c_seq <| c_reg <| ow_batch [.p, .lenS 23 9 sl23, .p] rfl <| ow_nil <| x_qs <| c_block <| CW.at (loopI1 (fun (i26 : Int) => St w [] []) (fun (i26 : Int) => [(0, .slice a_0 p0.length c_0), (5, .slice a_0 p0.length c_0), (6, .int .i64 (p0.length : Int)), (7, .int .i64 i26)]) (fun kk => fun (i26 : Int) => impl_distinctWords_L1 p0 kk i26 = some r) (fun _ H => ?_) (fun k1 ihk1 i26 H => ?_) Fuel (0) (H)) (fun _ h => St.sel [] rfl rfl h) ⟨rfl, rfl, rfl, rfl,  trivial⟩
 ·unfold impl_distinctWords_L1 at H
  exact absurd H (by simp)
 ·unfold impl_distinctWords_L1 at H
  refine c_seq <| c_reg <| ow_batch [.p] rfl <| ow_nil <| x_qs <| c_seq <| cI H rfl (fun H => ?_) (fun H => ?_)
  ·refine c_skip <| x_qs <| c_seq <| c_block <| c_seq <| c_reg <| ow_batch [.p] rfl <| bE H fun e43 h44 H => ow_ixE (e := eStr) (xs := p0) (j := i26) rfl rfl rfl rfl rfl sl23 ty9 rfl (fun w1 hw1 => rds_bor g0 w1 hw1) h44 (by rw [Nat.mul_one]) <| o1 rfl (ry_load1 rfl rfl ty9 (at_elV (fun w1 hw1 => rds_bor g0 w1 hw1) h44)) <| ow_batch [.p, .p] rfl <| ow_nil <| x_qs <| c_seq <| c_reg <| ow_batch [.p] rfl <| bE H fun y45 h46 H => oq rfl (qc rfl fn209 (fun w1 hw1 => impl_WordOk_ok w1  h46)) tt2 <| ow_batch [.p, .p] rfl <| bE H fun u47 hu57 H => ow_cut [(21, .bool u47), (0, .slice a_0 p0.length c_0), (5, .slice a_0 p0.length c_0), (6, .int .i64 (p0.length : Int)), (7, .int .i64 i26)] 6 ?_ (fun key => OW.sub (R := [(0, .slice a_0 p0.length c_0), (3, .int .i64 i26), (4, vS e43), (5, .slice a_0 p0.length c_0), (6, .int .i64 (p0.length : Int)), (7, .int .i64 i26), (15, .bool (!y45))]) ?_ (sb rfl))
   ·refine ow_nil <| x_qs <| cI H rfl (fun H => ?_) (fun H => ?_)
    ·exact c_seq <| c_reg <| ow_batch [.p] rfl <| ow_nil <| x_qs <| c_ret <| x_qb_ret <| x_qs_ret <| x_ql_ret <| x_qb_ret <| x_qs_ret <| xr 2 rfl (by cases H; exact q1)
    ·exact c_skip <| x_qb <| x_qs <| c_reg <| ow_batch [.p, .p] rfl <| ow_nil <| x_ql (RW.at (ihk1 (IntKind.i64.wrap (i26 + 1)) (H)) (fun _ h => St.sel [] rfl rfl h) ⟨rfl, rfl, rfl, rfl, trivial⟩)
   ·clear H
    have H := hu57
    clear hu57
    generalize (!y45) = t56 at H key ⊢
    cases t56
    ·have H := of_if_f rfl H
     refine ow_batch [.p, .p] rfl <| bE H fun l48 h49 H => ow_lsub rfl rfl rfl rfl sl23 ty9 rfl rfl rfl h49 g0 fun v51 h50 => ?_
     obtain ⟨a52, c53, rfl⟩ := rd_sl h50
     refine ow_batch [.p] rfl <| bE H fun y54 h55 H => oq rfl (qc rfl fn239 (fun w1 hw1 => lib_slices_Contains___string_string__ok w1  h55 (rds_bor h50 w1 hw1))) tt2 <| ow_batch [.p] rfl <| ?_
     obtain rfl := of_some H
     exact OW.sub key (sb rfl)
    ·have H := of_if_t rfl H
     refine ow_batch [.p, .p, .p, .p, .p, .p] rfl ?_
     obtain rfl := of_some H
     exact OW.sub key (sb rfl)
  ·exact c_exit <| x_qs_exit <| x_ql_exit <| x_qb_here <| x_qs <| c_seq <| c_reg <| ow_batch [.p] rfl <| ow_nil <| x_qs <| c_ret <| xr 2 rfl (by cases H; exact q1)
theorem impl_ascending_ok (w : World) {p0 : List Int} {a_0 : Option Addr} {n_0 c_0 : Nat} {r : Bool} (H : impl_ascending p0 = some r)  (g0 : (eList (eVal (Value.int .i64) (fun _ => rfl)) 3).rd w [] p0 [.slice a_0 n_0 c_0]) :
    Calls Tryz.prog 207 #[.slice a_0 n_0 c_0] w (fun en w' => en = .returned (.bool r) ∧ Ext [] w w') := by
 obtain rfl := rd_n g0
 unfold impl_ascending at H
 refine f_enter (vs := [.slice a_0 p0.length c_0]) Tryz.func207 rfl Tryz.ntmps207 rfl (St.init w []) <| c_seq <| c_reg <| ow_batch [.p] rfl <| ow_nil <| x_qs <| c_seq <| c_seq <| c_reg <| ow_batch [.p] rfl <| ow_nil <| x_qs <| c_block <| CW.at (loopI1 (fun (i15 : Int) => St w [] []) (fun (i15 : Int) => [(0, .slice a_0 p0.length c_0), (3, .int .i64 i15)]) (fun kk => fun (i15 : Int) => impl_ascending_L1 p0 kk i15 = some r) (fun _ H => ?_) (fun k1 ihk1 i15 H => ?_) Fuel (1) (H)) (fun _ h => St.sel [] rfl rfl h) ⟨rfl, rfl,  trivial⟩
 ·unfold impl_ascending_L1 at H
  exact absurd H (by simp)
 ·unfold impl_ascending_L1 at H
  refine c_seq <| c_seq <| c_reg <| ow_batch [.p, .p, .lenS 59 3 sl59, .p] rfl <| ow_nil <| x_qs <| cI H rfl (fun H => ?_) (fun H => ?_)
  ·refine c_skip <| x_qs <| c_seq <| c_block <| c_seq <| c_regQ mixed (by kernel_rfl) <| ow_batch [.p, .p] rfl <| bE H fun e21 h22 H => ow_ixE (e := eVal (Value.int .i64) (fun _ => rfl)) (xs := p0) (j := i15) rfl rfl rfl rfl rfl sl59 ty3 rfl (fun w1 hw1 => rds_bor g0 w1 hw1) h22 (by rw [Nat.mul_one]) <| o1 rfl (ry_load1 rfl rfl ty3 (at_elV (fun w1 hw1 => rds_bor g0 w1 hw1) h22)) <| ow_batch [.p, .p, .p] rfl <| bE H fun e23 h24 H => ow_ixE (e := eVal (Value.int .i64) (fun _ => rfl)) (xs := p0) (j := IntKind.i64.wrap (i15 - 1)) rfl rfl rfl rfl rfl sl59 ty3 rfl (fun w1 hw1 => rds_bor g0 w1 hw1) h24 (by rw [Nat.mul_one]) <| o1 rfl (ry_load1 rfl rfl ty3 (at_elV (fun w1 hw1 => rds_bor g0 w1 hw1) h24)) <| ow_batch [.p] rfl <| ow_nilQ <| x_qs <| cI H rfl (fun H => ?_) (fun H => ?_)
   ·exact c_seq <| c_reg <| ow_batch [.p] rfl <| ow_nil <| x_qs <| c_ret <| x_qb_ret <| x_qs_ret <| x_ql_ret <| x_qb_ret <| x_qs_ret <| xr 2 rfl (by cases H; exact q1)
   ·exact c_skip <| x_qb <| x_qs <| c_reg <| ow_batch [.p, .p, .p] rfl <| ow_nil <| x_ql (RW.at (ihk1 (IntKind.i64.wrap (i15 + 1)) (H)) (fun _ h => St.sel [] rfl rfl h) ⟨rfl, rfl, trivial⟩)
  ·exact c_exit <| x_qs_exit <| x_ql_exit <| x_qb_here <| x_qs <| c_seq <| c_reg <| ow_batch [.p] rfl <| ow_nil <| x_qs <| c_ret <| xr 2 rfl (by cases H; exact q1)
theorem impl_isCut_ok (w : World) {p0 : Int}  {r : Bool} (H : impl_isCut p0 = some r)   :
    Calls Tryz.prog 242 #[.int .i64 p0] w (fun en w' => en = .returned (.bool r) ∧ Ext [] w w') := by
 unfold impl_isCut at H
 exact f_enter (vs := [.int .i64 p0]) Tryz.func242 rfl Tryz.ntmps242 rfl (St.init w []) <| c_seq <| c_reg <| ow_batch [.p] rfl <| ow_nil <| x_qs <| c_seq <| c_reg <| ow_batch [.p] rfl <| bE H fun y10 h11 H => oq rfl (qc rfl fn91 (fun w1 hw1 => impl_within_ok w1  h11)) tt2 <| ow_batch [.p] rfl <| ow_nil <| x_qs <| c_ret <| xr 2 rfl (by cases H; exact q1)
theorem impl_CutsOk_1_ok (w : World) {p0 : Int}  {r : Bool} (H : impl_CutsOk_1 p0 = some r)   :
    Calls Tryz.prog 241 #[.int .i64 p0] w (fun en w' => en = .returned (.bool r) ∧ Ext [] w w') := by
 unfold impl_CutsOk_1 at H
 exact f_enter (vs := [.int .i64 p0]) Tryz.func241 rfl Tryz.ntmps241 rfl (St.init w []) <| c_seq <| c_reg <| ow_batch [.p] rfl <| ow_nil <| x_qs <| c_seq <| c_reg <| ow_batch [.p] rfl <| bE H fun y10 h11 H => oq rfl (qc rfl fn242 (fun w1 hw1 => impl_isCut_ok w1  h11)) tt2 <| ow_batch [.p, .p] rfl <| ow_nil <| x_qs <| c_ret <| xr 2 rfl (by cases H; exact q1)
theorem lib_slices_IndexFunc___int_int___impl_CutsOk_1_ok (w : World) {p0 : List Int} {a_0 : Option Addr} {n_0 c_0 : Nat} {r : Int} (H : lib_slices_IndexFunc___int_int___impl_CutsOk_1 p0 = some r)  (g0 : (eList (eVal (Value.int .i64) (fun _ => rfl)) 3).rd w [] p0 [.slice a_0 n_0 c_0]) :
    Calls Tryz.prog 238 #[.slice a_0 n_0 c_0, .func (.func 241) #[] #[]] w (fun en w' => en = .returned (.int .i64 r) ∧ Ext [] w w') := by
 obtain rfl := rd_n g0
 unfold lib_slices_IndexFunc___int_int___impl_CutsOk_1 at H
 refine f_enter (vs := [.slice a_0 p0.length c_0, .func (.func 241) #[] #[]]) Tryz.func238 rfl Tryz.ntmps238 rfl (St.init w []) <| c_seq <| c_reg <| ow_batch [.p] rfl <| ow_nil <| x_qs <| c_seq <| c_seq <| c_reg <| ow_batch [.p, .lenS 59 3 sl59, .p] rfl <| ow_nil <| x_qs <| c_block <| CW.at (loopI1 (fun (i15 : Int) => St w [] []) (fun (i15 : Int) => [(0, .slice a_0 p0.length c_0), (1, .func (.func 241) #[] #[]), (7, .int .i64 (p0.length : Int)), (8, .int .i64 i15)]) (fun kk => fun (i15 : Int) => lib_slices_IndexFunc___int_int___impl_CutsOk_1_L1 p0 kk i15 = some r) (fun _ H => ?_) (fun k1 ihk1 i15 H => ?_) Fuel (0) (H)) (fun _ h => St.sel [] rfl rfl h) ⟨rfl, rfl, rfl, rfl,  trivial⟩
 ·unfold lib_slices_IndexFunc___int_int___impl_CutsOk_1_L1 at H
  exact absurd H (by simp)
 ·unfold lib_slices_IndexFunc___int_int___impl_CutsOk_1_L1 at H
  refine c_seq <| c_reg <| ow_batch [.p] rfl <| ow_nil <| x_qs <| c_seq <| cI H rfl (fun H => ?_) (fun H => ?_)
  ·refine c_skip <| x_qs <| c_seq <| c_block <| c_seq <| c_reg <| ow_batch [.p, .p] rfl <| ow_nil <| x_qs <| c_seq <| c_reg <| ow_batch [.p, .p, .p] rfl <| bE H fun e21 h22 H => ow_ixE (e := eVal (Value.int .i64) (fun _ => rfl)) (xs := p0) (j := i15) rfl rfl rfl rfl rfl sl59 ty3 rfl (fun w1 hw1 => rds_bor g0 w1 hw1) h22 (by rw [Nat.mul_one]) <| o1 rfl (ry_load1 rfl rfl ty3 (at_elV (fun w1 hw1 => rds_bor g0 w1 hw1) h22)) <| bE H fun y23 h24 H => ow_q rfl rfl (dstOk_lt rfl) (qy_callV (cap := []) rfl fn241 rfl rfl (fun w1 hw1 => impl_CutsOk_1_ok w1  h24)) (fun _ _ => trivial) <| ow_nil <| x_qs <| cI H rfl (fun H => ?_) (fun H => ?_)
   ·exact c_seq <| c_reg <| ow_batch [.p, .p] rfl <| ow_nil <| x_qs <| c_ret <| x_qb_ret <| x_qs_ret <| x_ql_ret <| x_qb_ret <| x_qs_ret <| xr 4 rfl (by cases H; exact q1)
   ·exact c_skip <| x_qb <| x_qs <| c_reg <| ow_batch [.p, .p] rfl <| ow_nil <| x_ql (RW.at (ihk1 (IntKind.i64.wrap (i15 + 1)) (H)) (fun _ h => St.sel [] rfl rfl h) ⟨rfl, rfl, rfl, rfl, trivial⟩)
  ·exact c_exit <| x_qs_exit <| x_ql_exit <| x_qb_here <| x_qs <| c_seq <| c_reg <| ow_batch [.p] rfl <| ow_nil <| x_qs <| c_ret <| xr 4 rfl (by cases H; exact q1)
theorem lib_slices_ContainsFunc___int_int___impl_CutsOk_1_ok (w : World) {p0 : List Int} {a_0 : Option Addr} {n_0 c_0 : Nat} {r : Bool} (H : lib_slices_ContainsFunc___int_int___impl_CutsOk_1 p0 = some r)  (g0 : (eList (eVal (Value.int .i64) (fun _ => rfl)) 3).rd w [] p0 [.slice a_0 n_0 c_0]) :
    Calls Tryz.prog 188 #[.slice a_0 n_0 c_0, .func (.func 241) #[] #[]] w (fun en w' => en = .returned (.bool r) ∧ Ext [] w w') := by
 obtain rfl := rd_n g0
 unfold lib_slices_ContainsFunc___int_int___impl_CutsOk_1 at H
 exact f_enter (vs := [.slice a_0 p0.length c_0, .func (.func 241) #[] #[]]) Tryz.func188 rfl Tryz.ntmps188 rfl (St.init w []) <| c_seq <| c_reg <| ow_batch [.p] rfl <| ow_nil <| x_qs <| c_seq <| c_reg <| ow_batch [.p, .p] rfl <| bE H fun y10 h11 H => oq rfl (qc rfl fn238 (fun w1 hw1 => lib_slices_IndexFunc___int_int___impl_CutsOk_1_ok w1  h11 (rds_bor g0 w1 hw1))) tt2 <| ow_batch [.p, .p] rfl <| ow_nil <| x_qs <| c_ret <| xr 4 rfl (by cases H; exact q1)
theorem impl_CutsOk_ok (w : World) {p0 : List Int} {a_0 : Option Addr} {n_0 c_0 : Nat} {r : Bool} (H : impl_CutsOk p0 = some r)  (g0 : (eList (eVal (Value.int .i64) (fun _ => rfl)) 3).rd w [] p0 [.slice a_0 n_0 c_0]) :
    Calls Tryz.prog 210 #[.slice a_0 n_0 c_0] w (fun en w' => en = .returned (.bool r) ∧ Ext [] w w') := by
 obtain rfl := rd_n g0
 unfold impl_CutsOk at H
 refine f_enter (vs := [.slice a_0 p0.length c_0]) Tryz.func210 rfl Tryz.ntmps210 rfl (St.init w []) <| c_seq <| c_reg <| ow_batch [.p] rfl <| ow_nil <| x_qs <| c_seq <| c_reg <| ow_batch [.p, .lenS 59 3 sl59] rfl <| bE H fun y10 h11 H => oq rfl (qc rfl fn91 (fun w1 hw1 => impl_within_ok w1  h11)) tt2 <| ow_batch [.p] rfl <| bE H fun u12 hu16 H => ow_cut [(9, .bool u12), (0, .slice a_0 p0.length c_0), (2, .bool false)] 3 ?_ (fun key => OW.sub (R := [(0, .slice a_0 p0.length c_0), (2, .bool false), (6, .bool y10)]) ?_ (sb rfl))
 ·refine ow_batch [.p] rfl <| bE H fun u17 hu21 H => ow_cut [(14, .bool u17), (2, .bool false)] 4 ?_ (fun key => OW.sub (R := [(0, .slice a_0 p0.length c_0), (2, .bool false), (10, .bool u12)]) ?_ (sb rfl))
  ·exact ow_batch [.p] rfl <| ow_nil <| x_qs <| c_ret <| xr 2 rfl (by cases H; exact q1)
  ·clear H
   have H := hu21
   clear hu21
   generalize u12 = t20 at H key ⊢
   cases t20
   ·have H := of_if_f rfl H
    refine ow_batch [.p, .p, .p, .p] rfl ?_
    obtain rfl := of_some H
    exact OW.sub key (sb rfl)
   ·have H := of_if_t rfl H
    refine ow_batch [.p] rfl <| bE H fun y18 h19 H => oq rfl (qc rfl fn188 (fun w1 hw1 => lib_slices_ContainsFunc___int_int___impl_CutsOk_1_ok w1  h19 (rds_bor g0 w1 hw1))) tt2 <| ow_batch [.p] rfl <| ow_batch [.p] rfl <| ?_
    obtain rfl := of_some H
    exact OW.sub key (sb rfl)
 ·clear H
  have H := hu16
  clear hu16
  generalize y10 = t15 at H key ⊢
  cases t15
  ·have H := of_if_f rfl H
   refine ow_batch [.p, .p, .p] rfl ?_
   obtain rfl := of_some H
   exact OW.sub key (sb rfl)
  ·have H := of_if_t rfl H
   refine ow_batch [.p] rfl <| bE H fun y13 h14 H => oq rfl (qc rfl fn207 (fun w1 hw1 => impl_ascending_ok w1  h14 (rds_bor g0 w1 hw1))) tt2 <| ow_batch [.p] rfl <| ?_
   obtain rfl := of_some H
   exact OW.sub key (sb rfl)
theorem impl_AttrOk_ok (w : World) {p0 : Timpl_Attr} {cs0 : List Value} {r : Bool} (H : impl_AttrOk p0 = some r)  (g0 : (eTimpl_Attr).rd w [] p0 cs0) :
    Calls Tryz.prog 137 #[.agg cs0.toArray] w (fun en w' => en = .returned (.bool r) ∧ Ext [] w w') := by
 obtain ⟨c10, c11, c12, rfl, g13, g14, g15⟩ := rdo_Timpl_Attr g0
 obtain rfl : c10 = [vS p0.Name_] := g13
 obtain ⟨a16, c17, rfl⟩ := rd_sl1 g14
 obtain ⟨a18, c19, rfl⟩ := rd_sl1 g15
 unfold impl_AttrOk at H
 refine f_enter (vs := [.agg #[vS p0.Name_, .slice a16 p0.Cuts_.length c17, .slice a18 p0.Values_.length c19]]) Tryz.func137 rfl Tryz.ntmps137 rfl (St.init w []) <| c_seq <| c_reg <| ob [vS p0.Name_, .slice a16 p0.Cuts_.length c17, .slice a18 p0.Values_.length c19] rfl fun b20 => ow_batch [.p] rfl <| ow_nil <| x_qs <| c_seq <| c_seq <| c_reg <| ow_batch [.fa 114 0 0 fa114_0] rfl <| o1 rfl (r1 0 0 rfl ty9 rfl) <| bE H fun y21 h22 H => oq rfl (qc rfl fn209 (fun w1 hw1 => impl_WordOk_ok w1  h22)) tt2 <| ow_batch [.p] rfl <| ow_nil <| x_qs <| cI H rfl (fun H => ?_) (fun H => ?_)
 ·exact c_seq <| c_reg <| ow_batch [.p] rfl <| ow_nil <| x_qs <| c_ret <| x_qs_ret <| xr 2 rfl (by cases H; exact q1)
 ·refine c_skip <| x_qs <| c_seq <| c_seq <| c_reg <| ow_batch [.fa 114 1 1 fa114_1] rfl <| o1 rfl (r1 1 0 rfl ty59 rfl) <| ow_batch [.lenS 59 3 sl59, .p] rfl <| ow_nil <| x_qs <| cI H rfl (fun H => ?_) (fun H => ?_)
  ·refine c_seq <| c_reg <| ow_batch [.fa 114 2 2 fa114_2] rfl <| o1 rfl (r1 2 0 rfl ty23 rfl) <| ow_batch [.lenS 23 9 sl23] rfl <| bE H fun y23 h24 H => oq rfl (qc rfl fn91 (fun w1 hw1 => impl_within_ok w1  h24)) tt2 <| ow_batch [.p] rfl <| bE H fun u25 hu29 H => ow_cut [(19, .bool u25), (2, .bool false)] 4 ?_ (fun key => OW.sub (R := [(1, .pointer (some ⟨b20, 0, none⟩)), (2, .bool false), (15, .bool y23)]) ?_ (sb rfl))
   ·exact ow_batch [.p] rfl <| ow_nil <| x_qs <| c_ret <| x_qs_ret <| xr 2 rfl (by cases H; exact q1)
   ·clear H
    have H := hu29
    clear hu29
    generalize y23 = t28 at H key ⊢
    cases t28
    ·have H := of_if_f rfl H
     refine ow_batch [.p, .p, .p, .p] rfl ?_
     obtain rfl := of_some H
     exact OW.sub key (sb rfl)
    ·have H := of_if_t rfl H
     refine ow_batch [.fa 114 2 2 fa114_2] rfl <| o1 rfl (r1 2 0 rfl ty23 rfl) <| bE H fun y26 h27 H => oq rfl (qc rfl fn202 (fun w1 hw1 => impl_distinctWords_ok w1  h27 (rds_bor g15 w1 hw1))) tt2 <| ow_batch [.p] rfl <| ?_
     obtain rfl := of_some H
     exact OW.sub key (sb rfl)
  ·refine c_skip <| x_qs <| c_seq <| c_reg <| ow_batch [.fa 114 2 2 fa114_2] rfl <| o1 rfl (r1 2 0 rfl ty23 rfl) <| ow_batch [.lenS 23 9 sl23, .p, .p] rfl <| bE H fun u30 hu34 H => ow_cut [(28, .bool u30), (2, .bool false)] 4 ?_ (fun key => OW.sub (R := [(1, .pointer (some ⟨b20, 0, none⟩)), (2, .bool false), (24, .bool ((p0.Values_.length : Int) == 0))]) ?_ (sb rfl))
   ·exact ow_batch [.p] rfl <| ow_nil <| x_qs <| c_ret <| xr 2 rfl (by cases H; exact q1)
   ·clear H
    have H := hu34
    clear hu34
    generalize ((p0.Values_.length : Int) == 0) = t33 at H key ⊢
    cases t33
    ·have H := of_if_f rfl H
     refine ow_batch [.p, .p, .p, .p] rfl ?_
     obtain rfl := of_some H
     exact OW.sub key (sb rfl)
    ·have H := of_if_t rfl H
     refine ow_batch [.fa 114 1 1 fa114_1] rfl <| o1 rfl (r1 1 0 rfl ty59 rfl) <| bE H fun y31 h32 H => oq rfl (qc rfl fn210 (fun w1 hw1 => impl_CutsOk_ok w1  h32 (rds_bor g14 w1 hw1))) tt2 <| ow_batch [.p] rfl <| ?_
     obtain rfl := of_some H
     exact OW.sub key (sb rfl)
theorem impl_SchemaOk_ok (w : World) {p0 : Timpl_Schema} {cs0 : List Value} {r : Bool} (H : impl_SchemaOk p0 = some r)  (g0 : (eTimpl_Schema).rd w [] p0 cs0) :
    Calls Tryz.prog 132 #[.agg cs0.toArray] w (fun en w' => en = .returned (.bool r) ∧ Ext [] w w') := by
 obtain ⟨c10, c11, rfl, g12, g13⟩ := rdo_Timpl_Schema g0
 obtain ⟨a14, c15, rfl⟩ := rd_sl1 g12
 obtain ⟨a16, c17, rfl⟩ := rd_sl1 g13
 unfold impl_SchemaOk at H
 refine f_enter (vs := [.agg #[.slice a14 p0.Attrs_.length c15, .slice a16 p0.Classes_.length c17]]) Tryz.func132 rfl Tryz.ntmps132 rfl (St.init w []) <| c_seq <| c_reg <| ob [.slice a14 p0.Attrs_.length c15, .slice a16 p0.Classes_.length c17] rfl fun b18 => ow_batch [.p] rfl <| ow_nil <| x_qs <| c_seq <| c_seq <| c_reg <| ow_batch [.fa 35 0 0 fa35_0] rfl <| o1 rfl (r1 0 0 rfl ty33 rfl) <| ow_batch [.lenS 33 114 sl33] rfl <| bE H fun y19 h20 H => oq rfl (qc rfl fn91 (fun w1 hw1 => impl_within_ok w1  h20)) tt2 <| ow_batch [.p, .p] rfl <| bE H fun u21 hu25 H => ow_cut [(17, .bool u21), (1, .pointer (some ⟨b18, 0, none⟩))] 6 ?_ (fun key => OW.sub (R := [(1, .pointer (some ⟨b18, 0, none⟩)), (11, .bool (!y19))]) ?_ (sb rfl))
 ·refine ow_batch [.p] rfl <| bE H fun u26 hu30 H => ow_cut [(23, .bool u26), (1, .pointer (some ⟨b18, 0, none⟩))] 5 ?_ (fun key => OW.sub (R := [(1, .pointer (some ⟨b18, 0, none⟩)), (18, .bool u21)]) ?_ (sb rfl))
  ·refine ow_nil <| x_qs <| cI H rfl (fun H => ?_) (fun H => ?_)
   ·exact c_seq <| c_reg <| ow_batch [.p] rfl <| ow_nil <| x_qs <| c_ret <| x_qs_ret <| xr 2 rfl (by cases H; exact q1)
   ·refine c_skip <| x_qs <| c_seq <| c_reg <| ow_blit0 (e := eStr) rfl rfl rfl rfl sl23 ty9 (fun _ => kp) fun b31 => ow_batch [.p] rfl <| ow_nil <| x_qs <| c_seq <| c_seq <| c_reg <| ow_batch [.fa 35 0 0 fa35_0] rfl <| o1 rfl (r1 0 0 rfl ty33 rfl) <| ow_batch [.lenS 33 114 sl33, .p] rfl <| ow_nil <| x_qs <| c_block <| CW.at (loopI5 (fun (i65 : Int) (l66 : List (List UInt8)) (a67 : Option Addr) (c68 : Nat) (F69 : List Nat) => St w [] [Res.own (eList (eStr) 9) F69 l66 [.slice a67 l66.length c68]]) (fun (i65 : Int) (l66 : List (List UInt8)) (a67 : Option Addr) (c68 : Nat) (F69 : List Nat) => [(3, .slice a67 l66.length c68), (26, .slice a14 p0.Attrs_.length c15), (27, .int .i64 (p0.Attrs_.length : Int)), (28, .int .i64 i65)]) (fun kk => fun (i65 : Int) (l66 : List (List UInt8)) (a67 : Option Addr) (c68 : Nat) (F69 : List Nat) => a67.isNone = false ∧ impl_SchemaOk_L1 p0 kk i65 l66 = some r) (fun _ _ _ _ _ H => ?_) (fun k1 ihk1 i65 l66 a67 c68 F69 ⟨hz70, H⟩ => ?_) Fuel (0) (([] : List (List UInt8))) ((some ⟨b31, 0, none⟩)) (0) ([b31]) (⟨rfl, H⟩)) (fun _ h => St.sel [1] rfl rfl h) ⟨rfl, rfl, rfl, rfl,  trivial⟩
    ·unfold impl_SchemaOk_L1 at H
     exact absurd H (by simp)
    ·unfold impl_SchemaOk_L1 at H
     refine c_seq <| c_reg <| ow_batch [.p] rfl <| ow_nil <| x_qs <| c_seq <| cI H rfl (fun H => ?_) (fun H => ?_)
     ·refine c_skip <| x_qs <| c_seq <| c_block <| c_seq <| c_reg <| bE H fun e103 h104 H => ow_ixB rfl rfl rfl rfl rfl sl33 ty114 rfl g12 h104 fun q107 c108 hd105 hA106 => ?_
      obtain ⟨c109, c110, c111, rfl, g112, g113, g114⟩ := rdo_Timpl_Attr hd105
      obtain rfl : c109 = [vS e103.Name_] := g112
      obtain ⟨a115, c116, rfl⟩ := rd_sl1 g113
      obtain ⟨a117, c118, rfl⟩ := rd_sl1 g114
      refine o1 rfl (ry_load (cs := [vS e103.Name_, .slice a115 e103.Cuts_.length c116, .slice a117 e103.Values_.length c118]) rfl rfl ty114 (at_bor bor hA106) rfl) <| ow_alloc rfl rfl rfl rfl ty114 (fun _ => kp) fun b119 => sC 0 [vS e103.Name_, .slice a115 e103.Cuts_.length c116, .slice a117 e103.Values_.length c118] [_, _, _] 1 rfl ty114 rfl <| ow_nil <| x_qs <| c_seq <| c_seq <| c_reg <| o1 rfl (rx 0 1 [vS e103.Name_, .slice a115 e103.Cuts_.length c116, .slice a117 e103.Values_.length c118] rfl ty114 rfl) <| bE H fun y120 h121 H => oq rfl (qc rfl fn137 (fun w1 hw1 => impl_AttrOk_ok w1 (cs0 := [vS e103.Name_, .slice a115 e103.Cuts_.length c116, .slice a117 e103.Values_.length c118]) h121 (rdm_Timpl_Attr (x := e103) (c0 := [vS e103.Name_]) (c1 := [.slice a115 e103.Cuts_.length c116]) (c2 := [.slice a117 e103.Values_.length c118]) rfl (rds_bor g113 w1 hw1) (rds_bor g114 w1 hw1)))) tt2 <| ow_batch [.p] rfl <| ow_nil <| x_qs <| cI H rfl (fun H => ?_) (fun H => ?_)
      ·exact c_seq <| c_reg <| ow_batch [.p] rfl <| ow_nil <| x_qs <| c_ret <| x_qs_ret <| x_qb_ret <| x_qs_ret <| x_ql_ret <| x_qb_ret <| x_qs_ret <| xr 2 rfl (by cases H; exact q1)
      ·exact c_skip <| x_qs <| c_reg <| ow_batch [.p, .fa 114 0 0 fa114_0] rfl <| o1 rfl (r1 0 1 rfl ty9 rfl) <| ow_blit (val := vS) (h1 := fun _ => rfl) [e103.Name_] [(0, [vS e103.Name_])] rfl rfl rfl rfl rfl sl23 ty9 rfl rfl rfl ⟨rfl, rfl, Nat.le_of_ble_eq_true rfl,  trivial⟩ rfl rfl (fun _ => kp) fun b122 => bE H fun l123 h124 H => ow_appR (r := 0) (ys := ([e103.Name_] : List (List UInt8))) rfl rfl rfl rfl rfl rfl sl23 ty9 rfl rfl rfl (fun w1 hw1 => rds_own (e := eList (eStr) 9) (r := 2) rfl w1 hw1) h124 (fun _ _ _ => kp) fun a125 c126 F127 => ow_fact rfl (fun w1 hw1 => own_nn (i := 0) hw1 rfl (app_ne h124)) fun hz128 => ow_batch [.p] rfl <| ow_nil <| x_qb <| x_qs <| c_reg <| ow_batch [.p, .p] rfl <| ow_nil <| x_ql (RW.at (ihk1 (IntKind.i64.wrap (i65 + 1)) (l123) (a125) (c126) (F127) (⟨hz128, H⟩)) (fun _ h => St.sel [0] rfl rfl h) ⟨rfl, rfl, rfl, rfl, trivial⟩)
     ·exact c_exit <| x_qs_exit <| x_ql_exit <| x_qb_here <| x_qs <| c_seq <| c_reg <| ow_batch [.p] rfl <| bE H fun y129 h130 H => oq rfl (qc rfl fn202 (fun w1 hw1 => impl_distinctWords_ok w1  h130 (rds_own (e := eList (eStr) 9) (r := 0) rfl w1 hw1))) tt2 <| ow_batch [.p] rfl <| ow_nil <| x_qs <| c_ret <| xr 2 rfl (by cases H; exact q1)
  ·clear H
   have H := hu30
   clear hu30
   generalize u21 = t29 at H key ⊢
   cases t29
   ·have H := of_if_f rfl H
    refine ow_batch [.fa 35 1 1 fa35_1] rfl <| o1 rfl (r1 1 0 rfl ty23 rfl) <| bE H fun y27 h28 H => oq rfl (qc rfl fn202 (fun w1 hw1 => impl_distinctWords_ok w1  h28 (rds_bor g13 w1 hw1))) tt2 <| ow_batch [.p] rfl <| ow_batch [.p] rfl <| ?_
    obtain rfl := of_some H
    exact OW.sub key (sb rfl)
   ·have H := of_if_t rfl H
    refine ow_batch [.p, .p, .p, .p, .p] rfl ?_
    obtain rfl := of_some H
    exact OW.sub key (sb rfl)
 ·clear H
  have H := hu25
  clear hu25
  generalize (!y19) = t24 at H key ⊢
  cases t24
  ·have H := of_if_f rfl H
   refine ow_batch [.fa 35 1 1 fa35_1] rfl <| o1 rfl (r1 1 0 rfl ty23 rfl) <| ow_batch [.lenS 23 9 sl23] rfl <| bE H fun y22 h23 H => oq rfl (qc rfl fn91 (fun w1 hw1 => impl_within_ok w1  h23)) tt2 <| ow_batch [.p] rfl <| ow_batch [.p] rfl <| ?_
   obtain rfl := of_some H
   exact OW.sub key (sb rfl)
  ·have H := of_if_t rfl H
   refine ow_batch [.p, .p, .p, .p, .p, .p] rfl ?_
   obtain rfl := of_some H
   exact OW.sub key (sb rfl)
theorem impl_weights_1_ok (w : World) {p0 : Int}  {r : Bool} (H : impl_weights_1 p0 = some r)   :
    Calls Tryz.prog 260 #[.int .i64 p0] w (fun en w' => en = .returned (.bool r) ∧ Ext [] w w') := by
 unfold impl_weights_1 at H
 exact f_enter (vs := [.int .i64 p0]) Tryz.func260 rfl Tryz.ntmps260 rfl (St.init w []) <| c_seq <| c_reg <| ow_batch [.p] rfl <| ow_nil <| x_qs <| c_seq <| c_reg <| ow_batch [.p] rfl <| bE H fun y10 h11 H => oq rfl (qc rfl fn91 (fun w1 hw1 => impl_within_ok w1  h11)) tt2 <| ow_batch [.p, .p] rfl <| ow_nil <| x_qs <| c_ret <| xr 2 rfl (by cases H; exact q1)
theorem lib_slices_IndexFunc___int_int___impl_weights_1_ok (w : World) {p0 : List Int} {a_0 : Option Addr} {n_0 c_0 : Nat} {r : Int} (H : lib_slices_IndexFunc___int_int___impl_weights_1 p0 = some r)  (g0 : (eList (eVal (Value.int .i64) (fun _ => rfl)) 3).rd w [] p0 [.slice a_0 n_0 c_0]) :
    Calls Tryz.prog 238 #[.slice a_0 n_0 c_0, .func (.func 260) #[] #[]] w (fun en w' => en = .returned (.int .i64 r) ∧ Ext [] w w') := by
 obtain rfl := rd_n g0
 unfold lib_slices_IndexFunc___int_int___impl_weights_1 at H
 refine f_enter (vs := [.slice a_0 p0.length c_0, .func (.func 260) #[] #[]]) Tryz.func238 rfl Tryz.ntmps238 rfl (St.init w []) <| c_seq <| c_reg <| ow_batch [.p] rfl <| ow_nil <| x_qs <| c_seq <| c_seq <| c_reg <| ow_batch [.p, .lenS 59 3 sl59, .p] rfl <| ow_nil <| x_qs <| c_block <| CW.at (loopI1 (fun (i15 : Int) => St w [] []) (fun (i15 : Int) => [(0, .slice a_0 p0.length c_0), (1, .func (.func 260) #[] #[]), (7, .int .i64 (p0.length : Int)), (8, .int .i64 i15)]) (fun kk => fun (i15 : Int) => lib_slices_IndexFunc___int_int___impl_weights_1_L1 p0 kk i15 = some r) (fun _ H => ?_) (fun k1 ihk1 i15 H => ?_) Fuel (0) (H)) (fun _ h => St.sel [] rfl rfl h) ⟨rfl, rfl, rfl, rfl,  trivial⟩
 ·unfold lib_slices_IndexFunc___int_int___impl_weights_1_L1 at H
  exact absurd H (by simp)
 ·unfold lib_slices_IndexFunc___int_int___impl_weights_1_L1 at H
  refine c_seq <| c_reg <| ow_batch [.p] rfl <| ow_nil <| x_qs <| c_seq <| cI H rfl (fun H => ?_) (fun H => ?_)
  ·refine c_skip <| x_qs <| c_seq <| c_block <| c_seq <| c_reg <| ow_batch [.p, .p] rfl <| ow_nil <| x_qs <| c_seq <| c_reg <| ow_batch [.p, .p, .p] rfl <| bE H fun e21 h22 H => ow_ixE (e := eVal (Value.int .i64) (fun _ => rfl)) (xs := p0) (j := i15) rfl rfl rfl rfl rfl sl59 ty3 rfl (fun w1 hw1 => rds_bor g0 w1 hw1) h22 (by rw [Nat.mul_one]) <| o1 rfl (ry_load1 rfl rfl ty3 (at_elV (fun w1 hw1 => rds_bor g0 w1 hw1) h22)) <| bE H fun y23 h24 H => ow_q rfl rfl (dstOk_lt rfl) (qy_callV (cap := []) rfl fn260 rfl rfl (fun w1 hw1 => impl_weights_1_ok w1  h24)) (fun _ _ => trivial) <| ow_nil <| x_qs <| cI H rfl (fun H => ?_) (fun H => ?_)
   ·exact c_seq <| c_reg <| ow_batch [.p, .p] rfl <| ow_nil <| x_qs <| c_ret <| x_qb_ret <| x_qs_ret <| x_ql_ret <| x_qb_ret <| x_qs_ret <| xr 4 rfl (by cases H; exact q1)
   ·exact c_skip <| x_qb <| x_qs <| c_reg <| ow_batch [.p, .p] rfl <| ow_nil <| x_ql (RW.at (ihk1 (IntKind.i64.wrap (i15 + 1)) (H)) (fun _ h => St.sel [] rfl rfl h) ⟨rfl, rfl, rfl, rfl, trivial⟩)
  ·exact c_exit <| x_qs_exit <| x_ql_exit <| x_qb_here <| x_qs <| c_seq <| c_reg <| ow_batch [.p] rfl <| ow_nil <| x_qs <| c_ret <| xr 4 rfl (by cases H; exact q1)
theorem lib_slices_ContainsFunc___int_int___impl_weights_1_ok (w : World) {p0 : List Int} {a_0 : Option Addr} {n_0 c_0 : Nat} {r : Bool} (H : lib_slices_ContainsFunc___int_int___impl_weights_1 p0 = some r)  (g0 : (eList (eVal (Value.int .i64) (fun _ => rfl)) 3).rd w [] p0 [.slice a_0 n_0 c_0]) :
    Calls Tryz.prog 188 #[.slice a_0 n_0 c_0, .func (.func 260) #[] #[]] w (fun en w' => en = .returned (.bool r) ∧ Ext [] w w') := by
 obtain rfl := rd_n g0
 unfold lib_slices_ContainsFunc___int_int___impl_weights_1 at H
 exact f_enter (vs := [.slice a_0 p0.length c_0, .func (.func 260) #[] #[]]) Tryz.func188 rfl Tryz.ntmps188 rfl (St.init w []) <| c_seq <| c_reg <| ow_batch [.p] rfl <| ow_nil <| x_qs <| c_seq <| c_reg <| ow_batch [.p, .p] rfl <| bE H fun y10 h11 H => oq rfl (qc rfl fn238 (fun w1 hw1 => lib_slices_IndexFunc___int_int___impl_weights_1_ok w1  h11 (rds_bor g0 w1 hw1))) tt2 <| ow_batch [.p, .p] rfl <| ow_nil <| x_qs <| c_ret <| xr 4 rfl (by cases H; exact q1)
theorem impl_weights_ok (w : World) {p0 : List Int} {p1 : Int} {a_0 : Option Addr} {n_0 c_0 : Nat} {r : Bool} (H : impl_weights p0 p1 = some r)  (g0 : (eList (eVal (Value.int .i64) (fun _ => rfl)) 3).rd w [] p0 [.slice a_0 n_0 c_0]) :
    Calls Tryz.prog 240 #[.slice a_0 n_0 c_0, .int .i64 p1] w (fun en w' => en = .returned (.bool r) ∧ Ext [] w w') := by
 obtain rfl := rd_n g0
 unfold impl_weights at H
 refine f_enter (vs := [.slice a_0 p0.length c_0, .int .i64 p1]) Tryz.func240 rfl Tryz.ntmps240 rfl (St.init w []) <| c_seq <| c_reg <| ow_batch [.p] rfl <| ow_nil <| x_qs <| c_seq <| c_reg <| ow_batch [.p, .lenS 59 3 sl59, .p, .p, .p] rfl <| bE H fun u10 hu14 H => ow_cut [(13, .bool u10), (4, .bool false)] 4 ?_ (fun key => OW.sub (R := [(0, .slice a_0 p0.length c_0), (4, .bool false), (9, .bool ((p0.length : Int) == p1))]) ?_ (sb rfl))
 ·exact ow_batch [.p] rfl <| ow_nil <| x_qs <| c_ret <| xr 4 rfl (by cases H; exact q1)
 ·clear H
  have H := hu14
  clear hu14
  generalize ((p0.length : Int) == p1) = t13 at H key ⊢
  cases t13
  ·have H := of_if_f rfl H
   refine ow_batch [.p, .p, .p, .p] rfl ?_
   obtain rfl := of_some H
   exact OW.sub key (sb rfl)
  ·have H := of_if_t rfl H
   refine ow_batch [.p] rfl <| bE H fun y11 h12 H => oq rfl (qc rfl fn188 (fun w1 hw1 => lib_slices_ContainsFunc___int_int___impl_weights_1_ok w1  h12 (rds_bor g0 w1 hw1))) tt2 <| ow_batch [.p] rfl <| ow_batch [.p] rfl <| ?_
   obtain rfl := of_some H
   exact OW.sub key (sb rfl)
theorem impl_total_ok (w : World) {p0 : List Int} {a_0 : Option Addr} {n_0 c_0 : Nat} {r : Int} (H : impl_total p0 = some r)  (g0 : (eList (eVal (Value.int .i64) (fun _ => rfl)) 3).rd w [] p0 [.slice a_0 n_0 c_0]) :
    Calls Tryz.prog 205 #[.slice a_0 n_0 c_0] w (fun en w' => en = .returned (.int .i64 r) ∧ Ext [] w w') := by
 obtain rfl := rd_n g0
 unfold impl_total at H
 refine f_enter (vs := [.slice a_0 p0.length c_0]) Tryz.func205 rfl Tryz.ntmps205 rfl (St.init w []) <| c_seq <| c_reg <| ow_batch [.p] rfl <| ow_nil <| x_qs <| c_seq <| c_reg <| ow_batch [.p] rfl <| ow_nil <| x_qs <| c_seq <| c_seq <| c_reg <| ow_batch [.p, .lenS 59 3 sl59, .p] rfl <| ow_nil <| x_qs <| c_block <| CW.at (loopI2 (fun (i14 : Int) (i15 : Int) => St w [] []) (fun (i14 : Int) (i15 : Int) => [(3, .int .i64 i14), (6, .slice a_0 p0.length c_0), (7, .int .i64 (p0.length : Int)), (8, .int .i64 i15)]) (fun kk => fun (i14 : Int) (i15 : Int) => impl_total_L1 p0 kk i14 i15 = some r) (fun _ _ H => ?_) (fun k1 ihk1 i14 i15 H => ?_) Fuel (0) (0) (H)) (fun _ h => St.sel [] rfl rfl h) ⟨rfl, rfl, rfl, rfl,  trivial⟩
 ·unfold impl_total_L1 at H
  exact absurd H (by simp)
 ·unfold impl_total_L1 at H
  refine c_seq <| c_reg <| ow_batch [.p] rfl <| ow_nil <| x_qs <| c_seq <| cI H rfl (fun H => ?_) (fun H => ?_)
  ·exact c_skip <| x_qs <| c_seq <| c_block <| c_seq <| c_reg <| bE H fun e20 h21 H => ow_ixE (e := eVal (Value.int .i64) (fun _ => rfl)) (xs := p0) (j := i15) rfl rfl rfl rfl rfl sl59 ty3 rfl (fun w1 hw1 => rds_bor g0 w1 hw1) h21 (by rw [Nat.mul_one]) <| o1 rfl (ry_load1 rfl rfl ty3 (at_elV (fun w1 hw1 => rds_bor g0 w1 hw1) h21)) <| ow_batch [.p] rfl <| ow_nil <| x_qs <| c_reg <| ow_batch [.p, .p, .p, .p] rfl <| ow_nil <| x_qb <| x_qs <| c_reg <| ow_batch [.p, .p] rfl <| ow_nil <| x_ql (RW.at (ihk1 (IntKind.i64.wrap (i14 + e20)) (IntKind.i64.wrap (i15 + 1)) (H)) (fun _ h => St.sel [] rfl rfl h) ⟨rfl, rfl, rfl, rfl, trivial⟩)
  ·exact c_exit <| x_qs_exit <| x_ql_exit <| x_qb_here <| x_qs <| c_seq <| c_reg <| ow_batch [.p, .p] rfl <| ow_nil <| x_qs <| c_ret <| xr 2 rfl (by cases H; exact q1)
theorem impl_bins_ok (w : World) {p0 : Timpl_Attr} {cs0 : List Value} {r : Int} (H : impl_bins p0 = some r)  (g0 : (eTimpl_Attr).rd w [] p0 cs0) :
    Calls Tryz.prog 138 #[.agg cs0.toArray] w (fun en w' => en = .returned (.int .i64 r) ∧ Ext [] w w') := by
 obtain ⟨c10, c11, c12, rfl, g13, g14, g15⟩ := rdo_Timpl_Attr g0
 obtain rfl : c10 = [vS p0.Name_] := g13
 obtain ⟨a16, c17, rfl⟩ := rd_sl1 g14
 obtain ⟨a18, c19, rfl⟩ := rd_sl1 g15
 unfold impl_bins at H
 refine f_enter (vs := [.agg #[vS p0.Name_, .slice a16 p0.Cuts_.length c17, .slice a18 p0.Values_.length c19]]) Tryz.func138 rfl Tryz.ntmps138 rfl (St.init w []) <| c_seq <| c_reg <| ob [vS p0.Name_, .slice a16 p0.Cuts_.length c17, .slice a18 p0.Values_.length c19] rfl fun b20 => ow_batch [.p] rfl <| ow_nil <| x_qs <| c_seq <| c_seq <| c_reg <| ow_batch [.fa 114 1 1 fa114_1] rfl <| o1 rfl (r1 1 0 rfl ty59 rfl) <| ow_batch [.lenS 59 3 sl59, .p] rfl <| ow_nil <| x_qs <| cI H rfl (fun H => ?_) (fun H => ?_)
 ·exact c_seq <| c_reg <| ow_batch [.fa 114 1 1 fa114_1] rfl <| o1 rfl (r1 1 0 rfl ty59 rfl) <| ow_batch [.lenS 59 3 sl59, .p, .p] rfl <| ow_nil <| x_qs <| c_ret <| x_qs_ret <| xr 2 rfl (by cases H; exact q1)
 ·exact c_skip <| x_qs <| c_seq <| c_reg <| ow_batch [.fa 114 2 2 fa114_2] rfl <| o1 rfl (r1 2 0 rfl ty23 rfl) <| ow_batch [.lenS 23 9 sl23, .p] rfl <| ow_nil <| x_qs <| c_ret <| xr 2 rfl (by cases H; exact q1)
theorem impl_zeros_ok (w : World) {M0 : List Nat} {p0 : Int}  {r : List Int} (H : impl_zeros p0 = some r) (HS : St w M0 [] w)  :
    Calls Tryz.prog 168 #[.int .i64 p0] w (fun en w' => ∃ v, en = .returned v ∧ ∃ (a0 : Option Addr), ∃ (n0 : Nat), ∃ (c0 : Nat), ∃ (F0 : List Nat), v = .slice a0 n0 c0 ∧ St w M0 [Res.own (eList (eVal (Value.int .i64) (fun _ => rfl)) 3) F0 r [.slice a0 n0 c0]] w') := by
 unfold impl_zeros at H
 exact f_enter (vs := [.int .i64 p0]) Tryz.func168 rfl Tryz.ntmps168 rfl (HS) <| c_seq <| c_reg <| ow_batch [.p] rfl <| ow_nil <| x_qs <| c_seq <| c_reg <| ow_batch [.p] rfl <| bE H fun l10 h11 H => ow_make (e := eVal (Value.int .i64) (fun _ => rfl)) (zero := (0 : Int)) rfl rfl rfl rfl rfl rfl sl59 ty3 rfl rfl rfl rfl (fun _ => ⟨rfl, rfl⟩) h11 (fun _ => kp) fun b12 => ow_batch [.p] rfl <| ow_nil <| x_qs <| c_ret <| x_retR (rs := [.tmp 2]) (vs := [.slice (some ⟨b12, 0, none⟩) l10.length l10.length]) rfl ⟨rfl, trivial⟩ (fun w' hw' => by
  obtain rfl := of_some H
  exact ⟨_, rfl, (some ⟨b12, 0, none⟩), l10.length, l10.length, [b12], rfl, hw'.sel [0] rfl rfl⟩)
theorem impl_StatsOk_ok (w : World) {p0 : Timpl_Schema} {p1 : Timpl_Stats} {cs0 : List Value} {cs1 : List Value} {r : Bool} (H : impl_StatsOk p0 p1 = some r)  (g0 : (eTimpl_Schema).rd w [] p0 cs0) (g1 : (eTimpl_Stats).rd w [] p1 cs1) :
    Calls Tryz.prog 203 #[.agg cs0.toArray, .agg cs1.toArray] w (fun en w' => en = .returned (.bool r) ∧ Ext [] w w') := by
 obtain ⟨c10, c11, rfl, g12, g13⟩ := rdo_Timpl_Schema g0
 obtain ⟨a14, c15, rfl⟩ := rd_sl1 g12
 obtain ⟨a16, c17, rfl⟩ := rd_sl1 g13
 obtain ⟨c18, c19, rfl, g20, g21⟩ := rdo_Timpl_Stats g1
 obtain ⟨a22, c23, rfl⟩ := rd_sl1 g20
 obtain ⟨a24, c25, rfl⟩ := rd_sl1 g21
 unfold impl_StatsOk at H
 refine f_enter (vs := [.agg #[.slice a14 p0.Attrs_.length c15, .slice a16 p0.Classes_.length c17], .agg #[.slice a22 p1.Totals_.length c23, .slice a24 p1.Cells_.length c25]]) Tryz.func203 rfl Tryz.ntmps203 rfl (St.init w []) <| c_seq <| c_reg <| ob [.slice a14 p0.Attrs_.length c15, .slice a16 p0.Classes_.length c17] rfl fun b26 => ob [.slice a22 p1.Totals_.length c23, .slice a24 p1.Cells_.length c25] rfl fun b27 => ow_batch [.p] rfl <| ow_nil <| x_qs <| c_seq <| c_reg <| ow_batch [.fa 35 1 1 fa35_1] rfl <| o1 rfl (r1 1 0 rfl ty23 rfl) <| ow_batch [.lenS 23 9 sl23, .p] rfl <| ow_nil <| x_qs <| c_seq <| c_seq <| c_reg <| o1 rfl (rx 0 0 [.slice a14 p0.Attrs_.length c15, .slice a16 p0.Classes_.length c17] rfl ty35 rfl) <| bE H fun y28 h29 H => oq rfl (qc rfl fn132 (fun w1 hw1 => impl_SchemaOk_ok w1 (cs0 := [.slice a14 p0.Attrs_.length c15, .slice a16 p0.Classes_.length c17]) h29 (rdm_Timpl_Schema (x := p0) (c0 := [.slice a14 p0.Attrs_.length c15]) (c1 := [.slice a16 p0.Classes_.length c17]) (rds_bor g12 w1 hw1) (rds_bor g13 w1 hw1)))) tt2 <| ow_batch [.p, .p] rfl <| bE H fun u30 hu34 H => ow_cut [(23, .bool u30), (2, .pointer (some ⟨b26, 0, none⟩)), (3, .pointer (some ⟨b27, 0, none⟩)), (5, .int .i64 (p0.Classes_.length : Int))] 6 ?_ (fun key => OW.sub (R := [(2, .pointer (some ⟨b26, 0, none⟩)), (3, .pointer (some ⟨b27, 0, none⟩)), (5, .int .i64 (p0.Classes_.length : Int)), (17, .bool (!y28))]) ?_ (sb rfl))
 ·refine ow_batch [.p] rfl <| bE H fun u35 hu39 H => ow_cut [(29, .bool u35), (2, .pointer (some ⟨b26, 0, none⟩)), (3, .pointer (some ⟨b27, 0, none⟩)), (5, .int .i64 (p0.Classes_.length : Int))] 5 ?_ (fun key => OW.sub (R := [(2, .pointer (some ⟨b26, 0, none⟩)), (3, .pointer (some ⟨b27, 0, none⟩)), (5, .int .i64 (p0.Classes_.length : Int)), (24, .bool u30)]) ?_ (sb rfl))
  ·refine ow_nil <| x_qs <| cI H rfl (fun H => ?_) (fun H => ?_)
   ·exact c_seq <| c_reg <| ow_batch [.p] rfl <| ow_nil <| x_qs <| c_ret <| x_qs_ret <| xr 4 rfl (by cases H; exact q1)
   ·refine c_skip <| x_qs <| c_seq <| c_seq <| c_reg <| ow_batch [.fa 62 1 1 fa62_1] rfl <| o1 rfl (r1 1 1 rfl ty60 rfl) <| ow_batch [.lenS 60 59 sl60, .p] rfl <| ow_nil <| x_qs <| cI H rfl (fun H => ?_) (fun H => ?_)
    ·exact c_seq <| c_reg <| ow_batch [.p] rfl <| ow_nil <| x_qs <| c_ret <| x_qs_ret <| xr 4 rfl (by cases H; exact q1)
    ·refine c_skip <| x_qs <| c_seq <| c_seq <| c_reg <| ow_batch [.fa 62 1 1 fa62_1] rfl <| o1 rfl (r1 1 1 rfl ty60 rfl) <| ow_batch [.lenS 60 59 sl60, .fa 35 0 0 fa35_0] rfl <| o1 rfl (r1 0 0 rfl ty33 rfl) <| ow_batch [.lenS 33 114 sl33, .p] rfl <| ow_nil <| x_qs <| cI H rfl (fun H => ?_) (fun H => ?_)
     ·exact c_seq <| c_reg <| ow_batch [.p] rfl <| ow_nil <| x_qs <| c_ret <| x_qs_ret <| xr 4 rfl (by cases H; exact q1)
     ·refine c_skip <| x_qs <| c_seq <| c_seq <| c_reg <| ow_batch [.fa 62 1 1 fa62_1] rfl <| o1 rfl (r1 1 1 rfl ty60 rfl) <| ow_batch [.lenS 60 59 sl60, .p] rfl <| ow_nil <| x_qs <| c_block <| CW.at (loopI1 (fun (i132 : Int) => St w [] [Res.box b26 35 [.slice a14 p0.Attrs_.length c15, .slice a16 p0.Classes_.length c17], Res.box b27 62 [.slice a22 p1.Totals_.length c23, .slice a24 p1.Cells_.length c25]]) (fun (i132 : Int) => [(2, .pointer (some ⟨b26, 0, none⟩)), (3, .pointer (some ⟨b27, 0, none⟩)), (5, .int .i64 (p0.Classes_.length : Int)), (42, .slice a24 p1.Cells_.length c25), (43, .int .i64 (p1.Cells_.length : Int)), (44, .int .i64 i132)]) (fun kk => fun (i132 : Int) => impl_StatsOk_L1 p1 p0 kk i132 = some r) (fun _ H => ?_) (fun k1 ihk1 i132 H => ?_) Fuel (0) (H)) (fun _ h => St.sel [0, 1] rfl rfl h) ⟨rfl, rfl, rfl, rfl, rfl, rfl,  trivial⟩
      ·unfold impl_StatsOk_L1 at H
       exact absurd H (by simp)
      ·unfold impl_StatsOk_L1 at H
       refine c_seq <| c_reg <| ow_batch [.p] rfl <| ow_nil <| x_qs <| c_seq <| cI H rfl (fun H => ?_) (fun H => ?_)
       ·refine c_skip <| x_qs <| c_seq <| c_block <| c_seq <| c_reg <| ow_batch [.p] rfl <| bE H fun e225 h226 H => ow_ixB rfl rfl rfl rfl rfl sl60 ty59 rfl g21 h226 fun q229 c230 hd227 hA228 => ?_
        obtain ⟨a231, c232, rfl⟩ := rd_sl1 hd227
        refine o1 rfl (ry_load1 rfl rfl ty59 (at_bor bor hA228)) <| ow_batch [.p, .p] rfl <| ow_nil <| x_qs <| c_seq <| c_seq <| c_reg <| ow_batch [.p, .fa 35 0 0 fa35_0] rfl <| o1 rfl (r1 0 0 rfl ty33 rfl) <| ow_batch [.p] rfl <| bE H fun e233 h234 H => ow_ixB rfl rfl rfl rfl rfl sl33 ty114 rfl g12 h234 fun q237 c238 hd235 hA236 => ?_
        obtain ⟨c239, c240, c241, rfl, g242, g243, g244⟩ := rdo_Timpl_Attr hd235
        obtain rfl : c239 = [vS e233.Name_] := g242
        obtain ⟨a245, c246, rfl⟩ := rd_sl1 g243
        obtain ⟨a247, c248, rfl⟩ := rd_sl1 g244
        refine o1 rfl (ry_load (cs := [vS e233.Name_, .slice a245 e233.Cuts_.length c246, .slice a247 e233.Values_.length c248]) rfl rfl ty114 (at_bor bor hA236) rfl) <| bE H fun y249 h250 H => oq rfl (qc rfl fn138 (fun w1 hw1 => impl_bins_ok w1 (cs0 := [vS e233.Name_, .slice a245 e233.Cuts_.length c246, .slice a247 e233.Values_.length c248]) h250 (rdm_Timpl_Attr (x := e233) (c0 := [vS e233.Name_]) (c1 := [.slice a245 e233.Cuts_.length c246]) (c2 := [.slice a247 e233.Values_.length c248]) rfl (rds_bor g243 w1 hw1) (rds_bor g244 w1 hw1)))) tt2 <| ow_batch [.p, .p] rfl <| bE H fun y251 h252 H => oq rfl (qc rfl fn240 (fun w1 hw1 => impl_weights_ok w1  h252 (rds_bor hd227 w1 hw1))) tt2 <| ow_batch [.p] rfl <| ow_nil <| x_qs <| cI H rfl (fun H => ?_) (fun H => ?_)
        ·exact c_seq <| c_reg <| ow_batch [.p] rfl <| ow_nil <| x_qs <| c_ret <| x_qs_ret <| x_qb_ret <| x_qs_ret <| x_ql_ret <| x_qb_ret <| x_qs_ret <| xr 4 rfl (by cases H; exact q1)
        ·refine c_skip <| x_qs <| c_seq <| c_reg <| ow_batch [.p] rfl <| bE H fun y253 h254 H => ow_callS rfl fn168 rfl rfl rfl rfl (fun w1 hw1 => impl_zeros_ok w1  h254 (hw1.carve [] rfl rfl)) fun v255 w1 w2 hw1 hR257 => ?_
         obtain ⟨a258, n259, c260, F261, rfl, hS256⟩ := hR257
         obtain rfl := own_nS (i := 0) hS256 rfl
         refine ⟨St w [] [_, _, _], hw1.comp [] rfl rfl hS256, fun _ _ => trivial, ?_⟩
         refine ow_batch [.p] rfl <| ow_nil <| x_qs <| c_seq <| c_reg <| ow_batch [.p, .lenS 59 3 sl59, .p] rfl <| ow_nil <| x_qs <| c_block <| CW.at (loopI2 (fun (i280 : Int) (l281 : List Int) => St w [] [Res.box b26 35 [.slice a14 p0.Attrs_.length c15, .slice a16 p0.Classes_.length c17], Res.box b27 62 [.slice a22 p1.Totals_.length c23, .slice a24 p1.Cells_.length c25], Res.own (eList (eVal (Value.int .i64) (fun _ => rfl)) 3) F261 l281 [.slice a258 y253.length c260]]) (fun (i280 : Int) (l281 : List Int) => [(2, .pointer (some ⟨b26, 0, none⟩)), (3, .pointer (some ⟨b27, 0, none⟩)), (5, .int .i64 (p0.Classes_.length : Int)), (8, .slice a258 y253.length c260), (42, .slice a24 p1.Cells_.length c25), (43, .int .i64 (p1.Cells_.length : Int)), (44, .int .i64 i132), (62, .slice a231 e225.length c232), (63, .int .i64 (e225.length : Int)), (64, .int .i64 i280)]) (fun kk => fun (i280 : Int) (l281 : List Int) => impl_StatsOk_L2 e225 p0 p1 (impl_StatsOk_L1 p1 p0 k1) i132 kk i280 l281 = some r) (fun _ _ H => ?_) (fun k2 ihk2 i280 l281 H => ?_) Fuel (0) (y253) (H)) (fun _ h => St.sel [0, 1, 2] rfl rfl h) ⟨rfl, rfl, rfl, rfl, rfl, rfl, rfl, rfl, rfl, rfl,  trivial⟩
         ·unfold impl_StatsOk_L2 at H
          exact absurd H (by simp)
         ·unfold impl_StatsOk_L2 at H
          refine c_seq <| c_reg <| ow_batch [.p] rfl <| ow_nil <| x_qs <| c_seq <| cI H rfl (fun H => ?_) (fun H => ?_)
          ·refine c_skip <| x_qs <| c_seq <| c_block <| c_seq <| c_reg <| ow_batch [.p] rfl <| bE H fun e300 h301 H => ow_ixE (e := eVal (Value.int .i64) (fun _ => rfl)) (xs := e225) (j := i280) rfl rfl rfl rfl rfl sl59 ty3 rfl (fun w1 hw1 => rds_bor hd227 w1 hw1) h301 (by rw [Nat.mul_one]) <| o1 rfl (ry_load1 rfl rfl ty3 (at_elV (fun w1 hw1 => rds_bor hd227 w1 hw1) h301)) <| ow_batch [.p, .p] rfl <| ow_nil <| x_qs <| c_seq <| c_reg <| ow_batch [.p, .p, .p] rfl <| bE H fun x302 h303 H => o1 rfl (ry_rem rfl rfl rfl h303) <| bE H fun e304 h305 H => ow_ixE (e := eVal (Value.int .i64) (fun _ => rfl)) (xs := l281) (j := x302) rfl rfl rfl rfl rfl sl59 ty3 rfl (fun w1 hw1 => rds_own (e := eList (eVal (Value.int .i64) (fun _ => rfl)) 3) (r := 2) rfl w1 hw1) h305 (by rw [Nat.mul_one]) <| o1 rfl (ry_load1 rfl rfl ty3 (at_elV (fun w1 hw1 => rds_own (e := eList (eVal (Value.int .i64) (fun _ => rfl)) 3) (r := 2) rfl w1 hw1) h305)) <| ow_batch [.p, .p] rfl <| bE H fun e306 h307 H => ow_ixE (e := eVal (Value.int .i64) (fun _ => rfl)) (xs := l281) (j := x302) rfl rfl rfl rfl rfl sl59 ty3 rfl (fun w1 hw1 => rds_own (e := eList (eVal (Value.int .i64) (fun _ => rfl)) 3) (r := 2) rfl w1 hw1) h307 (by rw [Nat.mul_one]) <| ow_storeV (i := 2) (j := x302) rfl rfl rfl rfl rfl rfl ty3 rfl h307 (fun _ => rfl) kp <| ow_nil <| x_qs <| c_seq <| c_regQ mixed (by kernel_rfl) <| ow_batch [.p, .p, .p] rfl <| bE H fun x308 h309 H => o1 rfl (ry_rem rfl rfl rfl h309) <| bE H fun e310 h311 H => ow_ixE (e := eVal (Value.int .i64) (fun _ => rfl)) (xs := (l281.set x302.toNat (IntKind.i64.wrap (e304 + e300)))) (j := x308) rfl rfl rfl rfl rfl sl59 ty3 rfl (fun w1 hw1 => rds_own (e := eList (eVal (Value.int .i64) (fun _ => rfl)) 3) (r := 2) rfl w1 hw1) h311 (by rw [Nat.mul_one]) <| o1 rfl (ry_load1 rfl rfl ty3 (at_elV (fun w1 hw1 => rds_own (e := eList (eVal (Value.int .i64) (fun _ => rfl)) 3) (r := 2) rfl w1 hw1) h311)) <| ow_batch [.fa 62 0 0 fa62_0] rfl <| o1 rfl (r1 0 1 rfl ty59 rfl) <| ow_batch [.p, .p] rfl <| bE H fun x312 h313 H => o1 rfl (ry_rem rfl rfl rfl h313) <| ?_
           refine bE H fun e314 h315 H => ow_ixE (e := eVal (Value.int .i64) (fun _ => rfl)) (xs := p1.Totals_) (j := x312) rfl rfl rfl rfl rfl sl59 ty3 rfl (fun w1 hw1 => rds_bor g20 w1 hw1) h315 (by rw [Nat.mul_one]) <| o1 rfl (ry_load1 rfl rfl ty3 (at_elV (fun w1 hw1 => rds_bor g20 w1 hw1) h315)) <| ow_batch [.p] rfl <| ow_nilQ <| x_qs <| cI H rfl (fun H => ?_) (fun H => ?_)
           ·exact c_seq <| c_reg <| ow_batch [.p] rfl <| ow_nil <| x_qs <| c_ret <| x_qb_ret <| x_qs_ret <| x_ql_ret <| x_qb_ret <| x_qb_ret <| x_qs_ret <| x_ql_ret <| x_qb_ret <| x_qs_ret <| xr 4 rfl (by cases H; exact q1)
           ·exact c_skip <| x_qb <| x_qs <| c_reg <| ow_batch [.p, .p] rfl <| ow_nil <| x_ql (RW.at (ihk2 (IntKind.i64.wrap (i280 + 1)) ((l281.set x302.toNat (IntKind.i64.wrap (e304 + e300)))) (H)) (fun _ h => St.sel [0, 1, 2] rfl rfl h) ⟨rfl, rfl, rfl, rfl, rfl, rfl, rfl, rfl, rfl, rfl, trivial⟩)
          ·exact c_exit <| x_qs_exit <| x_ql_exit <| x_qb_here <| x_qb <| x_qs <| c_reg <| ow_batch [.p, .p] rfl <| ow_nil <| x_ql (RW.at (ihk1 (IntKind.i64.wrap (i132 + 1)) (H)) (fun _ h => St.sel [0, 1] rfl rfl h) ⟨rfl, rfl, rfl, rfl, rfl, rfl, trivial⟩)
       ·exact c_exit <| x_qs_exit <| x_ql_exit <| x_qb_here <| x_qs <| c_seq <| c_reg <| ow_batch [.p] rfl <| ow_nil <| x_qs <| c_ret <| xr 4 rfl (by cases H; exact q1)
  ·clear H
   have H := hu39
   clear hu39
   generalize u30 = t38 at H key ⊢
   cases t38
   ·have H := of_if_f rfl H
    refine ow_batch [.fa 62 0 0 fa62_0] rfl <| o1 rfl (r1 0 1 rfl ty59 rfl) <| bE H fun y36 h37 H => oq rfl (qc rfl fn205 (fun w1 hw1 => impl_total_ok w1  h37 (rds_bor g20 w1 hw1))) tt2 <| ow_batch [.p] rfl <| ow_batch [.p] rfl <| ?_
    obtain rfl := of_some H
    exact OW.sub key (sb rfl)
   ·have H := of_if_t rfl H
    refine ow_batch [.p, .p, .p, .p, .p] rfl ?_
    obtain rfl := of_some H
    exact OW.sub key (sb rfl)
 ·clear H
  have H := hu34
  clear hu34
  generalize (!y28) = t33 at H key ⊢
  cases t33
  ·have H := of_if_f rfl H
   refine ow_batch [.fa 62 0 0 fa62_0] rfl <| o1 rfl (r1 0 1 rfl ty59 rfl) <| ow_batch [.p] rfl <| bE H fun y31 h32 H => oq rfl (qc rfl fn240 (fun w1 hw1 => impl_weights_ok w1  h32 (rds_bor g20 w1 hw1))) tt2 <| ow_batch [.p] rfl <| ow_batch [.p] rfl <| ?_
   obtain rfl := of_some H
   exact OW.sub key (sb rfl)
  ·have H := of_if_t rfl H
   refine ow_batch [.p, .p, .p, .p, .p, .p] rfl ?_
   obtain rfl := of_some H
   exact OW.sub key (sb rfl)
theorem impl_AttrsOk_ok (w : World) {p0 : Timpl_Schema} {p1 : List Int} {cs0 : List Value} {a_1 : Option Addr} {n_1 c_1 : Nat} {r : Bool} (H : impl_AttrsOk p0 p1 = some r)  (g0 : (eTimpl_Schema).rd w [] p0 cs0) (g1 : (eList (eVal (Value.int .i64) (fun _ => rfl)) 3).rd w [] p1 [.slice a_1 n_1 c_1]) :
    Calls Tryz.prog 204 #[.agg cs0.toArray, .slice a_1 n_1 c_1] w (fun en w' => en = .returned (.bool r) ∧ Ext [] w w') := by
 obtain ⟨c10, c11, rfl, g12, g13⟩ := rdo_Timpl_Schema g0
 obtain ⟨a14, c15, rfl⟩ := rd_sl1 g12
 obtain ⟨a16, c17, rfl⟩ := rd_sl1 g13
 obtain rfl := rd_n g1
 unfold impl_AttrsOk at H
 refine f_enter (vs := [.agg #[.slice a14 p0.Attrs_.length c15, .slice a16 p0.Classes_.length c17], .slice a_1 p1.length c_1]) Tryz.func204 rfl Tryz.ntmps204 rfl (St.init w []) <| c_seq <| c_reg <| ob [.slice a14 p0.Attrs_.length c15, .slice a16 p0.Classes_.length c17] rfl fun b18 => ow_batch [.p] rfl <| ow_nil <| x_qs <| c_seq <| c_regQ mixed (by kernel_rfl) <| o1 rfl (rx 0 0 [.slice a14 p0.Attrs_.length c15, .slice a16 p0.Classes_.length c17] rfl ty35 rfl) <| bE H fun y19 h20 H => oq rfl (qc rfl fn132 (fun w1 hw1 => impl_SchemaOk_ok w1 (cs0 := [.slice a14 p0.Attrs_.length c15, .slice a16 p0.Classes_.length c17]) h20 (rdm_Timpl_Schema (x := p0) (c0 := [.slice a14 p0.Attrs_.length c15]) (c1 := [.slice a16 p0.Classes_.length c17]) (rds_bor g12 w1 hw1) (rds_bor g13 w1 hw1)))) tt2 <| ow_batch [.p] rfl <| ow_cut [(11, .bool (y19 && (decide ((p1.length : Int) > 0)))), (1, .slice a_1 p1.length c_1), (2, .pointer (some ⟨b18, 0, none⟩)), (4, .bool false)] 4 ?_ (fun key => OW.sub (R := [(1, .slice a_1 p1.length c_1), (2, .pointer (some ⟨b18, 0, none⟩)), (4, .bool false), (7, .bool y19)]) ?_ (sb rfl))
 ·refine ow_batch [.p] rfl <| bE H fun u23 hu27 H => ow_cut [(15, .bool u23), (1, .slice a_1 p1.length c_1), (2, .pointer (some ⟨b18, 0, none⟩)), (4, .bool false)] 3 ?_ (fun key => OW.sub (R := [(1, .slice a_1 p1.length c_1), (2, .pointer (some ⟨b18, 0, none⟩)), (4, .bool false), (12, .bool (y19 && (decide ((p1.length : Int) > 0))))]) ?_ (sb rfl))
  ·refine ow_batch [.p] rfl <| bE H fun u28 hu32 H => ow_cut [(21, .bool u28), (1, .slice a_1 p1.length c_1), (2, .pointer (some ⟨b18, 0, none⟩)), (4, .bool false)] 5 ?_ (fun key => OW.sub (R := [(1, .slice a_1 p1.length c_1), (2, .pointer (some ⟨b18, 0, none⟩)), (4, .bool false), (16, .bool u23)]) ?_ (sb rfl))
   ·refine ow_batch [.p] rfl <| bE H fun u33 hu37 H => ow_cut [(33, .bool u33), (4, .bool false)] 11 ?_ (fun key => OW.sub (R := [(1, .slice a_1 p1.length c_1), (2, .pointer (some ⟨b18, 0, none⟩)), (4, .bool false), (22, .bool u28)]) ?_ (sb rfl))
    ·exact ow_batch [.p] rfl <| ow_nilQ <| x_qs <| c_ret <| xr 4 rfl (by cases H; exact q1)
    ·clear H
     have H := hu37
     clear hu37
     generalize u28 = t36 at H key ⊢
     cases t36
     ·have H := of_if_f rfl H
      refine ow_batch [.p, .p, .p, .p, .p, .p, .p, .p, .p, .p, .p] rfl ?_
      obtain rfl := of_some H
      exact OW.sub key (sb rfl)
     ·have H := of_if_t rfl H
      refine ow_batch [.p, .p, .lenS 59 3 sl59, .p] rfl <| bE H fun e34 h35 H => ow_ixE (e := eVal (Value.int .i64) (fun _ => rfl)) (xs := p1) (j := IntKind.i64.wrap ((p1.length : Int) - 1)) rfl rfl rfl rfl rfl sl59 ty3 rfl (fun w1 hw1 => rds_bor g1 w1 hw1) h35 (by rw [Nat.mul_one]) <| o1 rfl (ry_load1 rfl rfl ty3 (at_elV (fun w1 hw1 => rds_bor g1 w1 hw1) h35)) <| ow_batch [.fa 35 0 0 fa35_0] rfl <| o1 rfl (r1 0 0 rfl ty33 rfl) <| ow_batch [.lenS 33 114 sl33, .p] rfl <| ow_batch [.p] rfl <| ?_
      obtain rfl := of_some H
      exact OW.sub key (sb rfl)
   ·clear H
    have H := hu32
    clear hu32
    generalize u23 = t31 at H key ⊢
    cases t31
    ·have H := of_if_f rfl H
     refine ow_batch [.p, .p, .p, .p, .p] rfl ?_
     obtain rfl := of_some H
     exact OW.sub key (sb rfl)
    ·have H := of_if_t rfl H
     refine ow_batch [.p] rfl <| bE H fun e29 h30 H => ow_ixE (e := eVal (Value.int .i64) (fun _ => rfl)) (xs := p1) (j := 0) rfl rfl rfl rfl rfl sl59 ty3 rfl (fun w1 hw1 => rds_bor g1 w1 hw1) h30 (by rw [Nat.mul_one]) <| o1 rfl (ry_load1 rfl rfl ty3 (at_elV (fun w1 hw1 => rds_bor g1 w1 hw1) h30)) <| ow_batch [.p] rfl <| ow_batch [.p] rfl <| ?_
     obtain rfl := of_some H
     exact OW.sub key (sb rfl)
  ·clear H
   have H := hu27
   clear hu27
   generalize (y19 && (decide ((p1.length : Int) > 0))) = t26 at H key ⊢
   cases t26
   ·have H := of_if_f rfl H
    refine ow_batch [.p, .p, .p] rfl ?_
    obtain rfl := of_some H
    exact OW.sub key (sb rfl)
   ·have H := of_if_t rfl H
    refine ow_batch [.p] rfl <| bE H fun y24 h25 H => oq rfl (qc rfl fn207 (fun w1 hw1 => impl_ascending_ok w1  h25 (rds_bor g1 w1 hw1))) tt2 <| ow_batch [.p] rfl <| ?_
    obtain rfl := of_some H
    exact OW.sub key (sb rfl)
 ·generalize y19 = t22 at key ⊢
  cases t22
  ·exact ow_batch [.p, .p, .p, .p] rfl <| OW.sub key (sb rfl)
  ·exact ow_batch [.p, .lenS 59 3 sl59, .p] rfl <| ow_batch [.p] rfl <| OW.sub key (sb rfl)
theorem impl_ForkOk_ok (w : World) {p0 : Timpl_Schema} {p1 : Timpl_Fork} {cs0 : List Value} {r : Bool} (H : impl_ForkOk p0 p1 = some r)  (g0 : (eTimpl_Schema).rd w [] p0 cs0) :
    Calls Tryz.prog 211 #[.agg cs0.toArray, .agg #[.int .i64 p1.Attr_, .int .i64 p1.At_]] w (fun en w' => en = .returned (.bool r) ∧ Ext [] w w') := by
 obtain ⟨c10, c11, rfl, g12, g13⟩ := rdo_Timpl_Schema g0
 obtain ⟨a14, c15, rfl⟩ := rd_sl1 g12
 obtain ⟨a16, c17, rfl⟩ := rd_sl1 g13
 unfold impl_ForkOk at H
 refine f_enter (vs := [.agg #[.slice a14 p0.Attrs_.length c15, .slice a16 p0.Classes_.length c17], .agg #[.int .i64 p1.Attr_, .int .i64 p1.At_]]) Tryz.func211 rfl Tryz.ntmps211 rfl (St.init w []) <| c_seq <| c_reg <| ob [.slice a14 p0.Attrs_.length c15, .slice a16 p0.Classes_.length c17] rfl fun b18 => ob [.int .i64 p1.Attr_, .int .i64 p1.At_] rfl fun b19 => ow_batch [.p] rfl <| ow_nil <| x_qs <| c_seq <| c_seq <| c_reg <| o1 rfl (rx 0 0 [.slice a14 p0.Attrs_.length c15, .slice a16 p0.Classes_.length c17] rfl ty35 rfl) <| bE H fun y20 h21 H => oq rfl (qc rfl fn132 (fun w1 hw1 => impl_SchemaOk_ok w1 (cs0 := [.slice a14 p0.Attrs_.length c15, .slice a16 p0.Classes_.length c17]) h21 (rdm_Timpl_Schema (x := p0) (c0 := [.slice a14 p0.Attrs_.length c15]) (c1 := [.slice a16 p0.Classes_.length c17]) (rds_bor g12 w1 hw1) (rds_bor g13 w1 hw1)))) tt2 <| ow_batch [.p, .p] rfl <| bE H fun u22 hu26 H => ow_cut [(19, .bool u22), (2, .pointer (some ⟨b18, 0, none⟩)), (3, .pointer (some ⟨b19, 0, none⟩))] 9 ?_ (fun key => OW.sub (R := [(2, .pointer (some ⟨b18, 0, none⟩)), (3, .pointer (some ⟨b19, 0, none⟩)), (10, .bool (!y20))]) ?_ (sb rfl))
 ·refine ow_nil <| x_qs <| cI H rfl (fun H => ?_) (fun H => ?_)
  ·exact c_seq <| c_reg <| ow_batch [.p] rfl <| ow_nil <| x_qs <| c_ret <| x_qs_ret <| xr 4 rfl (by cases H; exact q1)
  ·refine c_skip <| x_qs <| c_seq <| c_reg <| ow_batch [.fa 35 0 0 fa35_0] rfl <| o1 rfl (r1 0 0 rfl ty33 rfl) <| ow_batch [.fa 116 0 0 fa116_0] rfl <| o1 rfl (r1 0 1 rfl ty3 rfl) <| bE H fun e27 h28 H => ow_ixB rfl rfl rfl rfl rfl sl33 ty114 rfl g12 h28 fun q31 c32 hd29 hA30 => ?_
   obtain ⟨c33, c34, c35, rfl, g36, g37, g38⟩ := rdo_Timpl_Attr hd29
   obtain rfl : c33 = [vS e27.Name_] := g36
   obtain ⟨a39, c40, rfl⟩ := rd_sl1 g37
   obtain ⟨a41, c42, rfl⟩ := rd_sl1 g38
   refine o1 rfl (ry_load (cs := [vS e27.Name_, .slice a39 e27.Cuts_.length c40, .slice a41 e27.Values_.length c42]) rfl rfl ty114 (at_bor bor hA30) rfl) <| ow_alloc rfl rfl rfl rfl ty114 (fun _ => kp) fun b43 => sC 0 [vS e27.Name_, .slice a39 e27.Cuts_.length c40, .slice a41 e27.Values_.length c42] [_, _, _] 2 rfl ty114 rfl <| ow_nil <| x_qs <| c_seq <| c_reg <| o1 rfl (rx 0 2 [vS e27.Name_, .slice a39 e27.Cuts_.length c40, .slice a41 e27.Values_.length c42] rfl ty114 rfl) <| bE H fun y44 h45 H => oq rfl (qc rfl fn138 (fun w1 hw1 => impl_bins_ok w1 (cs0 := [vS e27.Name_, .slice a39 e27.Cuts_.length c40, .slice a41 e27.Values_.length c42]) h45 (rdm_Timpl_Attr (x := e27) (c0 := [vS e27.Name_]) (c1 := [.slice a39 e27.Cuts_.length c40]) (c2 := [.slice a41 e27.Values_.length c42]) rfl (rds_bor g37 w1 hw1) (rds_bor g38 w1 hw1)))) tt2 <| ow_batch [.p, .p] rfl <| ow_nil <| x_qs <| c_seq <| c_seq <| c_reg <| ow_batch [.fa 114 1 1 fa114_1] rfl <| o1 rfl (r1 1 2 rfl ty59 rfl) <| ow_batch [.lenS 59 3 sl59, .p] rfl <| ow_nil <| x_qs <| cI H rfl (fun H => ?_) (fun H => ?_)
   ·exact c_reg <| ow_batch [.p, .p, .p] rfl <| ow_nil <| x_qs <| c_seq <| c_reg <| ow_batch [.fa 116 1 1 fa116_1] rfl <| o1 rfl (r1 1 1 rfl ty3 rfl) <| ow_batch [.p] rfl <| bE H fun y46 h47 H => oq rfl (qc rfl fn91 (fun w1 hw1 => impl_within_ok w1  h47)) tt2 <| ow_batch [.p] rfl <| ow_nil <| x_qs <| c_ret <| xr 4 rfl (by cases H; exact q1)
   ·exact c_skip <| x_qs <| c_seq <| c_reg <| ow_batch [.fa 116 1 1 fa116_1] rfl <| o1 rfl (r1 1 1 rfl ty3 rfl) <| ow_batch [.p] rfl <| bE H fun y48 h49 H => oq rfl (qc rfl fn91 (fun w1 hw1 => impl_within_ok w1  h49)) tt2 <| ow_batch [.p] rfl <| ow_nil <| x_qs <| c_ret <| xr 4 rfl (by cases H; exact q1)
 ·clear H
  have H := hu26
  clear hu26
  generalize (!y20) = t25 at H key ⊢
  cases t25
  ·have H := of_if_f rfl H
   refine ow_batch [.fa 116 0 0 fa116_0] rfl <| o1 rfl (r1 0 1 rfl ty3 rfl) <| ow_batch [.fa 35 0 0 fa35_0] rfl <| o1 rfl (r1 0 0 rfl ty33 rfl) <| ow_batch [.lenS 33 114 sl33, .p] rfl <| bE H fun y23 h24 H => oq rfl (qc rfl fn91 (fun w1 hw1 => impl_within_ok w1  h24)) tt2 <| ow_batch [.p] rfl <| ow_batch [.p] rfl <| ?_
   obtain rfl := of_some H
   exact OW.sub key (sb rfl)
  ·have H := of_if_t rfl H
   refine ow_batch [.p, .p, .p, .p, .p, .p, .p, .p, .p] rfl ?_
   obtain rfl := of_some H
   exact OW.sub key (sb rfl)
theorem impl_Branches_ok (w : World) {p0 : Timpl_Schema} {p1 : Timpl_Fork} {cs0 : List Value} {r : Int} (H : impl_Branches p0 p1 = some r)  (g0 : (eTimpl_Schema).rd w [] p0 cs0) :
    Calls Tryz.prog 206 #[.agg cs0.toArray, .agg #[.int .i64 p1.Attr_, .int .i64 p1.At_]] w (fun en w' => en = .returned (.int .i64 r) ∧ Ext [] w w') := by
 obtain ⟨c10, c11, rfl, g12, g13⟩ := rdo_Timpl_Schema g0
 obtain ⟨a14, c15, rfl⟩ := rd_sl1 g12
 obtain ⟨a16, c17, rfl⟩ := rd_sl1 g13
 unfold impl_Branches at H
 refine f_enter (vs := [.agg #[.slice a14 p0.Attrs_.length c15, .slice a16 p0.Classes_.length c17], .agg #[.int .i64 p1.Attr_, .int .i64 p1.At_]]) Tryz.func206 rfl Tryz.ntmps206 rfl (St.init w []) <| c_seq <| c_reg <| ob [.slice a14 p0.Attrs_.length c15, .slice a16 p0.Classes_.length c17] rfl fun b18 => ob [.int .i64 p1.Attr_, .int .i64 p1.At_] rfl fun b19 => ow_batch [.p] rfl <| ow_nil <| x_qs <| c_seq <| c_block <| c_seq <| c_reg <| o1 rfl (rx 0 0 [.slice a14 p0.Attrs_.length c15, .slice a16 p0.Classes_.length c17] rfl ty35 rfl) <| o1 rfl (rx 0 1 [.int .i64 p1.Attr_, .int .i64 p1.At_] rfl ty116 rfl) <| bE H fun y20 h21 H => oq rfl (qc rfl fn211 (fun w1 hw1 => impl_ForkOk_ok w1 (p1 := p1) (cs0 := [.slice a14 p0.Attrs_.length c15, .slice a16 p0.Classes_.length c17]) h21 (rdm_Timpl_Schema (x := p0) (c0 := [.slice a14 p0.Attrs_.length c15]) (c1 := [.slice a16 p0.Classes_.length c17]) (rds_bor g12 w1 hw1) (rds_bor g13 w1 hw1)))) tt2 <| ow_batch [.p, .p] rfl <| ow_nil <| x_qs <| cI H rfl (fun H => ?_) (fun H => ?_)
 ·exact c_seq <| c_reg <| ow_batch [.p] rfl <| ow_nil <| x_qs <| c_ret <| x_qb_ret <| x_qs_ret <| xr 4 rfl (by cases H; exact q1)
 ·refine c_seq <| c_reg <| ow_batch [.fa 116 1 1 fa116_1] rfl <| o1 rfl (r1 1 1 rfl ty3 rfl) <| ow_batch [.p, .p] rfl <| ow_nil <| x_qs <| cI H rfl (fun H => ?_) (fun H => ?_)
  ·refine c_seq <| c_reg <| ow_batch [.fa 35 0 0 fa35_0] rfl <| o1 rfl (r1 0 0 rfl ty33 rfl) <| ow_batch [.fa 116 0 0 fa116_0] rfl <| o1 rfl (r1 0 1 rfl ty3 rfl) <| bE H fun e22 h23 H => ow_ixB rfl rfl rfl rfl rfl sl33 ty114 rfl g12 h23 fun q26 c27 hd24 hA25 => ?_
   obtain ⟨c28, c29, c30, rfl, g31, g32, g33⟩ := rdo_Timpl_Attr hd24
   obtain rfl : c28 = [vS e22.Name_] := g31
   obtain ⟨a34, c35, rfl⟩ := rd_sl1 g32
   obtain ⟨a36, c37, rfl⟩ := rd_sl1 g33
   exact o1 rfl (ry_load (cs := [vS e22.Name_, .slice a34 e22.Cuts_.length c35, .slice a36 e22.Values_.length c37]) rfl rfl ty114 (at_bor bor hA25) rfl) <| bE H fun y38 h39 H => oq rfl (qc rfl fn138 (fun w1 hw1 => impl_bins_ok w1 (cs0 := [vS e22.Name_, .slice a34 e22.Cuts_.length c35, .slice a36 e22.Values_.length c37]) h39 (rdm_Timpl_Attr (x := e22) (c0 := [vS e22.Name_]) (c1 := [.slice a34 e22.Cuts_.length c35]) (c2 := [.slice a36 e22.Values_.length c37]) rfl (rds_bor g32 w1 hw1) (rds_bor g33 w1 hw1)))) tt2 <| ow_batch [.p] rfl <| ow_nil <| x_qs <| c_ret <| x_qb_ret <| x_qs_ret <| xr 4 rfl (by cases H; exact q1)
  ·exact c_skip <| x_qb <| x_qs <| c_seq <| c_reg <| ow_batch [.p] rfl <| ow_nil <| x_qs <| c_ret <| xr 4 rfl (by cases H; exact q1)
theorem impl_nodeOk_1_ok (w : World) {p0 : Int} {p1 : Int} {p2 : Timpl_Tree} {q_1 : Addr} {cs_1 : List Value} {q_2 : Addr} {cs_2 : List Value} {r : Bool} (H : impl_nodeOk_1 p0 p1 p2 = some r)  (g_1 : (eVal (Value.int .i64) (fun _ => rfl)).rd w [] p1 cs_1) (hA_1 : At w [] q_1 cs_1) (g_2 : (eTimpl_Tree).rd w [] p2 cs_2) (hA_2 : At w [] q_2 cs_2) :
    Calls Tryz.prog 208 #[.int .i64 p0, .pointer (some q_1), .pointer (some q_2)] w (fun en w' => en = .returned (.bool r) ∧ Ext [] w w') := by
 obtain rfl : cs_1 = [.int .i64 p1] := g_1
 obtain ⟨c10, c11, rfl, g12, g13⟩ := rdo_Timpl_Tree g_2
 obtain ⟨a14, c15, rfl⟩ := rd_sl1 g12
 obtain rfl : c11 = [.int .i64 p2.Seen_] := g13
 unfold impl_nodeOk_1 at H
 refine f_enter (vs := [.int .i64 p0, .pointer (some q_1), .pointer (some q_2)]) Tryz.func208 rfl Tryz.ntmps208 rfl (St.init w []) <| c_seq <| c_reg <| ow_batch [.p] rfl <| ow_nil <| x_qs <| c_seq <| c_regQ mixed (by kernel_rfl) <| ow_batch [.p] rfl <| o1 rfl (ry_load1 rfl rfl ty3 (at_bor bor hA_1)) <| ow_batch [.p, .fa 39 0 0 fa39_0] rfl <| o1 rfl (ry_load1 rfl rfl ty37 (at_bor bor (at_K hA_2 0 1))) <| ow_batch [.lenS 37 118 sl37, .p] rfl <| bE H fun y16 h17 H => oq rfl (qc rfl fn91 (fun w1 hw1 => impl_within_ok w1  h17)) tt2 <| ow_batch [.p, .p] rfl <| bE H fun u18 hu58 H => ow_cut [(23, .bool u18), (4, .bool false)] 9 ?_ (fun key => OW.sub (R := [(0, .int .i64 p0), (1, .pointer (some q_1)), (2, .pointer (some q_2)), (4, .bool false), (14, .bool (!y16))]) ?_ (sb rfl))
 ·exact ow_batch [.p] rfl <| ow_nilQ <| x_qs <| c_ret <| xr 4 rfl (by cases H; exact q1)
 ·clear H
  have H := hu58
  clear hu58
  generalize (!y16) = t57 at H key ⊢
  cases t57
  ·have H := of_if_f rfl H
   refine ow_batch [.fa 39 0 0 fa39_0] rfl <| o1 rfl (ry_load1 rfl rfl ty37 (at_bor bor (at_K hA_2 0 1))) <| ow_batch [.p] rfl <| bE H fun e19 h20 H => ow_ixB rfl rfl rfl rfl rfl sl37 ty118 rfl g12 h20 fun q23 c24 hd21 hA22 => ?_
   obtain ⟨c25, c26, c27, c28, c29, c30, c31, c32, c33, c34, rfl, g35, g36, g37, g38, g39, g40, g41, g42, g43, g44⟩ := rdo_Timpl_Node hd21
   obtain rfl : c25 = [.bool e19.Leaf_] := g35
   obtain rfl : c26 = [.int .i64 e19.Fork_.Attr_, .int .i64 e19.Fork_.At_] := g36
   obtain ⟨a45, c46, rfl⟩ := rd_sl1 g37
   obtain rfl : c28 = [.int .i64 e19.Miss_] := g38
   obtain ⟨c47, c48, rfl, g49, g50⟩ := rdo_Timpl_Stats g39
   obtain ⟨a51, c52, rfl⟩ := rd_sl1 g49
   obtain ⟨a53, c54, rfl⟩ := rd_sl1 g50
   obtain rfl : c30 = [.int .i64 e19.Since_] := g40
   obtain ⟨a55, c56, rfl⟩ := rd_sl1 g41
   obtain rfl : c32 = [.int .i64 e19.Depth_] := g42
   obtain rfl : c33 = [.int .i64 e19.Up_] := g43
   obtain rfl : c34 = [.int .i64 e19.Born_] := g44
   refine ow_batch [.fa 118 8 10 fa118_8] rfl <| o1 rfl (ry_load1 rfl rfl ty3 (at_bor bor (at_K hA22 10 1))) <| o1 rfl (ry_load1 rfl rfl ty3 (at_bor bor hA_1)) <| ow_batch [.p] rfl <| ow_batch [.p] rfl <| ?_
   obtain rfl := of_some H
   exact OW.sub key (sb rfl)
  ·have H := of_if_t rfl H
   refine ow_batch [.p, .p, .p, .p, .p, .p, .p, .p, .p] rfl ?_
   obtain rfl := of_some H
   exact OW.sub key (sb rfl)
theorem lib_slices_IndexFunc___int_int___impl_nodeOk_1_ok (w : World) {p0 : List Int} {p1_0 : Int} {p1_1 : Timpl_Tree} {a_0 : Option Addr} {n_0 c_0 : Nat} {q_1_0 : Addr} {cs_1_0 : List Value} {q_1_1 : Addr} {cs_1_1 : List Value} {r : Int} (H : lib_slices_IndexFunc___int_int___impl_nodeOk_1 p0 p1_0 p1_1 = some r)  (g0 : (eList (eVal (Value.int .i64) (fun _ => rfl)) 3).rd w [] p0 [.slice a_0 n_0 c_0]) (g_1_0 : (eVal (Value.int .i64) (fun _ => rfl)).rd w [] p1_0 cs_1_0) (hA_1_0 : At w [] q_1_0 cs_1_0) (g_1_1 : (eTimpl_Tree).rd w [] p1_1 cs_1_1) (hA_1_1 : At w [] q_1_1 cs_1_1) :
    Calls Tryz.prog 238 #[.slice a_0 n_0 c_0, .func (.func 208) #[] #[.pointer (some q_1_0), .pointer (some q_1_1)]] w (fun en w' => en = .returned (.int .i64 r) ∧ Ext [] w w') := by
 obtain rfl := rd_n g0
 obtain rfl : cs_1_0 = [.int .i64 p1_0] := g_1_0
 obtain ⟨c10, c11, rfl, g12, g13⟩ := rdo_Timpl_Tree g_1_1
 obtain ⟨a14, c15, rfl⟩ := rd_sl1 g12
 obtain rfl : c11 = [.int .i64 p1_1.Seen_] := g13
 unfold lib_slices_IndexFunc___int_int___impl_nodeOk_1 at H
 refine f_enter (vs := [.slice a_0 p0.length c_0, .func (.func 208) #[] #[.pointer (some q_1_0), .pointer (some q_1_1)]]) Tryz.func238 rfl Tryz.ntmps238 rfl (St.init w []) <| c_seq <| c_reg <| ow_batch [.p] rfl <| ow_nil <| x_qs <| c_seq <| c_seq <| c_reg <| ow_batch [.p, .lenS 59 3 sl59, .p] rfl <| ow_nil <| x_qs <| c_block <| CW.at (loopI1 (fun (i21 : Int) => St w [] []) (fun (i21 : Int) => [(0, .slice a_0 p0.length c_0), (1, .func (.func 208) #[] #[.pointer (some q_1_0), .pointer (some q_1_1)]), (7, .int .i64 (p0.length : Int)), (8, .int .i64 i21)]) (fun kk => fun (i21 : Int) => lib_slices_IndexFunc___int_int___impl_nodeOk_1_L1 p0 p1_0 p1_1 kk i21 = some r) (fun _ H => ?_) (fun k1 ihk1 i21 H => ?_) Fuel (0) (H)) (fun _ h => St.sel [] rfl rfl h) ⟨rfl, rfl, rfl, rfl,  trivial⟩
 ·unfold lib_slices_IndexFunc___int_int___impl_nodeOk_1_L1 at H
  exact absurd H (by simp)
 ·unfold lib_slices_IndexFunc___int_int___impl_nodeOk_1_L1 at H
  refine c_seq <| c_reg <| ow_batch [.p] rfl <| ow_nil <| x_qs <| c_seq <| cI H rfl (fun H => ?_) (fun H => ?_)
  ·refine c_skip <| x_qs <| c_seq <| c_block <| c_seq <| c_reg <| ow_batch [.p, .p] rfl <| ow_nil <| x_qs <| c_seq <| c_reg <| ow_batch [.p, .p, .p] rfl <| bE H fun e27 h28 H => ow_ixE (e := eVal (Value.int .i64) (fun _ => rfl)) (xs := p0) (j := i21) rfl rfl rfl rfl rfl sl59 ty3 rfl (fun w1 hw1 => rds_bor g0 w1 hw1) h28 (by rw [Nat.mul_one]) <| o1 rfl (ry_load1 rfl rfl ty3 (at_elV (fun w1 hw1 => rds_bor g0 w1 hw1) h28)) <| bE H fun y29 h30 H => ow_q rfl rfl (dstOk_lt rfl) (qy_callV (cap := [.pointer (some q_1_0), .pointer (some q_1_1)]) rfl fn208 rfl rfl (fun w1 hw1 => impl_nodeOk_1_ok w1 (cs_1 := [.int .i64 p1_0]) (cs_2 := [.slice a14 p1_1.Nodes_.length c15, .int .i64 p1_1.Seen_]) h30 rfl (at_bor bor hA_1_0 w1 hw1) (rdm_Timpl_Tree (x := p1_1) (c0 := [.slice a14 p1_1.Nodes_.length c15]) (c1 := [.int .i64 p1_1.Seen_]) (rds_bor g12 w1 hw1) rfl) (at_bor bor hA_1_1 w1 hw1))) (fun _ _ => trivial) <| ow_nil <| x_qs <| cI H rfl (fun H => ?_) (fun H => ?_)
   ·exact c_seq <| c_reg <| ow_batch [.p, .p] rfl <| ow_nil <| x_qs <| c_ret <| x_qb_ret <| x_qs_ret <| x_ql_ret <| x_qb_ret <| x_qs_ret <| xr 4 rfl (by cases H; exact q1)
   ·exact c_skip <| x_qb <| x_qs <| c_reg <| ow_batch [.p, .p] rfl <| ow_nil <| x_ql (RW.at (ihk1 (IntKind.i64.wrap (i21 + 1)) (H)) (fun _ h => St.sel [] rfl rfl h) ⟨rfl, rfl, rfl, rfl, trivial⟩)
  ·exact c_exit <| x_qs_exit <| x_ql_exit <| x_qb_here <| x_qs <| c_seq <| c_reg <| ow_batch [.p] rfl <| ow_nil <| x_qs <| c_ret <| xr 4 rfl (by cases H; exact q1)
theorem lib_slices_ContainsFunc___int_int___impl_nodeOk_1_ok (w : World) {p0 : List Int} {p1_0 : Int} {p1_1 : Timpl_Tree} {a_0 : Option Addr} {n_0 c_0 : Nat} {q_1_0 : Addr} {cs_1_0 : List Value} {q_1_1 : Addr} {cs_1_1 : List Value} {r : Bool} (H : lib_slices_ContainsFunc___int_int___impl_nodeOk_1 p0 p1_0 p1_1 = some r)  (g0 : (eList (eVal (Value.int .i64) (fun _ => rfl)) 3).rd w [] p0 [.slice a_0 n_0 c_0]) (g_1_0 : (eVal (Value.int .i64) (fun _ => rfl)).rd w [] p1_0 cs_1_0) (hA_1_0 : At w [] q_1_0 cs_1_0) (g_1_1 : (eTimpl_Tree).rd w [] p1_1 cs_1_1) (hA_1_1 : At w [] q_1_1 cs_1_1) :
    Calls Tryz.prog 188 #[.slice a_0 n_0 c_0, .func (.func 208) #[] #[.pointer (some q_1_0), .pointer (some q_1_1)]] w (fun en w' => en = .returned (.bool r) ∧ Ext [] w w') := by
 obtain rfl := rd_n g0
 obtain rfl : cs_1_0 = [.int .i64 p1_0] := g_1_0
 obtain ⟨c10, c11, rfl, g12, g13⟩ := rdo_Timpl_Tree g_1_1
 obtain ⟨a14, c15, rfl⟩ := rd_sl1 g12
 obtain rfl : c11 = [.int .i64 p1_1.Seen_] := g13
 unfold lib_slices_ContainsFunc___int_int___impl_nodeOk_1 at H
 exact f_enter (vs := [.slice a_0 p0.length c_0, .func (.func 208) #[] #[.pointer (some q_1_0), .pointer (some q_1_1)]]) Tryz.func188 rfl Tryz.ntmps188 rfl (St.init w []) <| c_seq <| c_reg <| ow_batch [.p] rfl <| ow_nil <| x_qs <| c_seq <| c_reg <| ow_batch [.p, .p] rfl <| bE H fun y16 h17 H => oq rfl (qc rfl fn238 (fun w1 hw1 => lib_slices_IndexFunc___int_int___impl_nodeOk_1_ok w1 (cs_1_0 := [.int .i64 p1_0]) (cs_1_1 := [.slice a14 p1_1.Nodes_.length c15, .int .i64 p1_1.Seen_]) h17 (rds_bor g0 w1 hw1) rfl (at_bor bor hA_1_0 w1 hw1) (rdm_Timpl_Tree (x := p1_1) (c0 := [.slice a14 p1_1.Nodes_.length c15]) (c1 := [.int .i64 p1_1.Seen_]) (rds_bor g12 w1 hw1) rfl) (at_bor bor hA_1_1 w1 hw1))) tt2 <| ow_batch [.p, .p] rfl <| ow_nil <| x_qs <| c_ret <| xr 4 rfl (by cases H; exact q1)
theorem impl_nodeOk_ok (w : World) {p0 : Timpl_Schema} {p1 : Timpl_Tree} {p2 : Int} {cs0 : List Value} {cs1 : List Value} {r : Bool} (H : impl_nodeOk p0 p1 p2 = some r)  (g0 : (eTimpl_Schema).rd w [] p0 cs0) (g1 : (eTimpl_Tree).rd w [] p1 cs1) :
    Calls Tryz.prog 133 #[.agg cs0.toArray, .agg cs1.toArray, .int .i64 p2] w (fun en w' => en = .returned (.bool r) ∧ Ext [] w w') := by
 obtain ⟨c10, c11, rfl, g12, g13⟩ := rdo_Timpl_Schema g0
 obtain ⟨a14, c15, rfl⟩ := rd_sl1 g12
 obtain ⟨a16, c17, rfl⟩ := rd_sl1 g13
 obtain ⟨c18, c19, rfl, g20, g21⟩ := rdo_Timpl_Tree g1
 obtain ⟨a22, c23, rfl⟩ := rd_sl1 g20
 obtain rfl : c19 = [.int .i64 p1.Seen_] := g21
 unfold impl_nodeOk at H
 refine f_enter (vs := [.agg #[.slice a14 p0.Attrs_.length c15, .slice a16 p0.Classes_.length c17], .agg #[.slice a22 p1.Nodes_.length c23, .int .i64 p1.Seen_], .int .i64 p2]) Tryz.func133 rfl Tryz.ntmps133 rfl (St.init w []) <| c_seq <| c_reg <| ob [.slice a14 p0.Attrs_.length c15, .slice a16 p0.Classes_.length c17] rfl fun b24 => ob [.slice a22 p1.Nodes_.length c23, .int .i64 p1.Seen_] rfl fun b25 => ob [.int .i64 p2] rfl fun b26 => ow_batch [.p] rfl <| ow_nil <| x_qs <| c_seq <| c_reg <| ow_batch [.fa 39 0 0 fa39_0] rfl <| o1 rfl (r1 0 1 rfl ty37 rfl) <| o1 rfl (r1 0 2 rfl ty3 rfl) <| bE H fun e27 h28 H => ow_ixB rfl rfl rfl rfl rfl sl37 ty118 rfl g20 h28 fun q31 c32 hd29 hA30 => ?_
 obtain ⟨c33, c34, c35, c36, c37, c38, c39, c40, c41, c42, rfl, g43, g44, g45, g46, g47, g48, g49, g50, g51, g52⟩ := rdo_Timpl_Node hd29
 obtain rfl : c33 = [.bool e27.Leaf_] := g43
 obtain rfl : c34 = [.int .i64 e27.Fork_.Attr_, .int .i64 e27.Fork_.At_] := g44
 obtain ⟨a53, c54, rfl⟩ := rd_sl1 g45
 obtain rfl : c36 = [.int .i64 e27.Miss_] := g46
 obtain ⟨c55, c56, rfl, g57, g58⟩ := rdo_Timpl_Stats g47
 obtain ⟨a59, c60, rfl⟩ := rd_sl1 g57
 obtain ⟨a61, c62, rfl⟩ := rd_sl1 g58
 obtain rfl : c38 = [.int .i64 e27.Since_] := g48
 obtain ⟨a63, c64, rfl⟩ := rd_sl1 g49
 obtain rfl : c40 = [.int .i64 e27.Depth_] := g50
 obtain rfl : c41 = [.int .i64 e27.Up_] := g51
 obtain rfl : c42 = [.int .i64 e27.Born_] := g52
 refine o1 rfl (ry_load (cs := [.bool e27.Leaf_, .int .i64 e27.Fork_.Attr_, .int .i64 e27.Fork_.At_, .slice a53 e27.Kids_.length c54, .int .i64 e27.Miss_, .slice a59 e27.Stats_.Totals_.length c60, .slice a61 e27.Stats_.Cells_.length c62, .int .i64 e27.Since_, .slice a63 e27.Attrs_.length c64, .int .i64 e27.Depth_, .int .i64 e27.Up_, .int .i64 e27.Born_]) rfl rfl ty118 (at_bor bor hA30) rfl) <| ow_alloc rfl rfl rfl rfl ty118 (fun _ => kp) fun b65 => sC 0 [.bool e27.Leaf_, .int .i64 e27.Fork_.Attr_, .int .i64 e27.Fork_.At_, .slice a53 e27.Kids_.length c54, .int .i64 e27.Miss_, .slice a59 e27.Stats_.Totals_.length c60, .slice a61 e27.Stats_.Cells_.length c62, .int .i64 e27.Since_, .slice a63 e27.Attrs_.length c64, .int .i64 e27.Depth_, .int .i64 e27.Up_, .int .i64 e27.Born_] [_, _, _, _, _, _, _, _, _, _, _, _] 3 rfl ty118 rfl <| ow_nil <| x_qs <| c_seq <| c_seq <| c_reg <| ow_batch [.fa 118 7 9 fa118_7] rfl <| o1 rfl (r1 9 3 rfl ty3 rfl) <| bE H fun y66 h67 H => oq rfl (qc rfl fn91 (fun w1 hw1 => impl_within_ok w1  h67)) tt2 <| ow_batch [.p, .p] rfl <| bE H fun u68 hu72 H => ow_cut [(26, .bool u68), (3, .pointer (some ⟨b24, 0, none⟩)), (4, .pointer (some ⟨b25, 0, none⟩)), (5, .pointer (some ⟨b26, 0, none⟩)), (7, .pointer (some ⟨b65, 0, none⟩))] 7 ?_ (fun key => OW.sub (R := [(3, .pointer (some ⟨b24, 0, none⟩)), (4, .pointer (some ⟨b25, 0, none⟩)), (5, .pointer (some ⟨b26, 0, none⟩)), (7, .pointer (some ⟨b65, 0, none⟩)), (19, .bool (!y66))]) ?_ (sb rfl))
 ·refine ow_batch [.p] rfl <| bE H fun u73 hu77 H => ow_cut [(33, .bool u73), (3, .pointer (some ⟨b24, 0, none⟩)), (4, .pointer (some ⟨b25, 0, none⟩)), (5, .pointer (some ⟨b26, 0, none⟩)), (7, .pointer (some ⟨b65, 0, none⟩))] 6 ?_ (fun key => OW.sub (R := [(3, .pointer (some ⟨b24, 0, none⟩)), (4, .pointer (some ⟨b25, 0, none⟩)), (5, .pointer (some ⟨b26, 0, none⟩)), (7, .pointer (some ⟨b65, 0, none⟩)), (27, .bool u68)]) ?_ (sb rfl))
  ·refine ow_batch [.p] rfl <| bE H fun u78 hu82 H => ow_cut [(40, .bool u78), (3, .pointer (some ⟨b24, 0, none⟩)), (4, .pointer (some ⟨b25, 0, none⟩)), (5, .pointer (some ⟨b26, 0, none⟩)), (7, .pointer (some ⟨b65, 0, none⟩))] 6 ?_ (fun key => OW.sub (R := [(3, .pointer (some ⟨b24, 0, none⟩)), (4, .pointer (some ⟨b25, 0, none⟩)), (5, .pointer (some ⟨b26, 0, none⟩)), (7, .pointer (some ⟨b65, 0, none⟩)), (34, .bool u73)]) ?_ (sb rfl))
   ·refine ow_nil <| x_qs <| cI H rfl (fun H => ?_) (fun H => ?_)
    ·exact c_seq <| c_reg <| ow_batch [.p] rfl <| ow_nil <| x_qs <| c_ret <| x_qs_ret <| xr 6 rfl (by cases H; exact q1)
    ·refine c_skip <| x_qs <| c_seq <| c_seq <| c_reg <| ow_batch [.fa 118 0 0 fa118_0] rfl <| o1 rfl (r1 0 3 rfl ty4 rfl) <| ow_nil <| x_qs <| cI H rfl (fun H => ?_) (fun H => ?_)
     ·refine c_seq <| c_reg <| ow_batch [.fa 118 4 5 fa118_4, .fa 62 0 0 fa62_0] rfl <| o1 rfl (r1 5 3 rfl ty59 rfl) <| bE H fun y83 h84 H => oq rfl (qc rfl fn205 (fun w1 hw1 => impl_total_ok w1  h84 (rds_bor g57 w1 hw1))) tt2 <| ow_batch [.p] rfl <| ow_nil <| x_qs <| c_join1 (fun (i85 : Int) => St w [] [Res.box b65 118 [.bool e27.Leaf_, .int .i64 e27.Fork_.Attr_, .int .i64 e27.Fork_.At_, .slice a53 e27.Kids_.length c54, .int .i64 e27.Miss_, .slice a59 e27.Stats_.Totals_.length c60, .slice a61 e27.Stats_.Cells_.length c62, .int .i64 e27.Since_, .slice a63 e27.Attrs_.length c64, .int .i64 e27.Depth_, .int .i64 e27.Up_, .int .i64 e27.Born_]]) (fun (i85 : Int) => [(7, .pointer (some ⟨b65, 0, none⟩)), (8, .int .i64 i85)]) (fun (i85 : Int) => impl_nodeOk_J1 e27 i85 = some r) (fun i85 H => ?_) (fun J1 => ?_)
      ·unfold impl_nodeOk_J1 at H
       refine c_seq <| c_reg <| ow_batch [.fa 118 1 1 fa118_1] rfl <| o1 rfl (rx 1 0 [.int .i64 e27.Fork_.Attr_, .int .i64 e27.Fork_.At_] rfl ty116 rfl) <| o1 rfl (ry_build2 [] [.int .i64 0, .int .i64 0] rfl rfl ty116 fs116 rfl trivial rfl) <| o1 rfl (ry_seql (xs := [.int .i64 e27.Fork_.Attr_, .int .i64 e27.Fork_.At_]) (ys := [.int .i64 0, .int .i64 0]) rfl rfl rfl (se116 e27.Fork_.Attr_ 0 e27.Fork_.At_ 0)) <| ow_batch [.p] rfl <| ow_cut [(61, .bool ((e27.Fork_.Attr_ == 0 && (e27.Fork_.At_ == 0 && true)) && ((e27.Kids_.length : Int) == 0))), (7, .pointer (some ⟨b65, 0, none⟩)), (8, .int .i64 i85)] 5 ?_ (fun key => OW.sub (R := [(7, .pointer (some ⟨b65, 0, none⟩)), (8, .int .i64 i85), (56, .bool (e27.Fork_.Attr_ == 0 && (e27.Fork_.At_ == 0 && true)))]) ?_ (sb rfl))
       ·refine ow_batch [.p] rfl <| ow_cut [(66, .bool (((e27.Fork_.Attr_ == 0 && (e27.Fork_.At_ == 0 && true)) && ((e27.Kids_.length : Int) == 0)) && (e27.Miss_ == 0))), (7, .pointer (some ⟨b65, 0, none⟩)), (8, .int .i64 i85)] 4 ?_ (fun key => OW.sub (R := [(7, .pointer (some ⟨b65, 0, none⟩)), (8, .int .i64 i85), (62, .bool ((e27.Fork_.Attr_ == 0 && (e27.Fork_.At_ == 0 && true)) && ((e27.Kids_.length : Int) == 0)))]) ?_ (sb rfl))
        ·refine ow_batch [.p] rfl <| bE H fun u90 hu94 H => ow_cut [(72, .bool u90)] 5 ?_ (fun key => OW.sub (R := [(7, .pointer (some ⟨b65, 0, none⟩)), (8, .int .i64 i85), (67, .bool (((e27.Fork_.Attr_ == 0 && (e27.Fork_.At_ == 0 && true)) && ((e27.Kids_.length : Int) == 0)) && (e27.Miss_ == 0)))]) ?_ (sb rfl))
         ·exact ow_batch [.p] rfl <| ow_nil <| x_qs <| c_ret <| x_qs_ret <| xr 6 rfl (by cases H; exact q1)
         ·clear H
          have H := hu94
          clear hu94
          generalize (((e27.Fork_.Attr_ == 0 && (e27.Fork_.At_ == 0 && true)) && ((e27.Kids_.length : Int) == 0)) && (e27.Miss_ == 0)) = t93 at H key ⊢
          cases t93
          ·have H := of_if_f rfl H
           refine ow_batch [.p, .p, .p, .p, .p] rfl ?_
           obtain rfl := of_some H
           exact OW.sub key ⟨rfl, trivial⟩
          ·have H := of_if_t rfl H
           refine ow_batch [.fa 118 5 7 fa118_5] rfl <| o1 rfl (r1 7 0 rfl ty3 rfl) <| ow_batch [.p] rfl <| bE H fun y91 h92 H => oq rfl (qc rfl fn91 (fun w1 hw1 => impl_within_ok w1  h92)) tt2 <| ow_batch [.p] rfl <| ?_
           obtain rfl := of_some H
           exact OW.sub key ⟨rfl, trivial⟩
        ·generalize ((e27.Fork_.Attr_ == 0 && (e27.Fork_.At_ == 0 && true)) && ((e27.Kids_.length : Int) == 0)) = t89 at key ⊢
         cases t89
         ·exact ow_batch [.p, .p, .p, .p] rfl <| OW.sub key (sb rfl)
         ·exact ow_batch [.fa 118 3 4 fa118_3] rfl <| o1 rfl (r1 4 0 rfl ty3 rfl) <| ow_batch [.p] rfl <| ow_batch [.p] rfl <| OW.sub key (sb rfl)
       ·generalize (e27.Fork_.Attr_ == 0 && (e27.Fork_.At_ == 0 && true)) = t87 at key ⊢
        cases t87
        ·exact ow_batch [.p, .p, .p, .p, .p] rfl <| OW.sub key (sb rfl)
        ·exact ow_batch [.fa 118 2 3 fa118_2] rfl <| o1 rfl (r1 3 0 rfl ty59 rfl) <| ow_batch [.lenS 59 3 sl59, .p] rfl <| ow_batch [.p] rfl <| OW.sub key (sb rfl)
      ·refine c_seq <| c_reg <| ow_batch [.fa 118 4 5 fa118_4, .fa 62 1 1 fa62_1] rfl <| o1 rfl (r1 6 3 rfl ty60 rfl) <| ow_batch [.lenS 60 59 sl60, .p] rfl <| ow_nil <| x_qs <| cI H rfl (fun H => ?_) (fun H => ?_)
       ·exact c_reg <| ow_batch [.p] rfl <| ow_nil <| XW.at (J1 (0) (H)) (fun _ h => St.sel [3] rfl rfl h) ⟨rfl, rfl, trivial⟩
       ·exact c_skip <| XW.at (J1 (y83) (H)) (fun _ h => St.sel [3] rfl rfl h) ⟨rfl, rfl, trivial⟩
     ·refine c_skip <| x_qs <| c_seq <| c_reg <| o1 rfl (rx 0 0 [.slice a14 p0.Attrs_.length c15, .slice a16 p0.Classes_.length c17] rfl ty35 rfl) <| ow_batch [.fa 118 1 1 fa118_1] rfl <| o1 rfl (rx 1 3 [.int .i64 e27.Fork_.Attr_, .int .i64 e27.Fork_.At_] rfl ty116 rfl) <| bE H fun y95 h96 H => oq rfl (qc rfl fn206 (fun w1 hw1 => impl_Branches_ok w1 (p1 := e27.Fork_) (cs0 := [.slice a14 p0.Attrs_.length c15, .slice a16 p0.Classes_.length c17]) h96 (rdm_Timpl_Schema (x := p0) (c0 := [.slice a14 p0.Attrs_.length c15]) (c1 := [.slice a16 p0.Classes_.length c17]) (rds_bor g12 w1 hw1) (rds_bor g13 w1 hw1)))) tt2 <| ow_batch [.p] rfl <| ow_nil <| x_qs <| c_seq <| c_seq <| c_reg <| ow_batch [.p, .p, .p] rfl <| ow_cut [(85, .bool ((y95 == 0) || ((e27.Kids_.length : Int) != y95))), (4, .pointer (some ⟨b25, 0, none⟩)), (5, .pointer (some ⟨b26, 0, none⟩)), (7, .pointer (some ⟨b65, 0, none⟩)), (9, .int .i64 y95)] 6 ?_ (fun key => OW.sub (R := [(4, .pointer (some ⟨b25, 0, none⟩)), (5, .pointer (some ⟨b26, 0, none⟩)), (7, .pointer (some ⟨b65, 0, none⟩)), (9, .int .i64 y95), (79, .bool (y95 == 0))]) ?_ (sb rfl))
      ·refine ow_batch [.p] rfl <| bE H fun u99 hu103 H => ow_cut [(91, .bool u99), (4, .pointer (some ⟨b25, 0, none⟩)), (5, .pointer (some ⟨b26, 0, none⟩)), (7, .pointer (some ⟨b65, 0, none⟩)), (9, .int .i64 y95)] 5 ?_ (fun key => OW.sub (R := [(4, .pointer (some ⟨b25, 0, none⟩)), (5, .pointer (some ⟨b26, 0, none⟩)), (7, .pointer (some ⟨b65, 0, none⟩)), (9, .int .i64 y95), (86, .bool ((y95 == 0) || ((e27.Kids_.length : Int) != y95)))]) ?_ (sb rfl))
       ·refine ow_batch [.p] rfl <| bE H fun u104 hu108 H => ow_cut [(99, .bool u104), (4, .pointer (some ⟨b25, 0, none⟩)), (5, .pointer (some ⟨b26, 0, none⟩)), (7, .pointer (some ⟨b65, 0, none⟩))] 7 ?_ (fun key => OW.sub (R := [(4, .pointer (some ⟨b25, 0, none⟩)), (5, .pointer (some ⟨b26, 0, none⟩)), (7, .pointer (some ⟨b65, 0, none⟩)), (9, .int .i64 y95), (92, .bool u99)]) ?_ (sb rfl))
        ·refine ow_batch [.p] rfl <| ow_cut [(106, .bool (u104 || ((e27.Stats_.Cells_.length : Int) != 0))), (4, .pointer (some ⟨b25, 0, none⟩)), (5, .pointer (some ⟨b26, 0, none⟩)), (7, .pointer (some ⟨b65, 0, none⟩))] 6 ?_ (fun key => OW.sub (R := [(4, .pointer (some ⟨b25, 0, none⟩)), (5, .pointer (some ⟨b26, 0, none⟩)), (7, .pointer (some ⟨b65, 0, none⟩)), (100, .bool u104)]) ?_ (sb rfl))
         ·refine ow_batch [.p] rfl <| ow_cut [(111, .bool ((u104 || ((e27.Stats_.Cells_.length : Int) != 0)) || (e27.Since_ != 0))), (4, .pointer (some ⟨b25, 0, none⟩)), (5, .pointer (some ⟨b26, 0, none⟩)), (7, .pointer (some ⟨b65, 0, none⟩))] 4 ?_ (fun key => OW.sub (R := [(4, .pointer (some ⟨b25, 0, none⟩)), (5, .pointer (some ⟨b26, 0, none⟩)), (7, .pointer (some ⟨b65, 0, none⟩)), (107, .bool (u104 || ((e27.Stats_.Cells_.length : Int) != 0)))]) ?_ (sb rfl))
          ·refine ow_nil <| x_qs <| cI H rfl (fun H => ?_) (fun H => ?_)
           ·exact c_seq <| c_reg <| ow_batch [.p] rfl <| ow_nil <| x_qs <| c_ret <| x_qs_ret <| xr 6 rfl (by cases H; exact q1)
           ·exact c_skip <| x_qs <| c_seq <| c_reg <| ow_batch [.fa 118 2 3 fa118_2] rfl <| o1 rfl (r1 3 3 rfl ty59 rfl) <| o1 rfl (ry_makeFunc rfl rfl) <| bE H fun y113 h114 H => oq rfl (qc rfl fn188 (fun w1 hw1 => lib_slices_ContainsFunc___int_int___impl_nodeOk_1_ok w1 (cs_1_0 := [.int .i64 p2]) (cs_1_1 := [.slice a22 p1.Nodes_.length c23, .int .i64 p1.Seen_]) h114 (rds_bor g45 w1 hw1) rfl (at_box (T := 3) 0 (boxIn (i := 2) rfl) rfl w1 hw1) (rdm_Timpl_Tree (x := p1) (c0 := [.slice a22 p1.Nodes_.length c23]) (c1 := [.int .i64 p1.Seen_]) (rds_bor g20 w1 hw1) rfl) (at_box (T := 39) 0 (boxIn (i := 1) rfl) rfl w1 hw1))) tt2 <| ow_batch [.p, .p] rfl <| ow_nil <| x_qs <| c_ret <| xr 6 rfl (by cases H; exact q1)
          ·generalize (u104 || ((e27.Stats_.Cells_.length : Int) != 0)) = t112 at key ⊢
           cases t112
           ·exact ow_batch [.fa 118 5 7 fa118_5] rfl <| o1 rfl (r1 7 3 rfl ty3 rfl) <| ow_batch [.p] rfl <| ow_batch [.p] rfl <| OW.sub key (sb rfl)
           ·exact ow_batch [.p, .p, .p, .p] rfl <| OW.sub key (sb rfl)
         ·generalize u104 = t110 at key ⊢
          cases t110
          ·exact ow_batch [.fa 118 4 5 fa118_4, .fa 62 1 1 fa62_1] rfl <| o1 rfl (r1 6 3 rfl ty60 rfl) <| ow_batch [.lenS 60 59 sl60, .p] rfl <| ow_batch [.p] rfl <| OW.sub key (sb rfl)
          ·exact ow_batch [.p, .p, .p, .p, .p, .p] rfl <| OW.sub key (sb rfl)
        ·clear H
         have H := hu108
         clear hu108
         generalize u99 = t107 at H key ⊢
         cases t107
         ·have H := of_if_f rfl H
          refine ow_batch [.fa 118 3 4 fa118_3] rfl <| o1 rfl (r1 4 3 rfl ty3 rfl) <| ow_batch [.p, .p] rfl <| bE H fun y105 h106 H => oq rfl (qc rfl fn91 (fun w1 hw1 => impl_within_ok w1  h106)) tt2 <| ow_batch [.p] rfl <| ow_batch [.p] rfl <| ?_
          obtain rfl := of_some H
          exact OW.sub key (sb rfl)
         ·have H := of_if_t rfl H
          refine ow_batch [.p, .p, .p, .p, .p, .p, .p] rfl ?_
          obtain rfl := of_some H
          exact OW.sub key (sb rfl)
       ·clear H
        have H := hu103
        clear hu103
        generalize ((y95 == 0) || ((e27.Kids_.length : Int) != y95)) = t102 at H key ⊢
        cases t102
        ·have H := of_if_f rfl H
         refine ow_batch [.fa 118 2 3 fa118_2] rfl <| o1 rfl (r1 3 3 rfl ty59 rfl) <| bE H fun y100 h101 H => oq rfl (qc rfl fn207 (fun w1 hw1 => impl_ascending_ok w1  h101 (rds_bor g45 w1 hw1))) tt2 <| ow_batch [.p] rfl <| ow_batch [.p] rfl <| ?_
         obtain rfl := of_some H
         exact OW.sub key (sb rfl)
        ·have H := of_if_t rfl H
         refine ow_batch [.p, .p, .p, .p, .p] rfl ?_
         obtain rfl := of_some H
         exact OW.sub key (sb rfl)
      ·generalize (y95 == 0) = t98 at key ⊢
       cases t98
       ·exact ow_batch [.fa 118 2 3 fa118_2] rfl <| o1 rfl (r1 3 3 rfl ty59 rfl) <| ow_batch [.lenS 59 3 sl59, .p, .p] rfl <| ow_batch [.p] rfl <| OW.sub key (sb rfl)
       ·exact ow_batch [.p, .p, .p, .p, .p, .p] rfl <| OW.sub key (sb rfl)
   ·clear H
    have H := hu82
    clear hu82
    generalize u73 = t81 at H key ⊢
    cases t81
    ·have H := of_if_f rfl H
     refine o1 rfl (rx 0 0 [.slice a14 p0.Attrs_.length c15, .slice a16 p0.Classes_.length c17] rfl ty35 rfl) <| ow_batch [.fa 118 6 8 fa118_6] rfl <| o1 rfl (r1 8 3 rfl ty59 rfl) <| bE H fun y79 h80 H => oq rfl (qc rfl fn204 (fun w1 hw1 => impl_AttrsOk_ok w1 (cs0 := [.slice a14 p0.Attrs_.length c15, .slice a16 p0.Classes_.length c17]) h80 (rdm_Timpl_Schema (x := p0) (c0 := [.slice a14 p0.Attrs_.length c15]) (c1 := [.slice a16 p0.Classes_.length c17]) (rds_bor g12 w1 hw1) (rds_bor g13 w1 hw1)) (rds_bor g49 w1 hw1))) tt2 <| ow_batch [.p] rfl <| ow_batch [.p] rfl <| ?_
     obtain rfl := of_some H
     exact OW.sub key (sb rfl)
    ·have H := of_if_t rfl H
     refine ow_batch [.p, .p, .p, .p, .p, .p] rfl ?_
     obtain rfl := of_some H
     exact OW.sub key (sb rfl)
  ·clear H
   have H := hu77
   clear hu77
   generalize u68 = t76 at H key ⊢
   cases t76
   ·have H := of_if_f rfl H
    refine o1 rfl (rx 0 0 [.slice a14 p0.Attrs_.length c15, .slice a16 p0.Classes_.length c17] rfl ty35 rfl) <| ow_batch [.fa 118 4 5 fa118_4] rfl <| o1 rfl (rx 5 3 [.slice a59 e27.Stats_.Totals_.length c60, .slice a61 e27.Stats_.Cells_.length c62] rfl ty62 rfl) <| bE H fun y74 h75 H => oq rfl (qc rfl fn203 (fun w1 hw1 => impl_StatsOk_ok w1 (cs0 := [.slice a14 p0.Attrs_.length c15, .slice a16 p0.Classes_.length c17]) (cs1 := [.slice a59 e27.Stats_.Totals_.length c60, .slice a61 e27.Stats_.Cells_.length c62]) h75 (rdm_Timpl_Schema (x := p0) (c0 := [.slice a14 p0.Attrs_.length c15]) (c1 := [.slice a16 p0.Classes_.length c17]) (rds_bor g12 w1 hw1) (rds_bor g13 w1 hw1)) (rdm_Timpl_Stats (x := e27.Stats_) (c0 := [.slice a59 e27.Stats_.Totals_.length c60]) (c1 := [.slice a61 e27.Stats_.Cells_.length c62]) (rds_bor g57 w1 hw1) (rds_bor g58 w1 hw1)))) tt2 <| ow_batch [.p] rfl <| ow_batch [.p] rfl <| ?_
    obtain rfl := of_some H
    exact OW.sub key (sb rfl)
   ·have H := of_if_t rfl H
    refine ow_batch [.p, .p, .p, .p, .p, .p] rfl ?_
    obtain rfl := of_some H
    exact OW.sub key (sb rfl)
 ·clear H
  have H := hu72
  clear hu72
  generalize (!y66) = t71 at H key ⊢
  cases t71
  ·have H := of_if_f rfl H
   refine ow_batch [.fa 118 9 11 fa118_9] rfl <| o1 rfl (r1 11 3 rfl ty3 rfl) <| ow_batch [.fa 39 1 1 fa39_1] rfl <| o1 rfl (r1 1 1 rfl ty3 rfl) <| bE H fun y69 h70 H => oq rfl (qc rfl fn91 (fun w1 hw1 => impl_within_ok w1  h70)) tt2 <| ow_batch [.p] rfl <| ow_batch [.p] rfl <| ?_
   obtain rfl := of_some H
   exact OW.sub key (sb rfl)
  ·have H := of_if_t rfl H
   refine ow_batch [.p, .p, .p, .p, .p, .p, .p] rfl ?_
   obtain rfl := of_some H
   exact OW.sub key (sb rfl)
theorem lib_slices_Index___int_int__ok (w : World) {p0 : List Int} {p1 : Int} {a_0 : Option Addr} {n_0 c_0 : Nat} {r : Int} (H : lib_slices_Index___int_int_ p0 p1 = some r)  (g0 : (eList (eVal (Value.int .i64) (fun _ => rfl)) 3).rd w [] p0 [.slice a_0 n_0 c_0]) :
    Calls Tryz.prog 63 #[.slice a_0 n_0 c_0, .int .i64 p1] w (fun en w' => en = .returned (.int .i64 r) ∧ Ext [] w w') := by
 obtain rfl := rd_n g0
 unfold lib_slices_Index___int_int_ at H
 refine f_enter (vs := [.slice a_0 p0.length c_0, .int .i64 p1]) Tryz.func63 rfl Tryz.ntmps63 rfl (St.init w []) <| c_seq <| c_reg <| ow_batch [.p] rfl <| ow_nil <| x_qs <| c_seq <| c_seq <| c_reg <| ow_batch [.p, .lenS 59 3 sl59, .p] rfl <| ow_nil <| x_qs <| c_block <| CW.at (loopI1 (fun (i13 : Int) => St w [] []) (fun (i13 : Int) => [(0, .slice a_0 p0.length c_0), (1, .int .i64 p1), (7, .int .i64 (p0.length : Int)), (8, .int .i64 i13)]) (fun kk => fun (i13 : Int) => lib_slices_Index___int_int__L1 p0 p1 kk i13 = some r) (fun _ H => ?_) (fun k1 ihk1 i13 H => ?_) Fuel (0) (H)) (fun _ h => St.sel [] rfl rfl h) ⟨rfl, rfl, rfl, rfl,  trivial⟩
 ·unfold lib_slices_Index___int_int__L1 at H
  exact absurd H (by simp)
 ·unfold lib_slices_Index___int_int__L1 at H
  refine c_seq <| c_reg <| ow_batch [.p] rfl <| ow_nil <| x_qs <| c_seq <| cI H rfl (fun H => ?_) (fun H => ?_)
  ·refine c_skip <| x_qs <| c_seq <| c_block <| c_seq <| c_reg <| ow_batch [.p, .p] rfl <| ow_nil <| x_qs <| c_seq <| c_reg <| ow_batch [.p, .p, .p] rfl <| bE H fun e18 h19 H => ow_ixE (e := eVal (Value.int .i64) (fun _ => rfl)) (xs := p0) (j := i13) rfl rfl rfl rfl rfl sl59 ty3 rfl (fun w1 hw1 => rds_bor g0 w1 hw1) h19 (by rw [Nat.mul_one]) <| o1 rfl (ry_load1 rfl rfl ty3 (at_elV (fun w1 hw1 => rds_bor g0 w1 hw1) h19)) <| ow_batch [.p] rfl <| ow_nil <| x_qs <| cI H rfl (fun H => ?_) (fun H => ?_)
   ·exact c_seq <| c_reg <| ow_batch [.p, .p] rfl <| ow_nil <| x_qs <| c_ret <| x_qb_ret <| x_qs_ret <| x_ql_ret <| x_qb_ret <| x_qs_ret <| xr 4 rfl (by cases H; exact q1)
   ·exact c_skip <| x_qb <| x_qs <| c_reg <| ow_batch [.p, .p] rfl <| ow_nil <| x_ql (RW.at (ihk1 (IntKind.i64.wrap (i13 + 1)) (H)) (fun _ h => St.sel [] rfl rfl h) ⟨rfl, rfl, rfl, rfl, trivial⟩)
  ·exact c_exit <| x_qs_exit <| x_ql_exit <| x_qb_here <| x_qs <| c_seq <| c_reg <| ow_batch [.p] rfl <| ow_nil <| x_qs <| c_ret <| xr 4 rfl (by cases H; exact q1)
theorem lib_slices_Contains___int_int__ok (w : World) {p0 : List Int} {p1 : Int} {a_0 : Option Addr} {n_0 c_0 : Nat} {r : Bool} (H : lib_slices_Contains___int_int_ p0 p1 = some r)  (g0 : (eList (eVal (Value.int .i64) (fun _ => rfl)) 3).rd w [] p0 [.slice a_0 n_0 c_0]) :
    Calls Tryz.prog 134 #[.slice a_0 n_0 c_0, .int .i64 p1] w (fun en w' => en = .returned (.bool r) ∧ Ext [] w w') := by
 obtain rfl := rd_n g0
 unfold lib_slices_Contains___int_int_ at H
 exact f_enter (vs := [.slice a_0 p0.length c_0, .int .i64 p1]) Tryz.func134 rfl Tryz.ntmps134 rfl (St.init w []) <| c_seq <| c_reg <| ow_batch [.p] rfl <| ow_nil <| x_qs <| c_seq <| c_reg <| ow_batch [.p, .p] rfl <| bE H fun y10 h11 H => oq rfl (qc rfl fn63 (fun w1 hw1 => lib_slices_Index___int_int__ok w1  h11 (rds_bor g0 w1 hw1))) tt2 <| ow_batch [.p, .p] rfl <| ow_nil <| x_qs <| c_ret <| xr 4 rfl (by cases H; exact q1)
theorem impl_TreeOk_ok (w : World) {p0 : Timpl_Schema} {p1 : Timpl_Tree} {cs0 : List Value} {cs1 : List Value} {r : Bool} (H : impl_TreeOk p0 p1 = some r)  (g0 : (eTimpl_Schema).rd w [] p0 cs0) (g1 : (eTimpl_Tree).rd w [] p1 cs1) :
    Calls Tryz.prog 59 #[.agg cs0.toArray, .agg cs1.toArray] w (fun en w' => en = .returned (.bool r) ∧ Ext [] w w') := by
 obtain ⟨c10, c11, rfl, g12, g13⟩ := rdo_Timpl_Schema g0
 obtain ⟨a14, c15, rfl⟩ := rd_sl1 g12
 obtain ⟨a16, c17, rfl⟩ := rd_sl1 g13
 obtain ⟨c18, c19, rfl, g20, g21⟩ := rdo_Timpl_Tree g1
 obtain ⟨a22, c23, rfl⟩ := rd_sl1 g20
 obtain rfl : c19 = [.int .i64 p1.Seen_] := g21
 unfold impl_TreeOk at H
 refine f_enter (vs := [.agg #[.slice a14 p0.Attrs_.length c15, .slice a16 p0.Classes_.length c17], .agg #[.slice a22 p1.Nodes_.length c23, .int .i64 p1.Seen_]]) Tryz.func59 rfl Tryz.ntmps59 rfl (St.init w []) <| c_seq <| c_reg <| ob [.slice a14 p0.Attrs_.length c15, .slice a16 p0.Classes_.length c17] rfl fun b24 => ob [.slice a22 p1.Nodes_.length c23, .int .i64 p1.Seen_] rfl fun b25 => ow_batch [.p] rfl <| ow_nil <| x_qs <| c_seq <| c_seq <| c_reg <| o1 rfl (rx 0 0 [.slice a14 p0.Attrs_.length c15, .slice a16 p0.Classes_.length c17] rfl ty35 rfl) <| bE H fun y26 h27 H => oq rfl (qc rfl fn132 (fun w1 hw1 => impl_SchemaOk_ok w1 (cs0 := [.slice a14 p0.Attrs_.length c15, .slice a16 p0.Classes_.length c17]) h27 (rdm_Timpl_Schema (x := p0) (c0 := [.slice a14 p0.Attrs_.length c15]) (c1 := [.slice a16 p0.Classes_.length c17]) (rds_bor g12 w1 hw1) (rds_bor g13 w1 hw1)))) tt2 <| ow_batch [.p, .p] rfl <| bE H fun u28 hu32 H => ow_cut [(17, .bool u28), (2, .pointer (some ⟨b24, 0, none⟩)), (3, .pointer (some ⟨b25, 0, none⟩))] 6 ?_ (fun key => OW.sub (R := [(2, .pointer (some ⟨b24, 0, none⟩)), (3, .pointer (some ⟨b25, 0, none⟩)), (11, .bool (!y26))]) ?_ (sb rfl))
 ·refine ow_batch [.p] rfl <| bE H fun u33 hu37 H => ow_cut [(23, .bool u33), (2, .pointer (some ⟨b24, 0, none⟩)), (3, .pointer (some ⟨b25, 0, none⟩))] 5 ?_ (fun key => OW.sub (R := [(2, .pointer (some ⟨b24, 0, none⟩)), (3, .pointer (some ⟨b25, 0, none⟩)), (18, .bool u28)]) ?_ (sb rfl))
  ·refine ow_nil <| x_qs <| cI H rfl (fun H => ?_) (fun H => ?_)
   ·exact c_seq <| c_reg <| ow_batch [.p] rfl <| ow_nil <| x_qs <| c_ret <| x_qs_ret <| xr 4 rfl (by cases H; exact q1)
   ·refine c_skip <| x_qs <| c_seq <| c_seq <| c_reg <| ow_batch [.fa 39 0 0 fa39_0] rfl <| o1 rfl (r1 0 1 rfl ty37 rfl) <| ow_batch [.lenS 37 118 sl37, .p] rfl <| ow_nil <| x_qs <| c_block <| CW.at (loopI1 (fun (i134 : Int) => St w [] [Res.box b24 35 [.slice a14 p0.Attrs_.length c15, .slice a16 p0.Classes_.length c17], Res.box b25 39 [.slice a22 p1.Nodes_.length c23, .int .i64 p1.Seen_]]) (fun (i134 : Int) => [(2, .pointer (some ⟨b24, 0, none⟩)), (3, .pointer (some ⟨b25, 0, none⟩)), (25, .slice a22 p1.Nodes_.length c23), (26, .int .i64 (p1.Nodes_.length : Int)), (27, .int .i64 i134)]) (fun kk => fun (i134 : Int) => impl_TreeOk_L1 p1 p0 kk i134 = some r) (fun _ H => ?_) (fun k1 ihk1 i134 H => ?_) Fuel (0) (H)) (fun _ h => St.sel [0, 1] rfl rfl h) ⟨rfl, rfl, rfl, rfl, rfl,  trivial⟩
    ·unfold impl_TreeOk_L1 at H
     exact absurd H (by simp)
    ·unfold impl_TreeOk_L1 at H
     refine c_seq <| c_reg <| ow_batch [.p] rfl <| ow_nil <| x_qs <| c_seq <| cI H rfl (fun H => ?_) (fun H => ?_)
     ·refine c_skip <| x_qs <| c_seq <| c_block <| c_seq <| c_reg <| ow_batch [.p] rfl <| bE H fun e231 h232 H => ow_ixB rfl rfl rfl rfl rfl sl37 ty118 rfl g20 h232 fun q235 c236 hd233 hA234 => ?_
      obtain ⟨c237, c238, c239, c240, c241, c242, c243, c244, c245, c246, rfl, g247, g248, g249, g250, g251, g252, g253, g254, g255, g256⟩ := rdo_Timpl_Node hd233
      obtain rfl : c237 = [.bool e231.Leaf_] := g247
      obtain rfl : c238 = [.int .i64 e231.Fork_.Attr_, .int .i64 e231.Fork_.At_] := g248
      obtain ⟨a257, c258, rfl⟩ := rd_sl1 g249
      obtain rfl : c240 = [.int .i64 e231.Miss_] := g250
      obtain ⟨c259, c260, rfl, g261, g262⟩ := rdo_Timpl_Stats g251
      obtain ⟨a263, c264, rfl⟩ := rd_sl1 g261
      obtain ⟨a265, c266, rfl⟩ := rd_sl1 g262
      obtain rfl : c242 = [.int .i64 e231.Since_] := g252
      obtain ⟨a267, c268, rfl⟩ := rd_sl1 g253
      obtain rfl : c244 = [.int .i64 e231.Depth_] := g254
      obtain rfl : c245 = [.int .i64 e231.Up_] := g255
      obtain rfl : c246 = [.int .i64 e231.Born_] := g256
      refine o1 rfl (ry_load (cs := [.bool e231.Leaf_, .int .i64 e231.Fork_.Attr_, .int .i64 e231.Fork_.At_, .slice a257 e231.Kids_.length c258, .int .i64 e231.Miss_, .slice a263 e231.Stats_.Totals_.length c264, .slice a265 e231.Stats_.Cells_.length c266, .int .i64 e231.Since_, .slice a267 e231.Attrs_.length c268, .int .i64 e231.Depth_, .int .i64 e231.Up_, .int .i64 e231.Born_]) rfl rfl ty118 (at_bor bor hA234) rfl) <| ow_alloc rfl rfl rfl rfl ty118 (fun _ => kp) fun b269 => ow_batch [.p] rfl <| sC 0 [.bool e231.Leaf_, .int .i64 e231.Fork_.Attr_, .int .i64 e231.Fork_.At_, .slice a257 e231.Kids_.length c258, .int .i64 e231.Miss_, .slice a263 e231.Stats_.Totals_.length c264, .slice a265 e231.Stats_.Cells_.length c266, .int .i64 e231.Since_, .slice a267 e231.Attrs_.length c268, .int .i64 e231.Depth_, .int .i64 e231.Up_, .int .i64 e231.Born_] [_, _, _, _, _, _, _, _, _, _, _, _] 2 rfl ty118 rfl <| ow_nil <| x_qs <| c_seq <| c_seq <| c_reg <| o1 rfl (rx 0 0 [.slice a14 p0.Attrs_.length c15, .slice a16 p0.Classes_.length c17] rfl ty35 rfl) <| o1 rfl (rx 0 1 [.slice a22 p1.Nodes_.length c23, .int .i64 p1.Seen_] rfl ty39 rfl) <| ow_batch [.p] rfl <| bE H fun y270 h271 H => oq rfl (qc rfl fn133 (fun w1 hw1 => impl_nodeOk_ok w1 (cs0 := [.slice a14 p0.Attrs_.length c15, .slice a16 p0.Classes_.length c17]) (cs1 := [.slice a22 p1.Nodes_.length c23, .int .i64 p1.Seen_]) h271 (rdm_Timpl_Schema (x := p0) (c0 := [.slice a14 p0.Attrs_.length c15]) (c1 := [.slice a16 p0.Classes_.length c17]) (rds_bor g12 w1 hw1) (rds_bor g13 w1 hw1)) (rdm_Timpl_Tree (x := p1) (c0 := [.slice a22 p1.Nodes_.length c23]) (c1 := [.int .i64 p1.Seen_]) (rds_bor g20 w1 hw1) rfl))) tt2 <| ow_batch [.p] rfl <| ow_nil <| x_qs <| cI H rfl (fun H => ?_) (fun H => ?_)
      ·exact c_seq <| c_reg <| ow_batch [.p] rfl <| ow_nil <| x_qs <| c_ret <| x_qs_ret <| x_qb_ret <| x_qs_ret <| x_ql_ret <| x_qb_ret <| x_qs_ret <| xr 4 rfl (by cases H; exact q1)
      ·refine c_skip <| x_qs <| c_seq <| c_seq <| c_reg <| ow_batch [.p, .p] rfl <| ow_nil <| x_qs <| cI H rfl (fun H => ?_) (fun H => ?_)
       ·refine c_seq <| c_seq <| c_reg <| ow_batch [.fa 118 8 10 fa118_8] rfl <| o1 rfl (r1 10 2 rfl ty3 rfl) <| ow_batch [.p, .p] rfl <| ow_cut [(46, .bool ((e231.Up_ != (-1)) || (e231.Depth_ != 0))), (2, .pointer (some ⟨b24, 0, none⟩)), (3, .pointer (some ⟨b25, 0, none⟩)), (6, .pointer (some ⟨b269, 0, none⟩)), (25, .slice a22 p1.Nodes_.length c23), (26, .int .i64 (p1.Nodes_.length : Int)), (27, .int .i64 i134)] 4 ?_ (fun key => OW.sub (R := [(2, .pointer (some ⟨b24, 0, none⟩)), (3, .pointer (some ⟨b25, 0, none⟩)), (6, .pointer (some ⟨b269, 0, none⟩)), (25, .slice a22 p1.Nodes_.length c23), (26, .int .i64 (p1.Nodes_.length : Int)), (27, .int .i64 i134), (42, .bool (e231.Up_ != (-1)))]) ?_ (sb rfl))
        ·refine ow_batch [.p] rfl <| ow_cut [(51, .bool (((e231.Up_ != (-1)) || (e231.Depth_ != 0)) || (e231.Born_ != 0))), (2, .pointer (some ⟨b24, 0, none⟩)), (3, .pointer (some ⟨b25, 0, none⟩)), (25, .slice a22 p1.Nodes_.length c23), (26, .int .i64 (p1.Nodes_.length : Int)), (27, .int .i64 i134)] 4 ?_ (fun key => OW.sub (R := [(2, .pointer (some ⟨b24, 0, none⟩)), (3, .pointer (some ⟨b25, 0, none⟩)), (6, .pointer (some ⟨b269, 0, none⟩)), (25, .slice a22 p1.Nodes_.length c23), (26, .int .i64 (p1.Nodes_.length : Int)), (27, .int .i64 i134), (47, .bool ((e231.Up_ != (-1)) || (e231.Depth_ != 0)))]) ?_ (sb rfl))
         ·refine ow_nil <| x_qs <| cI H rfl (fun H => ?_) (fun H => ?_)
          ·exact c_seq <| c_reg <| ow_batch [.p] rfl <| ow_nil <| x_qs <| c_ret <| x_qs_ret <| x_qs_ret <| x_qb_ret <| x_qs_ret <| x_ql_ret <| x_qb_ret <| x_qs_ret <| xr 4 rfl (by cases H; exact q1)
          ·exact c_skip <| x_qs <| c_exit <| x_qs_exit <| x_qb_here <| x_qs <| c_reg <| ow_batch [.p, .p] rfl <| ow_nil <| x_ql (RW.at (ihk1 (IntKind.i64.wrap (i134 + 1)) (H)) (fun _ h => St.sel [0, 1] rfl rfl h) ⟨rfl, rfl, rfl, rfl, rfl, trivial⟩)
         ·generalize ((e231.Up_ != (-1)) || (e231.Depth_ != 0)) = t275 at key ⊢
          cases t275
          ·exact ow_batch [.fa 118 9 11 fa118_9] rfl <| o1 rfl (r1 11 2 rfl ty3 rfl) <| ow_batch [.p] rfl <| ow_batch [.p] rfl <| OW.sub key (sb rfl)
          ·exact ow_batch [.p, .p, .p, .p] rfl <| OW.sub key (sb rfl)
        ·generalize (e231.Up_ != (-1)) = t273 at key ⊢
         cases t273
         ·exact ow_batch [.fa 118 7 9 fa118_7] rfl <| o1 rfl (r1 9 2 rfl ty3 rfl) <| ow_batch [.p] rfl <| ow_batch [.p] rfl <| OW.sub key (sb rfl)
         ·exact ow_batch [.p, .p, .p, .p] rfl <| OW.sub key (sb rfl)
       ·refine c_skip <| x_qs <| c_seq <| c_seq <| c_reg <| ow_batch [.fa 118 8 10 fa118_8] rfl <| o1 rfl (r1 10 2 rfl ty3 rfl) <| ow_batch [.p, .p] rfl <| bE H fun y276 h277 H => oq rfl (qc rfl fn91 (fun w1 hw1 => impl_within_ok w1  h277)) tt2 <| ow_batch [.p] rfl <| ow_nil <| x_qs <| cI H rfl (fun H => ?_) (fun H => ?_)
        ·exact c_seq <| c_reg <| ow_batch [.p] rfl <| ow_nil <| x_qs <| c_ret <| x_qs_ret <| x_qb_ret <| x_qs_ret <| x_ql_ret <| x_qb_ret <| x_qs_ret <| xr 4 rfl (by cases H; exact q1)
        ·refine c_skip <| x_qs <| c_seq <| c_reg <| ow_batch [.fa 39 0 0 fa39_0] rfl <| o1 rfl (r1 0 1 rfl ty37 rfl) <| ow_batch [.fa 118 8 10 fa118_8] rfl <| o1 rfl (r1 10 2 rfl ty3 rfl) <| bE H fun e278 h279 H => ow_ixB rfl rfl rfl rfl rfl sl37 ty118 rfl g20 h279 fun q282 c283 hd280 hA281 => ?_
         obtain ⟨c284, c285, c286, c287, c288, c289, c290, c291, c292, c293, rfl, g294, g295, g296, g297, g298, g299, g300, g301, g302, g303⟩ := rdo_Timpl_Node hd280
         obtain rfl : c284 = [.bool e278.Leaf_] := g294
         obtain rfl : c285 = [.int .i64 e278.Fork_.Attr_, .int .i64 e278.Fork_.At_] := g295
         obtain ⟨a304, c305, rfl⟩ := rd_sl1 g296
         obtain rfl : c287 = [.int .i64 e278.Miss_] := g297
         obtain ⟨c306, c307, rfl, g308, g309⟩ := rdo_Timpl_Stats g298
         obtain ⟨a310, c311, rfl⟩ := rd_sl1 g308
         obtain ⟨a312, c313, rfl⟩ := rd_sl1 g309
         obtain rfl : c289 = [.int .i64 e278.Since_] := g299
         obtain ⟨a314, c315, rfl⟩ := rd_sl1 g300
         obtain rfl : c291 = [.int .i64 e278.Depth_] := g301
         obtain rfl : c292 = [.int .i64 e278.Up_] := g302
         obtain rfl : c293 = [.int .i64 e278.Born_] := g303
         refine o1 rfl (ry_load (cs := [.bool e278.Leaf_, .int .i64 e278.Fork_.Attr_, .int .i64 e278.Fork_.At_, .slice a304 e278.Kids_.length c305, .int .i64 e278.Miss_, .slice a310 e278.Stats_.Totals_.length c311, .slice a312 e278.Stats_.Cells_.length c313, .int .i64 e278.Since_, .slice a314 e278.Attrs_.length c315, .int .i64 e278.Depth_, .int .i64 e278.Up_, .int .i64 e278.Born_]) rfl rfl ty118 (at_bor bor hA281) rfl) <| ow_alloc rfl rfl rfl rfl ty118 (fun _ => kp) fun b316 => sC 0 [.bool e278.Leaf_, .int .i64 e278.Fork_.Attr_, .int .i64 e278.Fork_.At_, .slice a304 e278.Kids_.length c305, .int .i64 e278.Miss_, .slice a310 e278.Stats_.Totals_.length c311, .slice a312 e278.Stats_.Cells_.length c313, .int .i64 e278.Since_, .slice a314 e278.Attrs_.length c315, .int .i64 e278.Depth_, .int .i64 e278.Up_, .int .i64 e278.Born_] [_, _, _, _, _, _, _, _, _, _, _, _] 3 rfl ty118 rfl <| ow_nil <| x_qs <| c_seq <| c_reg <| ow_batch [.fa 118 0 0 fa118_0] rfl <| o1 rfl (r1 0 3 rfl ty4 rfl) <| ow_batch [.p] rfl <| bE H fun u317 hu321 H => ow_cut [(72, .bool u317), (2, .pointer (some ⟨b24, 0, none⟩)), (3, .pointer (some ⟨b25, 0, none⟩)), (6, .pointer (some ⟨b269, 0, none⟩)), (7, .pointer (some ⟨b316, 0, none⟩)), (25, .slice a22 p1.Nodes_.length c23), (26, .int .i64 (p1.Nodes_.length : Int)), (27, .int .i64 i134)] 6 ?_ (fun key => OW.sub (R := [(2, .pointer (some ⟨b24, 0, none⟩)), (3, .pointer (some ⟨b25, 0, none⟩)), (5, .int .i64 i134), (6, .pointer (some ⟨b269, 0, none⟩)), (7, .pointer (some ⟨b316, 0, none⟩)), (25, .slice a22 p1.Nodes_.length c23), (26, .int .i64 (p1.Nodes_.length : Int)), (27, .int .i64 i134), (66, .bool e278.Leaf_)]) ?_ (sb rfl))
         ·refine ow_batch [.p] rfl <| ow_cut [(80, .bool (u317 || (e278.Depth_ != (IntKind.i64.wrap (e231.Depth_ - 1))))), (2, .pointer (some ⟨b24, 0, none⟩)), (3, .pointer (some ⟨b25, 0, none⟩)), (6, .pointer (some ⟨b269, 0, none⟩)), (7, .pointer (some ⟨b316, 0, none⟩)), (25, .slice a22 p1.Nodes_.length c23), (26, .int .i64 (p1.Nodes_.length : Int)), (27, .int .i64 i134)] 7 ?_ (fun key => OW.sub (R := [(2, .pointer (some ⟨b24, 0, none⟩)), (3, .pointer (some ⟨b25, 0, none⟩)), (6, .pointer (some ⟨b269, 0, none⟩)), (7, .pointer (some ⟨b316, 0, none⟩)), (25, .slice a22 p1.Nodes_.length c23), (26, .int .i64 (p1.Nodes_.length : Int)), (27, .int .i64 i134), (73, .bool u317)]) ?_ (sb rfl))
          ·refine ow_batch [.p] rfl <| ow_cut [(87, .bool ((u317 || (e278.Depth_ != (IntKind.i64.wrap (e231.Depth_ - 1)))) || (decide (e278.Born_ > e231.Born_)))), (2, .pointer (some ⟨b24, 0, none⟩)), (3, .pointer (some ⟨b25, 0, none⟩)), (25, .slice a22 p1.Nodes_.length c23), (26, .int .i64 (p1.Nodes_.length : Int)), (27, .int .i64 i134)] 6 ?_ (fun key => OW.sub (R := [(2, .pointer (some ⟨b24, 0, none⟩)), (3, .pointer (some ⟨b25, 0, none⟩)), (6, .pointer (some ⟨b269, 0, none⟩)), (7, .pointer (some ⟨b316, 0, none⟩)), (25, .slice a22 p1.Nodes_.length c23), (26, .int .i64 (p1.Nodes_.length : Int)), (27, .int .i64 i134), (81, .bool (u317 || (e278.Depth_ != (IntKind.i64.wrap (e231.Depth_ - 1)))))]) ?_ (sb rfl))
           ·refine ow_nil <| x_qs <| cI H rfl (fun H => ?_) (fun H => ?_)
            ·exact c_seq <| c_reg <| ow_batch [.p] rfl <| ow_nil <| x_qs <| c_ret <| x_qb_ret <| x_qs_ret <| x_ql_ret <| x_qb_ret <| x_qs_ret <| xr 4 rfl (by cases H; exact q1)
            ·exact c_skip <| x_qb <| x_qs <| c_reg <| ow_batch [.p, .p] rfl <| ow_nil <| x_ql (RW.at (ihk1 (IntKind.i64.wrap (i134 + 1)) (H)) (fun _ h => St.sel [0, 1] rfl rfl h) ⟨rfl, rfl, rfl, rfl, rfl, trivial⟩)
           ·generalize (u317 || (e278.Depth_ != (IntKind.i64.wrap (e231.Depth_ - 1)))) = t325 at key ⊢
            cases t325
            ·exact ow_batch [.fa 118 9 11 fa118_9] rfl <| o1 rfl (r1 11 3 rfl ty3 rfl) <| ow_batch [.fa 118 9 11 fa118_9] rfl <| o1 rfl (r1 11 2 rfl ty3 rfl) <| ow_batch [.p] rfl <| ow_batch [.p] rfl <| OW.sub key (sb rfl)
            ·exact ow_batch [.p, .p, .p, .p, .p, .p] rfl <| OW.sub key (sb rfl)
          ·generalize u317 = t323 at key ⊢
           cases t323
           ·exact ow_batch [.fa 118 7 9 fa118_7] rfl <| o1 rfl (r1 9 3 rfl ty3 rfl) <| ow_batch [.fa 118 7 9 fa118_7] rfl <| o1 rfl (r1 9 2 rfl ty3 rfl) <| ow_batch [.p, .p] rfl <| ow_batch [.p] rfl <| OW.sub key (sb rfl)
           ·exact ow_batch [.p, .p, .p, .p, .p, .p, .p] rfl <| OW.sub key (sb rfl)
         ·clear H
          have H := hu321
          clear hu321
          generalize e278.Leaf_ = t320 at H key ⊢
          cases t320
          ·have H := of_if_f rfl H
           refine ow_batch [.fa 118 2 3 fa118_2] rfl <| o1 rfl (r1 3 3 rfl ty59 rfl) <| ow_batch [.p] rfl <| bE H fun y318 h319 H => oq rfl (qc rfl fn134 (fun w1 hw1 => lib_slices_Contains___int_int__ok w1  h319 (rds_bor g296 w1 hw1))) tt2 <| ow_batch [.p] rfl <| ow_batch [.p] rfl <| ?_
           obtain rfl := of_some H
           exact OW.sub key (sb rfl)
          ·have H := of_if_t rfl H
           refine ow_batch [.p, .p, .p, .p, .p, .p] rfl ?_
           obtain rfl := of_some H
           exact OW.sub key (sb rfl)
     ·exact c_exit <| x_qs_exit <| x_ql_exit <| x_qb_here <| x_qs <| c_seq <| c_reg <| ow_batch [.p] rfl <| ow_nil <| x_qs <| c_ret <| xr 4 rfl (by cases H; exact q1)
  ·clear H
   have H := hu37
   clear hu37
   generalize u28 = t36 at H key ⊢
   cases t36
   ·have H := of_if_f rfl H
    refine ow_batch [.fa 39 1 1 fa39_1] rfl <| o1 rfl (r1 1 1 rfl ty3 rfl) <| bE H fun y34 h35 H => oq rfl (qc rfl fn91 (fun w1 hw1 => impl_within_ok w1  h35)) tt2 <| ow_batch [.p] rfl <| ow_batch [.p] rfl <| ?_
    obtain rfl := of_some H
    exact OW.sub key (sb rfl)
   ·have H := of_if_t rfl H
    refine ow_batch [.p, .p, .p, .p, .p] rfl ?_
    obtain rfl := of_some H
    exact OW.sub key (sb rfl)
 ·clear H
  have H := hu32
  clear hu32
  generalize (!y26) = t31 at H key ⊢
  cases t31
  ·have H := of_if_f rfl H
   refine ow_batch [.fa 39 0 0 fa39_0] rfl <| o1 rfl (r1 0 1 rfl ty37 rfl) <| ow_batch [.lenS 37 118 sl37] rfl <| bE H fun y29 h30 H => oq rfl (qc rfl fn91 (fun w1 hw1 => impl_within_ok w1  h30)) tt2 <| ow_batch [.p] rfl <| ow_batch [.p] rfl <| ?_
   obtain rfl := of_some H
   exact OW.sub key (sb rfl)
  ·have H := of_if_t rfl H
   refine ow_batch [.p, .p, .p, .p, .p, .p] rfl ?_
   obtain rfl := of_some H
   exact OW.sub key (sb rfl)
theorem impl_RuleOk_ok (w : World) {p0 : Timpl_Rule}  {r : Bool} (H : impl_RuleOk p0 = some r)   :
    Calls Tryz.prog 81 #[.agg #[.int .i64 p0.Sure_, .int .i64 p0.Tie_, .int .i64 p0.Grace_, .int .i64 p0.Depth_, .int .i64 p0.Nodes_, .int .i64 p0.Units_, .bool p0.Two_]] w (fun en w' => en = .returned (.bool r) ∧ Ext [] w w') := by
 unfold impl_RuleOk at H
 refine f_enter (vs := [.agg #[.int .i64 p0.Sure_, .int .i64 p0.Tie_, .int .i64 p0.Grace_, .int .i64 p0.Depth_, .int .i64 p0.Nodes_, .int .i64 p0.Units_, .bool p0.Two_]]) Tryz.func81 rfl Tryz.ntmps81 rfl (St.init w []) <| c_seq <| c_reg <| ob [.int .i64 p0.Sure_, .int .i64 p0.Tie_, .int .i64 p0.Grace_, .int .i64 p0.Depth_, .int .i64 p0.Nodes_, .int .i64 p0.Units_, .bool p0.Two_] rfl fun b10 => ow_batch [.p] rfl <| ow_nil <| x_qs <| c_seq <| c_reg <| ow_batch [.fa 53 0 0 fa53_0] rfl <| o1 rfl (r1 0 0 rfl ty3 rfl) <| bE H fun y11 h12 H => oq rfl (qc rfl fn91 (fun w1 hw1 => impl_within_ok w1  h12)) tt2 <| ow_batch [.p] rfl <| bE H fun u13 hu17 H => ow_cut [(10, .bool u13), (1, .pointer (some ⟨b10, 0, none⟩)), (2, .bool false)] 4 ?_ (fun key => OW.sub (R := [(1, .pointer (some ⟨b10, 0, none⟩)), (2, .bool false), (6, .bool y11)]) ?_ (sb rfl))
 ·refine ow_batch [.p] rfl <| bE H fun u18 hu22 H => ow_cut [(15, .bool u18), (1, .pointer (some ⟨b10, 0, none⟩)), (2, .bool false)] 4 ?_ (fun key => OW.sub (R := [(1, .pointer (some ⟨b10, 0, none⟩)), (2, .bool false), (11, .bool u13)]) ?_ (sb rfl))
  ·refine ow_batch [.p] rfl <| bE H fun u23 hu27 H => ow_cut [(20, .bool u23), (1, .pointer (some ⟨b10, 0, none⟩)), (2, .bool false)] 4 ?_ (fun key => OW.sub (R := [(1, .pointer (some ⟨b10, 0, none⟩)), (2, .bool false), (16, .bool u18)]) ?_ (sb rfl))
   ·refine ow_batch [.p] rfl <| bE H fun u28 hu32 H => ow_cut [(25, .bool u28), (1, .pointer (some ⟨b10, 0, none⟩)), (2, .bool false)] 4 ?_ (fun key => OW.sub (R := [(1, .pointer (some ⟨b10, 0, none⟩)), (2, .bool false), (21, .bool u23)]) ?_ (sb rfl))
    ·refine ow_batch [.p] rfl <| bE H fun u33 hu37 H => ow_cut [(30, .bool u33), (2, .bool false)] 4 ?_ (fun key => OW.sub (R := [(1, .pointer (some ⟨b10, 0, none⟩)), (2, .bool false), (26, .bool u28)]) ?_ (sb rfl))
     ·exact ow_batch [.p] rfl <| ow_nil <| x_qs <| c_ret <| xr 2 rfl (by cases H; exact q1)
     ·clear H
      have H := hu37
      clear hu37
      generalize u28 = t36 at H key ⊢
      cases t36
      ·have H := of_if_f rfl H
       refine ow_batch [.p, .p, .p, .p] rfl ?_
       obtain rfl := of_some H
       exact OW.sub key (sb rfl)
      ·have H := of_if_t rfl H
       refine ow_batch [.fa 53 5 5 fa53_5] rfl <| o1 rfl (r1 5 0 rfl ty3 rfl) <| bE H fun y34 h35 H => oq rfl (qc rfl fn91 (fun w1 hw1 => impl_within_ok w1  h35)) tt2 <| ow_batch [.p] rfl <| ?_
       obtain rfl := of_some H
       exact OW.sub key (sb rfl)
    ·clear H
     have H := hu32
     clear hu32
     generalize u23 = t31 at H key ⊢
     cases t31
     ·have H := of_if_f rfl H
      refine ow_batch [.p, .p, .p, .p] rfl ?_
      obtain rfl := of_some H
      exact OW.sub key (sb rfl)
     ·have H := of_if_t rfl H
      refine ow_batch [.fa 53 4 4 fa53_4] rfl <| o1 rfl (r1 4 0 rfl ty3 rfl) <| bE H fun y29 h30 H => oq rfl (qc rfl fn91 (fun w1 hw1 => impl_within_ok w1  h30)) tt2 <| ow_batch [.p] rfl <| ?_
      obtain rfl := of_some H
      exact OW.sub key (sb rfl)
   ·clear H
    have H := hu27
    clear hu27
    generalize u18 = t26 at H key ⊢
    cases t26
    ·have H := of_if_f rfl H
     refine ow_batch [.p, .p, .p, .p] rfl ?_
     obtain rfl := of_some H
     exact OW.sub key (sb rfl)
    ·have H := of_if_t rfl H
     refine ow_batch [.fa 53 3 3 fa53_3] rfl <| o1 rfl (r1 3 0 rfl ty3 rfl) <| bE H fun y24 h25 H => oq rfl (qc rfl fn91 (fun w1 hw1 => impl_within_ok w1  h25)) tt2 <| ow_batch [.p] rfl <| ?_
     obtain rfl := of_some H
     exact OW.sub key (sb rfl)
  ·clear H
   have H := hu22
   clear hu22
   generalize u13 = t21 at H key ⊢
   cases t21
   ·have H := of_if_f rfl H
    refine ow_batch [.p, .p, .p, .p] rfl ?_
    obtain rfl := of_some H
    exact OW.sub key (sb rfl)
   ·have H := of_if_t rfl H
    refine ow_batch [.fa 53 2 2 fa53_2] rfl <| o1 rfl (r1 2 0 rfl ty3 rfl) <| bE H fun y19 h20 H => oq rfl (qc rfl fn91 (fun w1 hw1 => impl_within_ok w1  h20)) tt2 <| ow_batch [.p] rfl <| ?_
    obtain rfl := of_some H
    exact OW.sub key (sb rfl)
 ·clear H
  have H := hu17
  clear hu17
  generalize y11 = t16 at H key ⊢
  cases t16
  ·have H := of_if_f rfl H
   refine ow_batch [.p, .p, .p, .p] rfl ?_
   obtain rfl := of_some H
   exact OW.sub key (sb rfl)
  ·have H := of_if_t rfl H
   refine ow_batch [.fa 53 1 1 fa53_1] rfl <| o1 rfl (r1 1 0 rfl ty3 rfl) <| bE H fun y14 h15 H => oq rfl (qc rfl fn91 (fun w1 hw1 => impl_within_ok w1  h15)) tt2 <| ow_batch [.p] rfl <| ?_
   obtain rfl := of_some H
   exact OW.sub key (sb rfl)
theorem lib_slices_Equal___int_int__ok (w : World) {p0 : List Int} {p1 : List Int} {a_0 : Option Addr} {n_0 c_0 : Nat} {a_1 : Option Addr} {n_1 c_1 : Nat} {r : Bool} (H : lib_slices_Equal___int_int_ p0 p1 = some r)  (g0 : (eList (eVal (Value.int .i64) (fun _ => rfl)) 3).rd w [] p0 [.slice a_0 n_0 c_0]) (g1 : (eList (eVal (Value.int .i64) (fun _ => rfl)) 3).rd w [] p1 [.slice a_1 n_1 c_1]) :
    Calls Tryz.prog 84 #[.slice a_0 n_0 c_0, .slice a_1 n_1 c_1] w (fun en w' => en = .returned (.bool r) ∧ Ext [] w w') := by
 obtain rfl := rd_n g0
 obtain rfl := rd_n g1
 unfold lib_slices_Equal___int_int_ at H
 refine f_enter (vs := [.slice a_0 p0.length c_0, .slice a_1 p1.length c_1]) Tryz.func84 rfl Tryz.ntmps84 rfl (St.init w []) <| c_seq <| c_reg <| ow_batch [.p] rfl <| ow_nil <| x_qs <| c_seq <| c_seq <| c_reg <| ow_batch [.p, .lenS 59 3 sl59, .p, .lenS 59 3 sl59, .p] rfl <| ow_nil <| x_qs <| cI H rfl (fun H => ?_) (fun H => ?_)
 ·exact c_seq <| c_reg <| ow_batch [.p] rfl <| ow_nil <| x_qs <| c_ret <| x_qs_ret <| xr 4 rfl (by cases H; exact q1)
 ·refine c_skip <| x_qs <| c_seq <| c_seq <| c_reg <| ow_batch [.p, .lenS 59 3 sl59, .p] rfl <| ow_nil <| x_qs <| c_block <| CW.at (loopI1 (fun (i15 : Int) => St w [] []) (fun (i15 : Int) => [(0, .slice a_0 p0.length c_0), (1, .slice a_1 p1.length c_1), (12, .int .i64 (p0.length : Int)), (13, .int .i64 i15)]) (fun kk => fun (i15 : Int) => lib_slices_Equal___int_int__L1 p0 p1 kk i15 = some r) (fun _ H => ?_) (fun k1 ihk1 i15 H => ?_) Fuel (0) (H)) (fun _ h => St.sel [] rfl rfl h) ⟨rfl, rfl, rfl, rfl,  trivial⟩
  ·unfold lib_slices_Equal___int_int__L1 at H
   exact absurd H (by simp)
  ·unfold lib_slices_Equal___int_int__L1 at H
   refine c_seq <| c_reg <| ow_batch [.p] rfl <| ow_nil <| x_qs <| c_seq <| cI H rfl (fun H => ?_) (fun H => ?_)
   ·refine c_skip <| x_qs <| c_seq <| c_block <| c_seq <| c_reg <| ow_batch [.p, .p] rfl <| ow_nil <| x_qs <| c_seq <| c_regQ mixed (by kernel_rfl) <| ow_batch [.p, .p] rfl <| bE H fun e21 h22 H => ow_ixE (e := eVal (Value.int .i64) (fun _ => rfl)) (xs := p0) (j := i15) rfl rfl rfl rfl rfl sl59 ty3 rfl (fun w1 hw1 => rds_bor g0 w1 hw1) h22 (by rw [Nat.mul_one]) <| o1 rfl (ry_load1 rfl rfl ty3 (at_elV (fun w1 hw1 => rds_bor g0 w1 hw1) h22)) <| ow_batch [.p, .p] rfl <| bE H fun e23 h24 H => ow_ixE (e := eVal (Value.int .i64) (fun _ => rfl)) (xs := p1) (j := i15) rfl rfl rfl rfl rfl sl59 ty3 rfl (fun w1 hw1 => rds_bor g1 w1 hw1) h24 (by rw [Nat.mul_one]) <| o1 rfl (ry_load1 rfl rfl ty3 (at_elV (fun w1 hw1 => rds_bor g1 w1 hw1) h24)) <| ow_batch [.p] rfl <| ow_nilQ <| x_qs <| cI H rfl (fun H => ?_) (fun H => ?_)
    ·exact c_seq <| c_reg <| ow_batch [.p] rfl <| ow_nil <| x_qs <| c_ret <| x_qb_ret <| x_qs_ret <| x_ql_ret <| x_qb_ret <| x_qs_ret <| xr 4 rfl (by cases H; exact q1)
    ·exact c_skip <| x_qb <| x_qs <| c_reg <| ow_batch [.p, .p] rfl <| ow_nil <| x_ql (RW.at (ihk1 (IntKind.i64.wrap (i15 + 1)) (H)) (fun _ h => St.sel [] rfl rfl h) ⟨rfl, rfl, rfl, rfl, trivial⟩)
   ·exact c_exit <| x_qs_exit <| x_ql_exit <| x_qb_here <| x_qs <| c_seq <| c_reg <| ow_batch [.p] rfl <| ow_nil <| x_qs <| c_ret <| xr 4 rfl (by cases H; exact q1)
theorem impl_sameLists_1_ok (w : World) {p0 : List Int} {p1 : List Int} {a_0 : Option Addr} {n_0 c_0 : Nat} {a_1 : Option Addr} {n_1 c_1 : Nat} {r : Bool} (H : impl_sameLists_1 p0 p1 = some r)  (g0 : (eList (eVal (Value.int .i64) (fun _ => rfl)) 3).rd w [] p0 [.slice a_0 n_0 c_0]) (g1 : (eList (eVal (Value.int .i64) (fun _ => rfl)) 3).rd w [] p1 [.slice a_1 n_1 c_1]) :
    Calls Tryz.prog 217 #[.slice a_0 n_0 c_0, .slice a_1 n_1 c_1] w (fun en w' => en = .returned (.bool r) ∧ Ext [] w w') := by
 obtain rfl := rd_n g0
 obtain rfl := rd_n g1
 unfold impl_sameLists_1 at H
 exact f_enter (vs := [.slice a_0 p0.length c_0, .slice a_1 p1.length c_1]) Tryz.func217 rfl Tryz.ntmps217 rfl (St.init w []) <| c_seq <| c_reg <| ow_batch [.p] rfl <| ow_nil <| x_qs <| c_seq <| c_reg <| ow_batch [.p, .p] rfl <| bE H fun y10 h11 H => oq rfl (qc rfl fn84 (fun w1 hw1 => lib_slices_Equal___int_int__ok w1  h11 (rds_bor g0 w1 hw1) (rds_bor g1 w1 hw1))) tt2 <| ow_batch [.p] rfl <| ow_nil <| x_qs <| c_ret <| xr 4 rfl (by cases H; exact q1)
theorem lib_slices_EqualFunc_____int_____int___int___int___impl_sameLists_1_ok (w : World) {p0 : List (List Int)} {p1 : List (List Int)} {a_0 : Option Addr} {n_0 c_0 : Nat} {a_1 : Option Addr} {n_1 c_1 : Nat} {r : Bool} (H : lib_slices_EqualFunc_____int_____int___int___int___impl_sameLists_1 p0 p1 = some r)  (g0 : (eList (eList (eVal (Value.int .i64) (fun _ => rfl)) 3) 59).rd w [] p0 [.slice a_0 n_0 c_0]) (g1 : (eList (eList (eVal (Value.int .i64) (fun _ => rfl)) 3) 59).rd w [] p1 [.slice a_1 n_1 c_1]) :
    Calls Tryz.prog 216 #[.slice a_0 n_0 c_0, .slice a_1 n_1 c_1, .func (.func 217) #[] #[]] w (fun en w' => en = .returned (.bool r) ∧ Ext [] w w') := by
 obtain rfl := rd_n g0
 obtain rfl := rd_n g1
 unfold lib_slices_EqualFunc_____int_____int___int___int___impl_sameLists_1 at H
 refine f_enter (vs := [.slice a_0 p0.length c_0, .slice a_1 p1.length c_1, .func (.func 217) #[] #[]]) Tryz.func216 rfl Tryz.ntmps216 rfl (St.init w []) <| c_seq <| c_reg <| ow_batch [.p] rfl <| ow_nil <| x_qs <| c_seq <| c_seq <| c_reg <| ow_batch [.p, .lenS 60 59 sl60, .p, .lenS 60 59 sl60, .p] rfl <| ow_nil <| x_qs <| cI H rfl (fun H => ?_) (fun H => ?_)
 ·exact c_seq <| c_reg <| ow_batch [.p] rfl <| ow_nil <| x_qs <| c_ret <| x_qs_ret <| xr 6 rfl (by cases H; exact q1)
 ·refine c_skip <| x_qs <| c_seq <| c_seq <| c_reg <| ow_batch [.p, .lenS 60 59 sl60, .p] rfl <| ow_nil <| x_qs <| c_block <| CW.at (loopI1 (fun (i29 : Int) => St w [] []) (fun (i29 : Int) => [(1, .slice a_1 p1.length c_1), (2, .func (.func 217) #[] #[]), (15, .slice a_0 p0.length c_0), (16, .int .i64 (p0.length : Int)), (17, .int .i64 i29)]) (fun kk => fun (i29 : Int) => lib_slices_EqualFunc_____int_____int___int___int___impl_sameLists_1_L1 p0 p1 kk i29 = some r) (fun _ H => ?_) (fun k1 ihk1 i29 H => ?_) Fuel (0) (H)) (fun _ h => St.sel [] rfl rfl h) ⟨rfl, rfl, rfl, rfl, rfl,  trivial⟩
  ·unfold lib_slices_EqualFunc_____int_____int___int___int___impl_sameLists_1_L1 at H
   exact absurd H (by simp)
  ·unfold lib_slices_EqualFunc_____int_____int___int___int___impl_sameLists_1_L1 at H
   refine c_seq <| c_reg <| ow_batch [.p] rfl <| ow_nil <| x_qs <| c_seq <| cI H rfl (fun H => ?_) (fun H => ?_)
   ·refine c_skip <| x_qs <| c_seq <| c_block <| c_seq <| c_reg <| ow_batch [.p] rfl <| bE H fun e49 h50 H => ow_ixB rfl rfl rfl rfl rfl sl60 ty59 rfl g0 h50 fun q53 c54 hd51 hA52 => ?_
    obtain ⟨a55, c56, rfl⟩ := rd_sl1 hd51
    refine o1 rfl (ry_load1 rfl rfl ty59 (at_bor bor hA52)) <| ow_batch [.p, .p] rfl <| ow_nil <| x_qs <| c_seq <| c_reg <| ow_batch [.p, .p] rfl <| bE H fun e57 h58 H => ow_ixB rfl rfl rfl rfl rfl sl60 ty59 rfl g1 h58 fun q61 c62 hd59 hA60 => ?_
    obtain ⟨a63, c64, rfl⟩ := rd_sl1 hd59
    refine o1 rfl (ry_load1 rfl rfl ty59 (at_bor bor hA60)) <| ow_batch [.p] rfl <| ow_nil <| x_qs <| c_seq <| c_reg <| ow_batch [.p, .p, .p] rfl <| bE H fun y65 h66 H => ow_q rfl rfl (dstOk_lt rfl) (qy_callV (cap := []) rfl fn217 rfl rfl (fun w1 hw1 => impl_sameLists_1_ok w1  h66 (rds_bor hd51 w1 hw1) (rds_bor hd59 w1 hw1))) (fun _ _ => trivial) <| ow_batch [.p] rfl <| ow_nil <| x_qs <| cI H rfl (fun H => ?_) (fun H => ?_)
    ·exact c_seq <| c_reg <| ow_batch [.p] rfl <| ow_nil <| x_qs <| c_ret <| x_qb_ret <| x_qs_ret <| x_ql_ret <| x_qb_ret <| x_qs_ret <| xr 6 rfl (by cases H; exact q1)
    ·exact c_skip <| x_qb <| x_qs <| c_reg <| ow_batch [.p, .p] rfl <| ow_nil <| x_ql (RW.at (ihk1 (IntKind.i64.wrap (i29 + 1)) (H)) (fun _ h => St.sel [] rfl rfl h) ⟨rfl, rfl, rfl, rfl, rfl, trivial⟩)
   ·exact c_exit <| x_qs_exit <| x_ql_exit <| x_qb_here <| x_qs <| c_seq <| c_reg <| ow_batch [.p] rfl <| ow_nil <| x_qs <| c_ret <| xr 6 rfl (by cases H; exact q1)
theorem impl_sameLists_ok (w : World) {p0 : List (List Int)} {p1 : List (List Int)} {a_0 : Option Addr} {n_0 c_0 : Nat} {a_1 : Option Addr} {n_1 c_1 : Nat} {r : Bool} (H : impl_sameLists p0 p1 = some r)  (g0 : (eList (eList (eVal (Value.int .i64) (fun _ => rfl)) 3) 59).rd w [] p0 [.slice a_0 n_0 c_0]) (g1 : (eList (eList (eVal (Value.int .i64) (fun _ => rfl)) 3) 59).rd w [] p1 [.slice a_1 n_1 c_1]) :
    Calls Tryz.prog 154 #[.slice a_0 n_0 c_0, .slice a_1 n_1 c_1] w (fun en w' => en = .returned (.bool r) ∧ Ext [] w w') := by
 obtain rfl := rd_n g0
 obtain rfl := rd_n g1
 unfold impl_sameLists at H
 exact f_enter (vs := [.slice a_0 p0.length c_0, .slice a_1 p1.length c_1]) Tryz.func154 rfl Tryz.ntmps154 rfl (St.init w []) <| c_seq <| c_reg <| ow_batch [.p] rfl <| ow_nil <| x_qs <| c_seq <| c_reg <| ow_batch [.p, .p] rfl <| bE H fun y10 h11 H => oq rfl (qc rfl fn216 (fun w1 hw1 => lib_slices_EqualFunc_____int_____int___int___int___impl_sameLists_1_ok w1  h11 (rds_bor g0 w1 hw1) (rds_bor g1 w1 hw1))) tt2 <| ow_batch [.p] rfl <| ow_nil <| x_qs <| c_ret <| xr 4 rfl (by cases H; exact q1)
theorem impl_StatsSame_ok (w : World) {p0 : Timpl_Stats} {p1 : Timpl_Stats} {cs0 : List Value} {cs1 : List Value} {r : Bool} (H : impl_StatsSame p0 p1 = some r)  (g0 : (eTimpl_Stats).rd w [] p0 cs0) (g1 : (eTimpl_Stats).rd w [] p1 cs1) :
    Calls Tryz.prog 86 #[.agg cs0.toArray, .agg cs1.toArray] w (fun en w' => en = .returned (.bool r) ∧ Ext [] w w') := by
 obtain ⟨c10, c11, rfl, g12, g13⟩ := rdo_Timpl_Stats g0
 obtain ⟨a14, c15, rfl⟩ := rd_sl1 g12
 obtain ⟨a16, c17, rfl⟩ := rd_sl1 g13
 obtain ⟨c18, c19, rfl, g20, g21⟩ := rdo_Timpl_Stats g1
 obtain ⟨a22, c23, rfl⟩ := rd_sl1 g20
 obtain ⟨a24, c25, rfl⟩ := rd_sl1 g21
 unfold impl_StatsSame at H
 refine f_enter (vs := [.agg #[.slice a14 p0.Totals_.length c15, .slice a16 p0.Cells_.length c17], .agg #[.slice a22 p1.Totals_.length c23, .slice a24 p1.Cells_.length c25]]) Tryz.func86 rfl Tryz.ntmps86 rfl (St.init w []) <| c_seq <| c_reg <| ob [.slice a14 p0.Totals_.length c15, .slice a16 p0.Cells_.length c17] rfl fun b26 => ob [.slice a22 p1.Totals_.length c23, .slice a24 p1.Cells_.length c25] rfl fun b27 => ow_batch [.p] rfl <| ow_nil <| x_qs <| c_seq <| c_reg <| ow_batch [.fa 62 0 0 fa62_0] rfl <| o1 rfl (r1 0 0 rfl ty59 rfl) <| ow_batch [.fa 62 0 0 fa62_0] rfl <| o1 rfl (r1 0 1 rfl ty59 rfl) <| bE H fun y28 h29 H => oq rfl (qc rfl fn84 (fun w1 hw1 => lib_slices_Equal___int_int__ok w1  h29 (rds_bor g12 w1 hw1) (rds_bor g20 w1 hw1))) tt2 <| ow_batch [.p] rfl <| bE H fun u30 hu34 H => ow_cut [(16, .bool u30), (4, .bool false)] 6 ?_ (fun key => OW.sub (R := [(2, .pointer (some ⟨b26, 0, none⟩)), (3, .pointer (some ⟨b27, 0, none⟩)), (4, .bool false), (10, .bool y28)]) ?_ (sb rfl))
 ·exact ow_batch [.p] rfl <| ow_nil <| x_qs <| c_ret <| xr 4 rfl (by cases H; exact q1)
 ·clear H
  have H := hu34
  clear hu34
  generalize y28 = t33 at H key ⊢
  cases t33
  ·have H := of_if_f rfl H
   refine ow_batch [.p, .p, .p, .p, .p, .p] rfl ?_
   obtain rfl := of_some H
   exact OW.sub key (sb rfl)
  ·have H := of_if_t rfl H
   refine ow_batch [.fa 62 1 1 fa62_1] rfl <| o1 rfl (r1 1 0 rfl ty60 rfl) <| ow_batch [.fa 62 1 1 fa62_1] rfl <| o1 rfl (r1 1 1 rfl ty60 rfl) <| bE H fun y31 h32 H => oq rfl (qc rfl fn154 (fun w1 hw1 => impl_sameLists_ok w1  h32 (rds_bor g13 w1 hw1) (rds_bor g21 w1 hw1))) tt2 <| ow_batch [.p] rfl <| ?_
   obtain rfl := of_some H
   exact OW.sub key (sb rfl)
theorem laws_eqIntS_ok (w : World) {p0 : List Int} {p1 : List Int} {a_0 : Option Addr} {n_0 c_0 : Nat} {a_1 : Option Addr} {n_1 c_1 : Nat} {r : Bool} (H : laws_eqIntS p0 p1 = some r)  (g0 : (eList (eVal (Value.int .i64) (fun _ => rfl)) 3).rd w [] p0 [.slice a_0 n_0 c_0]) (g1 : (eList (eVal (Value.int .i64) (fun _ => rfl)) 3).rd w [] p1 [.slice a_1 n_1 c_1]) :
    Calls Tryz.prog 92 #[.slice a_0 n_0 c_0, .slice a_1 n_1 c_1] w (fun en w' => en = .returned (.bool r) ∧ Ext [] w w') := by
 obtain rfl := rd_n g0
 obtain rfl := rd_n g1
 unfold laws_eqIntS at H
 refine f_enter (vs := [.slice a_0 p0.length c_0, .slice a_1 p1.length c_1]) Tryz.func92 rfl Tryz.ntmps92 rfl (St.init w []) <| c_seq <| c_reg <| ow_batch [.p] rfl <| ow_nil <| x_qs <| c_seq <| c_seq <| c_reg <| ow_batch [.p, .lenS 59 3 sl59, .p, .lenS 59 3 sl59, .p] rfl <| ow_nil <| x_qs <| cI H rfl (fun H => ?_) (fun H => ?_)
 ·exact c_seq <| c_reg <| ow_batch [.p] rfl <| ow_nil <| x_qs <| c_ret <| x_qs_ret <| xr 4 rfl (by cases H; exact q1)
 ·refine c_skip <| x_qs <| c_seq <| c_seq <| c_reg <| ow_batch [.p] rfl <| ow_nil <| x_qs <| c_block <| CW.at (loopI1 (fun (i15 : Int) => St w [] []) (fun (i15 : Int) => [(0, .slice a_0 p0.length c_0), (1, .slice a_1 p1.length c_1), (5, .int .i64 i15)]) (fun kk => fun (i15 : Int) => laws_eqIntS_L1 p0 p1 kk i15 = some r) (fun _ H => ?_) (fun k1 ihk1 i15 H => ?_) Fuel (0) (H)) (fun _ h => St.sel [] rfl rfl h) ⟨rfl, rfl, rfl,  trivial⟩
  ·unfold laws_eqIntS_L1 at H
   exact absurd H (by simp)
  ·unfold laws_eqIntS_L1 at H
   refine c_seq <| c_seq <| c_reg <| ow_batch [.p, .p, .lenS 59 3 sl59, .p] rfl <| ow_nil <| x_qs <| cI H rfl (fun H => ?_) (fun H => ?_)
   ·refine c_skip <| x_qs <| c_seq <| c_block <| c_seq <| c_regQ mixed (by kernel_rfl) <| ow_batch [.p, .p] rfl <| bE H fun e21 h22 H => ow_ixE (e := eVal (Value.int .i64) (fun _ => rfl)) (xs := p0) (j := i15) rfl rfl rfl rfl rfl sl59 ty3 rfl (fun w1 hw1 => rds_bor g0 w1 hw1) h22 (by rw [Nat.mul_one]) <| o1 rfl (ry_load1 rfl rfl ty3 (at_elV (fun w1 hw1 => rds_bor g0 w1 hw1) h22)) <| ow_batch [.p, .p] rfl <| bE H fun e23 h24 H => ow_ixE (e := eVal (Value.int .i64) (fun _ => rfl)) (xs := p1) (j := i15) rfl rfl rfl rfl rfl sl59 ty3 rfl (fun w1 hw1 => rds_bor g1 w1 hw1) h24 (by rw [Nat.mul_one]) <| o1 rfl (ry_load1 rfl rfl ty3 (at_elV (fun w1 hw1 => rds_bor g1 w1 hw1) h24)) <| ow_batch [.p] rfl <| ow_nilQ <| x_qs <| cI H rfl (fun H => ?_) (fun H => ?_)
    ·exact c_seq <| c_reg <| ow_batch [.p] rfl <| ow_nil <| x_qs <| c_ret <| x_qb_ret <| x_qs_ret <| x_ql_ret <| x_qb_ret <| x_qs_ret <| xr 4 rfl (by cases H; exact q1)
    ·exact c_skip <| x_qb <| x_qs <| c_reg <| ow_batch [.p, .p, .p] rfl <| ow_nil <| x_ql (RW.at (ihk1 (IntKind.i64.wrap (i15 + 1)) (H)) (fun _ h => St.sel [] rfl rfl h) ⟨rfl, rfl, rfl, trivial⟩)
   ·exact c_exit <| x_qs_exit <| x_ql_exit <| x_qb_here <| x_qs <| c_seq <| c_reg <| ow_batch [.p] rfl <| ow_nil <| x_qs <| c_ret <| xr 4 rfl (by cases H; exact q1)
theorem laws_eqStringS_ok (w : World) {p0 : List (List UInt8)} {p1 : List (List UInt8)} {a_0 : Option Addr} {n_0 c_0 : Nat} {a_1 : Option Addr} {n_1 c_1 : Nat} {r : Bool} (H : laws_eqStringS p0 p1 = some r)  (g0 : (eList (eStr) 9).rd w [] p0 [.slice a_0 n_0 c_0]) (g1 : (eList (eStr) 9).rd w [] p1 [.slice a_1 n_1 c_1]) :
    Calls Tryz.prog 66 #[.slice a_0 n_0 c_0, .slice a_1 n_1 c_1] w (fun en w' => en = .returned (.bool r) ∧ Ext [] w w') := by
 obtain rfl := rd_n g0
 obtain rfl := rd_n g1
 unfold laws_eqStringS at H
 refine f_enter (vs := [.slice a_0 p0.length c_0, .slice a_1 p1.length c_1]) Tryz.func66 rfl Tryz.ntmps66 rfl (St.init w []) <| c_seq <| c_reg <| ow_batch [.p] rfl <| ow_nil <| x_qs <| c_seq <| c_seq <| c_reg <| ow_batch [.p, .lenS 23 9 sl23, .p, .lenS 23 9 sl23, .p] rfl <| ow_nil <| x_qs <| cI H rfl (fun H => ?_) (fun H => ?_)
 ·exact c_seq <| c_reg <| ow_batch [.p] rfl <| ow_nil <| x_qs <| c_ret <| x_qs_ret <| xr 4 rfl (by cases H; exact q1)
 ·refine c_skip <| x_qs <| c_seq <| c_seq <| c_reg <| ow_batch [.p] rfl <| ow_nil <| x_qs <| c_block <| CW.at (loopI1 (fun (i15 : Int) => St w [] []) (fun (i15 : Int) => [(0, .slice a_0 p0.length c_0), (1, .slice a_1 p1.length c_1), (5, .int .i64 i15)]) (fun kk => fun (i15 : Int) => laws_eqStringS_L1 p0 p1 kk i15 = some r) (fun _ H => ?_) (fun k1 ihk1 i15 H => ?_) Fuel (0) (H)) (fun _ h => St.sel [] rfl rfl h) ⟨rfl, rfl, rfl,  trivial⟩
  ·unfold laws_eqStringS_L1 at H
   exact absurd H (by simp)
  ·unfold laws_eqStringS_L1 at H
   refine c_seq <| c_seq <| c_reg <| ow_batch [.p, .p, .lenS 23 9 sl23, .p] rfl <| ow_nil <| x_qs <| cI H rfl (fun H => ?_) (fun H => ?_)
   ·refine c_skip <| x_qs <| c_seq <| c_block <| c_seq <| c_regQ mixed (by kernel_rfl) <| ow_batch [.p, .p] rfl <| bE H fun e21 h22 H => ow_ixE (e := eStr) (xs := p0) (j := i15) rfl rfl rfl rfl rfl sl23 ty9 rfl (fun w1 hw1 => rds_bor g0 w1 hw1) h22 (by rw [Nat.mul_one]) <| o1 rfl (ry_load1 rfl rfl ty9 (at_elV (fun w1 hw1 => rds_bor g0 w1 hw1) h22)) <| ow_batch [.p, .p] rfl <| bE H fun e23 h24 H => ow_ixE (e := eStr) (xs := p1) (j := i15) rfl rfl rfl rfl rfl sl23 ty9 rfl (fun w1 hw1 => rds_bor g1 w1 hw1) h24 (by rw [Nat.mul_one]) <| o1 rfl (ry_load1 rfl rfl ty9 (at_elV (fun w1 hw1 => rds_bor g1 w1 hw1) h24)) <| ow_batch [.p] rfl <| ow_nilQ <| x_qs <| cI H rfl (fun H => ?_) (fun H => ?_)
    ·exact c_seq <| c_reg <| ow_batch [.p] rfl <| ow_nil <| x_qs <| c_ret <| x_qb_ret <| x_qs_ret <| x_ql_ret <| x_qb_ret <| x_qs_ret <| xr 4 rfl (by cases H; exact q1)
    ·exact c_skip <| x_qb <| x_qs <| c_reg <| ow_batch [.p, .p, .p] rfl <| ow_nil <| x_ql (RW.at (ihk1 (IntKind.i64.wrap (i15 + 1)) (H)) (fun _ h => St.sel [] rfl rfl h) ⟨rfl, rfl, rfl, trivial⟩)
   ·exact c_exit <| x_qs_exit <| x_ql_exit <| x_qb_here <| x_qs <| c_seq <| c_reg <| ow_batch [.p] rfl <| ow_nil <| x_qs <| c_ret <| xr 4 rfl (by cases H; exact q1)
theorem laws_eqAttr_ok (w : World) {p0 : Timpl_Attr} {p1 : Timpl_Attr} {cs0 : List Value} {cs1 : List Value} {r : Bool} (H : laws_eqAttr p0 p1 = some r)  (g0 : (eTimpl_Attr).rd w [] p0 cs0) (g1 : (eTimpl_Attr).rd w [] p1 cs1) :
    Calls Tryz.prog 140 #[.agg cs0.toArray, .agg cs1.toArray] w (fun en w' => en = .returned (.bool r) ∧ Ext [] w w') := by
 obtain ⟨c10, c11, c12, rfl, g13, g14, g15⟩ := rdo_Timpl_Attr g0
 obtain rfl : c10 = [vS p0.Name_] := g13
 obtain ⟨a16, c17, rfl⟩ := rd_sl1 g14
 obtain ⟨a18, c19, rfl⟩ := rd_sl1 g15
 obtain ⟨c20, c21, c22, rfl, g23, g24, g25⟩ := rdo_Timpl_Attr g1
 obtain rfl : c20 = [vS p1.Name_] := g23
 obtain ⟨a26, c27, rfl⟩ := rd_sl1 g24
 obtain ⟨a28, c29, rfl⟩ := rd_sl1 g25
 unfold laws_eqAttr at H
 refine f_enter (vs := [.agg #[vS p0.Name_, .slice a16 p0.Cuts_.length c17, .slice a18 p0.Values_.length c19], .agg #[vS p1.Name_, .slice a26 p1.Cuts_.length c27, .slice a28 p1.Values_.length c29]]) Tryz.func140 rfl Tryz.ntmps140 rfl (St.init w []) <| c_seq <| c_reg <| ob [vS p0.Name_, .slice a16 p0.Cuts_.length c17, .slice a18 p0.Values_.length c19] rfl fun b30 => ob [vS p1.Name_, .slice a26 p1.Cuts_.length c27, .slice a28 p1.Values_.length c29] rfl fun b31 => ow_batch [.p] rfl <| ow_nil <| x_qs <| c_seq <| c_seq <| c_reg <| ow_batch [.fa 114 0 0 fa114_0] rfl <| o1 rfl (r1 0 0 rfl ty9 rfl) <| ow_batch [.fa 114 0 0 fa114_0] rfl <| o1 rfl (r1 0 1 rfl ty9 rfl) <| ow_batch [.p] rfl <| ow_nil <| x_qs <| cI H rfl (fun H => ?_) (fun H => ?_)
 ·exact c_seq <| c_reg <| ow_batch [.p] rfl <| ow_nil <| x_qs <| c_ret <| x_qs_ret <| xr 4 rfl (by cases H; exact q1)
 ·refine c_skip <| x_qs <| c_seq <| c_seq <| c_reg <| ow_batch [.fa 114 1 1 fa114_1] rfl <| o1 rfl (r1 1 0 rfl ty59 rfl) <| ow_batch [.fa 114 1 1 fa114_1] rfl <| o1 rfl (r1 1 1 rfl ty59 rfl) <| bE H fun y32 h33 H => oq rfl (qc rfl fn92 (fun w1 hw1 => laws_eqIntS_ok w1  h33 (rds_bor g14 w1 hw1) (rds_bor g24 w1 hw1))) tt2 <| ow_batch [.p] rfl <| ow_nil <| x_qs <| cI H rfl (fun H => ?_) (fun H => ?_)
  ·exact c_seq <| c_reg <| ow_batch [.p] rfl <| ow_nil <| x_qs <| c_ret <| x_qs_ret <| xr 4 rfl (by cases H; exact q1)
  ·refine c_skip <| x_qs <| c_seq <| c_seq <| c_reg <| ow_batch [.fa 114 2 2 fa114_2] rfl <| o1 rfl (r1 2 0 rfl ty23 rfl) <| ow_batch [.fa 114 2 2 fa114_2] rfl <| o1 rfl (r1 2 1 rfl ty23 rfl) <| bE H fun y34 h35 H => oq rfl (qc rfl fn66 (fun w1 hw1 => laws_eqStringS_ok w1  h35 (rds_bor g15 w1 hw1) (rds_bor g25 w1 hw1))) tt2 <| ow_batch [.p] rfl <| ow_nil <| x_qs <| cI H rfl (fun H => ?_) (fun H => ?_)
   ·exact c_seq <| c_reg <| ow_batch [.p] rfl <| ow_nil <| x_qs <| c_ret <| x_qs_ret <| xr 4 rfl (by cases H; exact q1)
   ·exact c_skip <| x_qs <| c_seq <| c_reg <| ow_batch [.p] rfl <| ow_nil <| x_qs <| c_ret <| xr 4 rfl (by cases H; exact q1)
theorem laws_eqAttrS_ok (w : World) {p0 : List Timpl_Attr} {p1 : List Timpl_Attr} {a_0 : Option Addr} {n_0 c_0 : Nat} {a_1 : Option Addr} {n_1 c_1 : Nat} {r : Bool} (H : laws_eqAttrS p0 p1 = some r)  (g0 : (eList (eTimpl_Attr) 114).rd w [] p0 [.slice a_0 n_0 c_0]) (g1 : (eList (eTimpl_Attr) 114).rd w [] p1 [.slice a_1 n_1 c_1]) :
    Calls Tryz.prog 65 #[.slice a_0 n_0 c_0, .slice a_1 n_1 c_1] w (fun en w' => en = .returned (.bool r) ∧ Ext [] w w') := by
 obtain rfl := rd_n g0
 obtain rfl := rd_n g1
 unfold laws_eqAttrS at H
 refine f_enter (vs := [.slice a_0 p0.length c_0, .slice a_1 p1.length c_1]) Tryz.func65 rfl Tryz.ntmps65 rfl (St.init w []) <| c_seq <| c_reg <| ow_batch [.p] rfl <| ow_nil <| x_qs <| c_seq <| c_seq <| c_reg <| ow_batch [.p, .lenS 33 114 sl33, .p, .lenS 33 114 sl33, .p] rfl <| ow_nil <| x_qs <| cI H rfl (fun H => ?_) (fun H => ?_)
 ·exact c_seq <| c_reg <| ow_batch [.p] rfl <| ow_nil <| x_qs <| c_ret <| x_qs_ret <| xr 4 rfl (by cases H; exact q1)
 ·refine c_skip <| x_qs <| c_seq <| c_seq <| c_reg <| ow_batch [.p] rfl <| ow_nil <| x_qs <| c_block <| CW.at (loopI1 (fun (i45 : Int) => St w [] []) (fun (i45 : Int) => [(0, .slice a_0 p0.length c_0), (1, .slice a_1 p1.length c_1), (5, .int .i64 i45)]) (fun kk => fun (i45 : Int) => laws_eqAttrS_L1 p0 p1 kk i45 = some r) (fun _ H => ?_) (fun k1 ihk1 i45 H => ?_) Fuel (0) (H)) (fun _ h => St.sel [] rfl rfl h) ⟨rfl, rfl, rfl,  trivial⟩
  ·unfold laws_eqAttrS_L1 at H
   exact absurd H (by simp)
  ·unfold laws_eqAttrS_L1 at H
   refine c_seq <| c_seq <| c_reg <| ow_batch [.p, .p, .lenS 33 114 sl33, .p] rfl <| ow_nil <| x_qs <| cI H rfl (fun H => ?_) (fun H => ?_)
   ·refine c_skip <| x_qs <| c_seq <| c_block <| c_seq <| c_regQ mixed (by kernel_rfl) <| ow_batch [.p, .p] rfl <| bE H fun e81 h82 H => ow_ixB rfl rfl rfl rfl rfl sl33 ty114 rfl g0 h82 fun q85 c86 hd83 hA84 => ?_
    obtain ⟨c87, c88, c89, rfl, g90, g91, g92⟩ := rdo_Timpl_Attr hd83
    obtain rfl : c87 = [vS e81.Name_] := g90
    obtain ⟨a93, c94, rfl⟩ := rd_sl1 g91
    obtain ⟨a95, c96, rfl⟩ := rd_sl1 g92
    refine o1 rfl (ry_load (cs := [vS e81.Name_, .slice a93 e81.Cuts_.length c94, .slice a95 e81.Values_.length c96]) rfl rfl ty114 (at_bor bor hA84) rfl) <| ow_batch [.p, .p] rfl <| bE H fun e97 h98 H => ow_ixB rfl rfl rfl rfl rfl sl33 ty114 rfl g1 h98 fun q101 c102 hd99 hA100 => ?_
    obtain ⟨c103, c104, c105, rfl, g106, g107, g108⟩ := rdo_Timpl_Attr hd99
    obtain rfl : c103 = [vS e97.Name_] := g106
    obtain ⟨a109, c110, rfl⟩ := rd_sl1 g107
    obtain ⟨a111, c112, rfl⟩ := rd_sl1 g108
    refine o1 rfl (ry_load (cs := [vS e97.Name_, .slice a109 e97.Cuts_.length c110, .slice a111 e97.Values_.length c112]) rfl rfl ty114 (at_bor bor hA100) rfl) <| bE H fun y113 h114 H => oq rfl (qc rfl fn140 (fun w1 hw1 => laws_eqAttr_ok w1 (cs0 := [vS e81.Name_, .slice a93 e81.Cuts_.length c94, .slice a95 e81.Values_.length c96]) (cs1 := [vS e97.Name_, .slice a109 e97.Cuts_.length c110, .slice a111 e97.Values_.length c112]) h114 (rdm_Timpl_Attr (x := e81) (c0 := [vS e81.Name_]) (c1 := [.slice a93 e81.Cuts_.length c94]) (c2 := [.slice a95 e81.Values_.length c96]) rfl (rds_bor g91 w1 hw1) (rds_bor g92 w1 hw1)) (rdm_Timpl_Attr (x := e97) (c0 := [vS e97.Name_]) (c1 := [.slice a109 e97.Cuts_.length c110]) (c2 := [.slice a111 e97.Values_.length c112]) rfl (rds_bor g107 w1 hw1) (rds_bor g108 w1 hw1)))) tt2 <| ow_batch [.p] rfl <| ow_nilQ <| x_qs <| cI H rfl (fun H => ?_) (fun H => ?_)
    ·exact c_seq <| c_reg <| ow_batch [.p] rfl <| ow_nil <| x_qs <| c_ret <| x_qb_ret <| x_qs_ret <| x_ql_ret <| x_qb_ret <| x_qs_ret <| xr 4 rfl (by cases H; exact q1)
    ·exact c_skip <| x_qb <| x_qs <| c_reg <| ow_batch [.p, .p, .p] rfl <| ow_nil <| x_ql (RW.at (ihk1 (IntKind.i64.wrap (i45 + 1)) (H)) (fun _ h => St.sel [] rfl rfl h) ⟨rfl, rfl, rfl, trivial⟩)
   ·exact c_exit <| x_qs_exit <| x_ql_exit <| x_qb_here <| x_qs <| c_seq <| c_reg <| ow_batch [.p] rfl <| ow_nil <| x_qs <| c_ret <| xr 4 rfl (by cases H; exact q1)
theorem laws_eqSchema_ok (w : World) {p0 : Timpl_Schema} {p1 : Timpl_Schema} {cs0 : List Value} {cs1 : List Value} {r : Bool} (H : laws_eqSchema p0 p1 = some r)  (g0 : (eTimpl_Schema).rd w [] p0 cs0) (g1 : (eTimpl_Schema).rd w [] p1 cs1) :
    Calls Tryz.prog 15 #[.agg cs0.toArray, .agg cs1.toArray] w (fun en w' => en = .returned (.bool r) ∧ Ext [] w w') := by
 obtain ⟨c10, c11, rfl, g12, g13⟩ := rdo_Timpl_Schema g0
 obtain ⟨a14, c15, rfl⟩ := rd_sl1 g12
 obtain ⟨a16, c17, rfl⟩ := rd_sl1 g13
 obtain ⟨c18, c19, rfl, g20, g21⟩ := rdo_Timpl_Schema g1
 obtain ⟨a22, c23, rfl⟩ := rd_sl1 g20
 obtain ⟨a24, c25, rfl⟩ := rd_sl1 g21
 unfold laws_eqSchema at H
 refine f_enter (vs := [.agg #[.slice a14 p0.Attrs_.length c15, .slice a16 p0.Classes_.length c17], .agg #[.slice a22 p1.Attrs_.length c23, .slice a24 p1.Classes_.length c25]]) Tryz.func15 rfl Tryz.ntmps15 rfl (St.init w []) <| c_seq <| c_reg <| ob [.slice a14 p0.Attrs_.length c15, .slice a16 p0.Classes_.length c17] rfl fun b26 => ob [.slice a22 p1.Attrs_.length c23, .slice a24 p1.Classes_.length c25] rfl fun b27 => ow_batch [.p] rfl <| ow_nil <| x_qs <| c_seq <| c_seq <| c_reg <| ow_batch [.fa 35 0 0 fa35_0] rfl <| o1 rfl (r1 0 0 rfl ty33 rfl) <| ow_batch [.fa 35 0 0 fa35_0] rfl <| o1 rfl (r1 0 1 rfl ty33 rfl) <| bE H fun y28 h29 H => oq rfl (qc rfl fn65 (fun w1 hw1 => laws_eqAttrS_ok w1  h29 (rds_bor g12 w1 hw1) (rds_bor g20 w1 hw1))) tt2 <| ow_batch [.p] rfl <| ow_nil <| x_qs <| cI H rfl (fun H => ?_) (fun H => ?_)
 ·exact c_seq <| c_reg <| ow_batch [.p] rfl <| ow_nil <| x_qs <| c_ret <| x_qs_ret <| xr 4 rfl (by cases H; exact q1)
 ·refine c_skip <| x_qs <| c_seq <| c_seq <| c_reg <| ow_batch [.fa 35 1 1 fa35_1] rfl <| o1 rfl (r1 1 0 rfl ty23 rfl) <| ow_batch [.fa 35 1 1 fa35_1] rfl <| o1 rfl (r1 1 1 rfl ty23 rfl) <| bE H fun y30 h31 H => oq rfl (qc rfl fn66 (fun w1 hw1 => laws_eqStringS_ok w1  h31 (rds_bor g13 w1 hw1) (rds_bor g21 w1 hw1))) tt2 <| ow_batch [.p] rfl <| ow_nil <| x_qs <| cI H rfl (fun H => ?_) (fun H => ?_)
  ·exact c_seq <| c_reg <| ow_batch [.p] rfl <| ow_nil <| x_qs <| c_ret <| x_qs_ret <| xr 4 rfl (by cases H; exact q1)
  ·exact c_skip <| x_qs <| c_seq <| c_reg <| ow_batch [.p] rfl <| ow_nil <| x_qs <| c_ret <| xr 4 rfl (by cases H; exact q1)
theorem laws_eqFork_ok (w : World) {p0 : Timpl_Fork} {p1 : Timpl_Fork}  {r : Bool} (H : laws_eqFork p0 p1 = some r)   :
    Calls Tryz.prog 212 #[.agg #[.int .i64 p0.Attr_, .int .i64 p0.At_], .agg #[.int .i64 p1.Attr_, .int .i64 p1.At_]] w (fun en w' => en = .returned (.bool r) ∧ Ext [] w w') := by
 unfold laws_eqFork at H
 refine f_enter (vs := [.agg #[.int .i64 p0.Attr_, .int .i64 p0.At_], .agg #[.int .i64 p1.Attr_, .int .i64 p1.At_]]) Tryz.func212 rfl Tryz.ntmps212 rfl (St.init w []) <| c_seq <| c_reg <| ob [.int .i64 p0.Attr_, .int .i64 p0.At_] rfl fun b10 => ob [.int .i64 p1.Attr_, .int .i64 p1.At_] rfl fun b11 => ow_batch [.p] rfl <| ow_nil <| x_qs <| c_seq <| c_seq <| c_reg <| ow_batch [.fa 116 0 0 fa116_0] rfl <| o1 rfl (r1 0 0 rfl ty3 rfl) <| ow_batch [.fa 116 0 0 fa116_0] rfl <| o1 rfl (r1 0 1 rfl ty3 rfl) <| ow_batch [.p] rfl <| ow_nil <| x_qs <| cI H rfl (fun H => ?_) (fun H => ?_)
 ·exact c_seq <| c_reg <| ow_batch [.p] rfl <| ow_nil <| x_qs <| c_ret <| x_qs_ret <| xr 4 rfl (by cases H; exact q1)
 ·refine c_skip <| x_qs <| c_seq <| c_seq <| c_reg <| ow_batch [.fa 116 1 1 fa116_1] rfl <| o1 rfl (r1 1 0 rfl ty3 rfl) <| ow_batch [.fa 116 1 1 fa116_1] rfl <| o1 rfl (r1 1 1 rfl ty3 rfl) <| ow_batch [.p] rfl <| ow_nil <| x_qs <| cI H rfl (fun H => ?_) (fun H => ?_)
  ·exact c_seq <| c_reg <| ow_batch [.p] rfl <| ow_nil <| x_qs <| c_ret <| x_qs_ret <| xr 4 rfl (by cases H; exact q1)
  ·exact c_skip <| x_qs <| c_seq <| c_reg <| ow_batch [.p] rfl <| ow_nil <| x_qs <| c_ret <| xr 4 rfl (by cases H; exact q1)
theorem laws_eqIntSS_ok (w : World) {p0 : List (List Int)} {p1 : List (List Int)} {a_0 : Option Addr} {n_0 c_0 : Nat} {a_1 : Option Addr} {n_1 c_1 : Nat} {r : Bool} (H : laws_eqIntSS p0 p1 = some r)  (g0 : (eList (eList (eVal (Value.int .i64) (fun _ => rfl)) 3) 59).rd w [] p0 [.slice a_0 n_0 c_0]) (g1 : (eList (eList (eVal (Value.int .i64) (fun _ => rfl)) 3) 59).rd w [] p1 [.slice a_1 n_1 c_1]) :
    Calls Tryz.prog 93 #[.slice a_0 n_0 c_0, .slice a_1 n_1 c_1] w (fun en w' => en = .returned (.bool r) ∧ Ext [] w w') := by
 obtain rfl := rd_n g0
 obtain rfl := rd_n g1
 unfold laws_eqIntSS at H
 refine f_enter (vs := [.slice a_0 p0.length c_0, .slice a_1 p1.length c_1]) Tryz.func93 rfl Tryz.ntmps93 rfl (St.init w []) <| c_seq <| c_reg <| ow_batch [.p] rfl <| ow_nil <| x_qs <| c_seq <| c_seq <| c_reg <| ow_batch [.p, .lenS 60 59 sl60, .p, .lenS 60 59 sl60, .p] rfl <| ow_nil <| x_qs <| cI H rfl (fun H => ?_) (fun H => ?_)
 ·exact c_seq <| c_reg <| ow_batch [.p] rfl <| ow_nil <| x_qs <| c_ret <| x_qs_ret <| xr 4 rfl (by cases H; exact q1)
 ·refine c_skip <| x_qs <| c_seq <| c_seq <| c_reg <| ow_batch [.p] rfl <| ow_nil <| x_qs <| c_block <| CW.at (loopI1 (fun (i29 : Int) => St w [] []) (fun (i29 : Int) => [(0, .slice a_0 p0.length c_0), (1, .slice a_1 p1.length c_1), (5, .int .i64 i29)]) (fun kk => fun (i29 : Int) => laws_eqIntSS_L1 p0 p1 kk i29 = some r) (fun _ H => ?_) (fun k1 ihk1 i29 H => ?_) Fuel (0) (H)) (fun _ h => St.sel [] rfl rfl h) ⟨rfl, rfl, rfl,  trivial⟩
  ·unfold laws_eqIntSS_L1 at H
   exact absurd H (by simp)
  ·unfold laws_eqIntSS_L1 at H
   refine c_seq <| c_seq <| c_reg <| ow_batch [.p, .p, .lenS 60 59 sl60, .p] rfl <| ow_nil <| x_qs <| cI H rfl (fun H => ?_) (fun H => ?_)
   ·refine c_skip <| x_qs <| c_seq <| c_block <| c_seq <| c_regQ mixed (by kernel_rfl) <| ow_batch [.p, .p] rfl <| bE H fun e49 h50 H => ow_ixB rfl rfl rfl rfl rfl sl60 ty59 rfl g0 h50 fun q53 c54 hd51 hA52 => ?_
    obtain ⟨a55, c56, rfl⟩ := rd_sl1 hd51
    refine o1 rfl (ry_load1 rfl rfl ty59 (at_bor bor hA52)) <| ow_batch [.p, .p] rfl <| bE H fun e57 h58 H => ow_ixB rfl rfl rfl rfl rfl sl60 ty59 rfl g1 h58 fun q61 c62 hd59 hA60 => ?_
    obtain ⟨a63, c64, rfl⟩ := rd_sl1 hd59
    refine o1 rfl (ry_load1 rfl rfl ty59 (at_bor bor hA60)) <| bE H fun y65 h66 H => oq rfl (qc rfl fn92 (fun w1 hw1 => laws_eqIntS_ok w1  h66 (rds_bor hd51 w1 hw1) (rds_bor hd59 w1 hw1))) tt2 <| ow_batch [.p] rfl <| ow_nilQ <| x_qs <| cI H rfl (fun H => ?_) (fun H => ?_)
    ·exact c_seq <| c_reg <| ow_batch [.p] rfl <| ow_nil <| x_qs <| c_ret <| x_qb_ret <| x_qs_ret <| x_ql_ret <| x_qb_ret <| x_qs_ret <| xr 4 rfl (by cases H; exact q1)
    ·exact c_skip <| x_qb <| x_qs <| c_reg <| ow_batch [.p, .p, .p] rfl <| ow_nil <| x_ql (RW.at (ihk1 (IntKind.i64.wrap (i29 + 1)) (H)) (fun _ h => St.sel [] rfl rfl h) ⟨rfl, rfl, rfl, trivial⟩)
   ·exact c_exit <| x_qs_exit <| x_ql_exit <| x_qb_here <| x_qs <| c_seq <| c_reg <| ow_batch [.p] rfl <| ow_nil <| x_qs <| c_ret <| xr 4 rfl (by cases H; exact q1)
theorem laws_eqStats_ok (w : World) {p0 : Timpl_Stats} {p1 : Timpl_Stats} {cs0 : List Value} {cs1 : List Value} {r : Bool} (H : laws_eqStats p0 p1 = some r)  (g0 : (eTimpl_Stats).rd w [] p0 cs0) (g1 : (eTimpl_Stats).rd w [] p1 cs1) :
    Calls Tryz.prog 29 #[.agg cs0.toArray, .agg cs1.toArray] w (fun en w' => en = .returned (.bool r) ∧ Ext [] w w') := by
 obtain ⟨c10, c11, rfl, g12, g13⟩ := rdo_Timpl_Stats g0
 obtain ⟨a14, c15, rfl⟩ := rd_sl1 g12
 obtain ⟨a16, c17, rfl⟩ := rd_sl1 g13
 obtain ⟨c18, c19, rfl, g20, g21⟩ := rdo_Timpl_Stats g1
 obtain ⟨a22, c23, rfl⟩ := rd_sl1 g20
 obtain ⟨a24, c25, rfl⟩ := rd_sl1 g21
 unfold laws_eqStats at H
 refine f_enter (vs := [.agg #[.slice a14 p0.Totals_.length c15, .slice a16 p0.Cells_.length c17], .agg #[.slice a22 p1.Totals_.length c23, .slice a24 p1.Cells_.length c25]]) Tryz.func29 rfl Tryz.ntmps29 rfl (St.init w []) <| c_seq <| c_reg <| ob [.slice a14 p0.Totals_.length c15, .slice a16 p0.Cells_.length c17] rfl fun b26 => ob [.slice a22 p1.Totals_.length c23, .slice a24 p1.Cells_.length c25] rfl fun b27 => ow_batch [.p] rfl <| ow_nil <| x_qs <| c_seq <| c_seq <| c_reg <| ow_batch [.fa 62 0 0 fa62_0] rfl <| o1 rfl (r1 0 0 rfl ty59 rfl) <| ow_batch [.fa 62 0 0 fa62_0] rfl <| o1 rfl (r1 0 1 rfl ty59 rfl) <| bE H fun y28 h29 H => oq rfl (qc rfl fn92 (fun w1 hw1 => laws_eqIntS_ok w1  h29 (rds_bor g12 w1 hw1) (rds_bor g20 w1 hw1))) tt2 <| ow_batch [.p] rfl <| ow_nil <| x_qs <| cI H rfl (fun H => ?_) (fun H => ?_)
 ·exact c_seq <| c_reg <| ow_batch [.p] rfl <| ow_nil <| x_qs <| c_ret <| x_qs_ret <| xr 4 rfl (by cases H; exact q1)
 ·refine c_skip <| x_qs <| c_seq <| c_seq <| c_reg <| ow_batch [.fa 62 1 1 fa62_1] rfl <| o1 rfl (r1 1 0 rfl ty60 rfl) <| ow_batch [.fa 62 1 1 fa62_1] rfl <| o1 rfl (r1 1 1 rfl ty60 rfl) <| bE H fun y30 h31 H => oq rfl (qc rfl fn93 (fun w1 hw1 => laws_eqIntSS_ok w1  h31 (rds_bor g13 w1 hw1) (rds_bor g21 w1 hw1))) tt2 <| ow_batch [.p] rfl <| ow_nil <| x_qs <| cI H rfl (fun H => ?_) (fun H => ?_)
  ·exact c_seq <| c_reg <| ow_batch [.p] rfl <| ow_nil <| x_qs <| c_ret <| x_qs_ret <| xr 4 rfl (by cases H; exact q1)
  ·exact c_skip <| x_qs <| c_seq <| c_reg <| ow_batch [.p] rfl <| ow_nil <| x_qs <| c_ret <| xr 4 rfl (by cases H; exact q1)
theorem laws_eqNode_ok (w : World) {p0 : Timpl_Node} {p1 : Timpl_Node} {cs0 : List Value} {cs1 : List Value} {r : Bool} (H : laws_eqNode p0 p1 = some r)  (g0 : (eTimpl_Node).rd w [] p0 cs0) (g1 : (eTimpl_Node).rd w [] p1 cs1) :
    Calls Tryz.prog 141 #[.agg cs0.toArray, .agg cs1.toArray] w (fun en w' => en = .returned (.bool r) ∧ Ext [] w w') := by
 obtain ⟨c10, c11, c12, c13, c14, c15, c16, c17, c18, c19, rfl, g20, g21, g22, g23, g24, g25, g26, g27, g28, g29⟩ := rdo_Timpl_Node g0
 obtain rfl : c10 = [.bool p0.Leaf_] := g20
 obtain rfl : c11 = [.int .i64 p0.Fork_.Attr_, .int .i64 p0.Fork_.At_] := g21
 obtain ⟨a30, c31, rfl⟩ := rd_sl1 g22
 obtain rfl : c13 = [.int .i64 p0.Miss_] := g23
 obtain ⟨c32, c33, rfl, g34, g35⟩ := rdo_Timpl_Stats g24
 obtain ⟨a36, c37, rfl⟩ := rd_sl1 g34
 obtain ⟨a38, c39, rfl⟩ := rd_sl1 g35
 obtain rfl : c15 = [.int .i64 p0.Since_] := g25
 obtain ⟨a40, c41, rfl⟩ := rd_sl1 g26
 obtain rfl : c17 = [.int .i64 p0.Depth_] := g27
 obtain rfl : c18 = [.int .i64 p0.Up_] := g28
 obtain rfl : c19 = [.int .i64 p0.Born_] := g29
 obtain ⟨c42, c43, c44, c45, c46, c47, c48, c49, c50, c51, rfl, g52, g53, g54, g55, g56, g57, g58, g59, g60, g61⟩ := rdo_Timpl_Node g1
 obtain rfl : c42 = [.bool p1.Leaf_] := g52
 obtain rfl : c43 = [.int .i64 p1.Fork_.Attr_, .int .i64 p1.Fork_.At_] := g53
 obtain ⟨a62, c63, rfl⟩ := rd_sl1 g54
 obtain rfl : c45 = [.int .i64 p1.Miss_] := g55
 obtain ⟨c64, c65, rfl, g66, g67⟩ := rdo_Timpl_Stats g56
 obtain ⟨a68, c69, rfl⟩ := rd_sl1 g66
 obtain ⟨a70, c71, rfl⟩ := rd_sl1 g67
 obtain rfl : c47 = [.int .i64 p1.Since_] := g57
 obtain ⟨a72, c73, rfl⟩ := rd_sl1 g58
 obtain rfl : c49 = [.int .i64 p1.Depth_] := g59
 obtain rfl : c50 = [.int .i64 p1.Up_] := g60
 obtain rfl : c51 = [.int .i64 p1.Born_] := g61
 unfold laws_eqNode at H
 refine f_enter (vs := [.agg #[.bool p0.Leaf_, .int .i64 p0.Fork_.Attr_, .int .i64 p0.Fork_.At_, .slice a30 p0.Kids_.length c31, .int .i64 p0.Miss_, .slice a36 p0.Stats_.Totals_.length c37, .slice a38 p0.Stats_.Cells_.length c39, .int .i64 p0.Since_, .slice a40 p0.Attrs_.length c41, .int .i64 p0.Depth_, .int .i64 p0.Up_, .int .i64 p0.Born_], .agg #[.bool p1.Leaf_, .int .i64 p1.Fork_.Attr_, .int .i64 p1.Fork_.At_, .slice a62 p1.Kids_.length c63, .int .i64 p1.Miss_, .slice a68 p1.Stats_.Totals_.length c69, .slice a70 p1.Stats_.Cells_.length c71, .int .i64 p1.Since_, .slice a72 p1.Attrs_.length c73, .int .i64 p1.Depth_, .int .i64 p1.Up_, .int .i64 p1.Born_]]) Tryz.func141 rfl Tryz.ntmps141 rfl (St.init w []) <| c_seq <| c_reg <| ob [.bool p0.Leaf_, .int .i64 p0.Fork_.Attr_, .int .i64 p0.Fork_.At_, .slice a30 p0.Kids_.length c31, .int .i64 p0.Miss_, .slice a36 p0.Stats_.Totals_.length c37, .slice a38 p0.Stats_.Cells_.length c39, .int .i64 p0.Since_, .slice a40 p0.Attrs_.length c41, .int .i64 p0.Depth_, .int .i64 p0.Up_, .int .i64 p0.Born_] rfl fun b74 => ob [.bool p1.Leaf_, .int .i64 p1.Fork_.Attr_, .int .i64 p1.Fork_.At_, .slice a62 p1.Kids_.length c63, .int .i64 p1.Miss_, .slice a68 p1.Stats_.Totals_.length c69, .slice a70 p1.Stats_.Cells_.length c71, .int .i64 p1.Since_, .slice a72 p1.Attrs_.length c73, .int .i64 p1.Depth_, .int .i64 p1.Up_, .int .i64 p1.Born_] rfl fun b75 => ow_batch [.p] rfl <| ow_nil <| x_qs <| c_seq <| c_seq <| c_reg <| ow_batch [.fa 118 0 0 fa118_0] rfl <| o1 rfl (r1 0 0 rfl ty4 rfl) <| ow_batch [.fa 118 0 0 fa118_0] rfl <| o1 rfl (r1 0 1 rfl ty4 rfl) <| o1 rfl (ry_bneq rfl rfl rfl bl4) <| ow_nil <| x_qs <| cI H rfl (fun H => ?_) (fun H => ?_)
 ·exact c_seq <| c_reg <| ow_batch [.p] rfl <| ow_nil <| x_qs <| c_ret <| x_qs_ret <| xr 4 rfl (by cases H; exact q1)
 ·refine c_skip <| x_qs <| c_seq <| c_seq <| c_reg <| ow_batch [.fa 118 1 1 fa118_1] rfl <| o1 rfl (rx 1 0 [.int .i64 p0.Fork_.Attr_, .int .i64 p0.Fork_.At_] rfl ty116 rfl) <| ow_batch [.fa 118 1 1 fa118_1] rfl <| o1 rfl (rx 1 1 [.int .i64 p1.Fork_.Attr_, .int .i64 p1.Fork_.At_] rfl ty116 rfl) <| bE H fun y76 h77 H => oq rfl (qc rfl fn212 (fun w1 hw1 => laws_eqFork_ok w1 (p0 := p0.Fork_) (p1 := p1.Fork_) h77)) tt2 <| ow_batch [.p] rfl <| ow_nil <| x_qs <| cI H rfl (fun H => ?_) (fun H => ?_)
  ·exact c_seq <| c_reg <| ow_batch [.p] rfl <| ow_nil <| x_qs <| c_ret <| x_qs_ret <| xr 4 rfl (by cases H; exact q1)
  ·refine c_skip <| x_qs <| c_seq <| c_seq <| c_reg <| ow_batch [.fa 118 2 3 fa118_2] rfl <| o1 rfl (r1 3 0 rfl ty59 rfl) <| ow_batch [.fa 118 2 3 fa118_2] rfl <| o1 rfl (r1 3 1 rfl ty59 rfl) <| bE H fun y78 h79 H => oq rfl (qc rfl fn92 (fun w1 hw1 => laws_eqIntS_ok w1  h79 (rds_bor g22 w1 hw1) (rds_bor g54 w1 hw1))) tt2 <| ow_batch [.p] rfl <| ow_nil <| x_qs <| cI H rfl (fun H => ?_) (fun H => ?_)
   ·exact c_seq <| c_reg <| ow_batch [.p] rfl <| ow_nil <| x_qs <| c_ret <| x_qs_ret <| xr 4 rfl (by cases H; exact q1)
   ·refine c_skip <| x_qs <| c_seq <| c_seq <| c_reg <| ow_batch [.fa 118 3 4 fa118_3] rfl <| o1 rfl (r1 4 0 rfl ty3 rfl) <| ow_batch [.fa 118 3 4 fa118_3] rfl <| o1 rfl (r1 4 1 rfl ty3 rfl) <| ow_batch [.p] rfl <| ow_nil <| x_qs <| cI H rfl (fun H => ?_) (fun H => ?_)
    ·exact c_seq <| c_reg <| ow_batch [.p] rfl <| ow_nil <| x_qs <| c_ret <| x_qs_ret <| xr 4 rfl (by cases H; exact q1)
    ·refine c_skip <| x_qs <| c_seq <| c_seq <| c_reg <| ow_batch [.fa 118 4 5 fa118_4] rfl <| o1 rfl (rx 5 0 [.slice a36 p0.Stats_.Totals_.length c37, .slice a38 p0.Stats_.Cells_.length c39] rfl ty62 rfl) <| ow_batch [.fa 118 4 5 fa118_4] rfl <| o1 rfl (rx 5 1 [.slice a68 p1.Stats_.Totals_.length c69, .slice a70 p1.Stats_.Cells_.length c71] rfl ty62 rfl) <| bE H fun y80 h81 H => oq rfl (qc rfl fn29 (fun w1 hw1 => laws_eqStats_ok w1 (cs0 := [.slice a36 p0.Stats_.Totals_.length c37, .slice a38 p0.Stats_.Cells_.length c39]) (cs1 := [.slice a68 p1.Stats_.Totals_.length c69, .slice a70 p1.Stats_.Cells_.length c71]) h81 (rdm_Timpl_Stats (x := p0.Stats_) (c0 := [.slice a36 p0.Stats_.Totals_.length c37]) (c1 := [.slice a38 p0.Stats_.Cells_.length c39]) (rds_bor g34 w1 hw1) (rds_bor g35 w1 hw1)) (rdm_Timpl_Stats (x := p1.Stats_) (c0 := [.slice a68 p1.Stats_.Totals_.length c69]) (c1 := [.slice a70 p1.Stats_.Cells_.length c71]) (rds_bor g66 w1 hw1) (rds_bor g67 w1 hw1)))) tt2 <| ow_batch [.p] rfl <| ow_nil <| x_qs <| cI H rfl (fun H => ?_) (fun H => ?_)
     ·exact c_seq <| c_reg <| ow_batch [.p] rfl <| ow_nil <| x_qs <| c_ret <| x_qs_ret <| xr 4 rfl (by cases H; exact q1)
     ·refine c_skip <| x_qs <| c_seq <| c_seq <| c_reg <| ow_batch [.fa 118 5 7 fa118_5] rfl <| o1 rfl (r1 7 0 rfl ty3 rfl) <| ow_batch [.fa 118 5 7 fa118_5] rfl <| o1 rfl (r1 7 1 rfl ty3 rfl) <| ow_batch [.p] rfl <| ow_nil <| x_qs <| cI H rfl (fun H => ?_) (fun H => ?_)
      ·exact c_seq <| c_reg <| ow_batch [.p] rfl <| ow_nil <| x_qs <| c_ret <| x_qs_ret <| xr 4 rfl (by cases H; exact q1)
      ·refine c_skip <| x_qs <| c_seq <| c_seq <| c_reg <| ow_batch [.fa 118 6 8 fa118_6] rfl <| o1 rfl (r1 8 0 rfl ty59 rfl) <| ow_batch [.fa 118 6 8 fa118_6] rfl <| o1 rfl (r1 8 1 rfl ty59 rfl) <| bE H fun y82 h83 H => oq rfl (qc rfl fn92 (fun w1 hw1 => laws_eqIntS_ok w1  h83 (rds_bor g26 w1 hw1) (rds_bor g58 w1 hw1))) tt2 <| ow_batch [.p] rfl <| ow_nil <| x_qs <| cI H rfl (fun H => ?_) (fun H => ?_)
       ·exact c_seq <| c_reg <| ow_batch [.p] rfl <| ow_nil <| x_qs <| c_ret <| x_qs_ret <| xr 4 rfl (by cases H; exact q1)
       ·refine c_skip <| x_qs <| c_seq <| c_seq <| c_reg <| ow_batch [.fa 118 7 9 fa118_7] rfl <| o1 rfl (r1 9 0 rfl ty3 rfl) <| ow_batch [.fa 118 7 9 fa118_7] rfl <| o1 rfl (r1 9 1 rfl ty3 rfl) <| ow_batch [.p] rfl <| ow_nil <| x_qs <| cI H rfl (fun H => ?_) (fun H => ?_)
        ·exact c_seq <| c_reg <| ow_batch [.p] rfl <| ow_nil <| x_qs <| c_ret <| x_qs_ret <| xr 4 rfl (by cases H; exact q1)
        ·refine c_skip <| x_qs <| c_seq <| c_seq <| c_reg <| ow_batch [.fa 118 8 10 fa118_8] rfl <| o1 rfl (r1 10 0 rfl ty3 rfl) <| ow_batch [.fa 118 8 10 fa118_8] rfl <| o1 rfl (r1 10 1 rfl ty3 rfl) <| ow_batch [.p] rfl <| ow_nil <| x_qs <| cI H rfl (fun H => ?_) (fun H => ?_)
         ·exact c_seq <| c_reg <| ow_batch [.p] rfl <| ow_nil <| x_qs <| c_ret <| x_qs_ret <| xr 4 rfl (by cases H; exact q1)
         ·refine c_skip <| x_qs <| c_seq <| c_seq <| c_reg <| ow_batch [.fa 118 9 11 fa118_9] rfl <| o1 rfl (r1 11 0 rfl ty3 rfl) <| ow_batch [.fa 118 9 11 fa118_9] rfl <| o1 rfl (r1 11 1 rfl ty3 rfl) <| ow_batch [.p] rfl <| ow_nil <| x_qs <| cI H rfl (fun H => ?_) (fun H => ?_)
          ·exact c_seq <| c_reg <| ow_batch [.p] rfl <| ow_nil <| x_qs <| c_ret <| x_qs_ret <| xr 4 rfl (by cases H; exact q1)
          ·exact c_skip <| x_qs <| c_seq <| c_reg <| ow_batch [.p] rfl <| ow_nil <| x_qs <| c_ret <| xr 4 rfl (by cases H; exact q1)
theorem laws_eqNodeS_ok (w : World) {p0 : List Timpl_Node} {p1 : List Timpl_Node} {a_0 : Option Addr} {n_0 c_0 : Nat} {a_1 : Option Addr} {n_1 c_1 : Nat} {r : Bool} (H : laws_eqNodeS p0 p1 = some r)  (g0 : (eList (eTimpl_Node) 118).rd w [] p0 [.slice a_0 n_0 c_0]) (g1 : (eList (eTimpl_Node) 118).rd w [] p1 [.slice a_1 n_1 c_1]) :
    Calls Tryz.prog 67 #[.slice a_0 n_0 c_0, .slice a_1 n_1 c_1] w (fun en w' => en = .returned (.bool r) ∧ Ext [] w w') := by
 obtain rfl := rd_n g0
 obtain rfl := rd_n g1
 unfold laws_eqNodeS at H
 refine f_enter (vs := [.slice a_0 p0.length c_0, .slice a_1 p1.length c_1]) Tryz.func67 rfl Tryz.ntmps67 rfl (St.init w []) <| c_seq <| c_reg <| ow_batch [.p] rfl <| ow_nil <| x_qs <| c_seq <| c_seq <| c_reg <| ow_batch [.p, .lenS 37 118 sl37, .p, .lenS 37 118 sl37, .p] rfl <| ow_nil <| x_qs <| cI H rfl (fun H => ?_) (fun H => ?_)
 ·exact c_seq <| c_reg <| ow_batch [.p] rfl <| ow_nil <| x_qs <| c_ret <| x_qs_ret <| xr 4 rfl (by cases H; exact q1)
 ·refine c_skip <| x_qs <| c_seq <| c_seq <| c_reg <| ow_batch [.p] rfl <| ow_nil <| x_qs <| c_block <| CW.at (loopI1 (fun (i89 : Int) => St w [] []) (fun (i89 : Int) => [(0, .slice a_0 p0.length c_0), (1, .slice a_1 p1.length c_1), (5, .int .i64 i89)]) (fun kk => fun (i89 : Int) => laws_eqNodeS_L1 p0 p1 kk i89 = some r) (fun _ H => ?_) (fun k1 ihk1 i89 H => ?_) Fuel (0) (H)) (fun _ h => St.sel [] rfl rfl h) ⟨rfl, rfl, rfl,  trivial⟩
  ·unfold laws_eqNodeS_L1 at H
   exact absurd H (by simp)
  ·unfold laws_eqNodeS_L1 at H
   refine c_seq <| c_seq <| c_reg <| ow_batch [.p, .p, .lenS 37 118 sl37, .p] rfl <| ow_nil <| x_qs <| cI H rfl (fun H => ?_) (fun H => ?_)
   ·refine c_skip <| x_qs <| c_seq <| c_block <| c_seq <| c_regQ mixed (by kernel_rfl) <| ow_batch [.p, .p] rfl <| bE H fun e169 h170 H => ow_ixB rfl rfl rfl rfl rfl sl37 ty118 rfl g0 h170 fun q173 c174 hd171 hA172 => ?_
    obtain ⟨c175, c176, c177, c178, c179, c180, c181, c182, c183, c184, rfl, g185, g186, g187, g188, g189, g190, g191, g192, g193, g194⟩ := rdo_Timpl_Node hd171
    obtain rfl : c175 = [.bool e169.Leaf_] := g185
    obtain rfl : c176 = [.int .i64 e169.Fork_.Attr_, .int .i64 e169.Fork_.At_] := g186
    obtain ⟨a195, c196, rfl⟩ := rd_sl1 g187
    obtain rfl : c178 = [.int .i64 e169.Miss_] := g188
    obtain ⟨c197, c198, rfl, g199, g200⟩ := rdo_Timpl_Stats g189
    obtain ⟨a201, c202, rfl⟩ := rd_sl1 g199
    obtain ⟨a203, c204, rfl⟩ := rd_sl1 g200
    obtain rfl : c180 = [.int .i64 e169.Since_] := g190
    obtain ⟨a205, c206, rfl⟩ := rd_sl1 g191
    obtain rfl : c182 = [.int .i64 e169.Depth_] := g192
    obtain rfl : c183 = [.int .i64 e169.Up_] := g193
    obtain rfl : c184 = [.int .i64 e169.Born_] := g194
    refine o1 rfl (ry_load (cs := [.bool e169.Leaf_, .int .i64 e169.Fork_.Attr_, .int .i64 e169.Fork_.At_, .slice a195 e169.Kids_.length c196, .int .i64 e169.Miss_, .slice a201 e169.Stats_.Totals_.length c202, .slice a203 e169.Stats_.Cells_.length c204, .int .i64 e169.Since_, .slice a205 e169.Attrs_.length c206, .int .i64 e169.Depth_, .int .i64 e169.Up_, .int .i64 e169.Born_]) rfl rfl ty118 (at_bor bor hA172) rfl) <| ow_batch [.p, .p] rfl <| bE H fun e207 h208 H => ow_ixB rfl rfl rfl rfl rfl sl37 ty118 rfl g1 h208 fun q211 c212 hd209 hA210 => ?_
    obtain ⟨c213, c214, c215, c216, c217, c218, c219, c220, c221, c222, rfl, g223, g224, g225, g226, g227, g228, g229, g230, g231, g232⟩ := rdo_Timpl_Node hd209
    obtain rfl : c213 = [.bool e207.Leaf_] := g223
    obtain rfl : c214 = [.int .i64 e207.Fork_.Attr_, .int .i64 e207.Fork_.At_] := g224
    obtain ⟨a233, c234, rfl⟩ := rd_sl1 g225
    obtain rfl : c216 = [.int .i64 e207.Miss_] := g226
    obtain ⟨c235, c236, rfl, g237, g238⟩ := rdo_Timpl_Stats g227
    obtain ⟨a239, c240, rfl⟩ := rd_sl1 g237
    obtain ⟨a241, c242, rfl⟩ := rd_sl1 g238
    obtain rfl : c218 = [.int .i64 e207.Since_] := g228
    obtain ⟨a243, c244, rfl⟩ := rd_sl1 g229
    obtain rfl : c220 = [.int .i64 e207.Depth_] := g230
    obtain rfl : c221 = [.int .i64 e207.Up_] := g231
    obtain rfl : c222 = [.int .i64 e207.Born_] := g232
    refine o1 rfl (ry_load (cs := [.bool e207.Leaf_, .int .i64 e207.Fork_.Attr_, .int .i64 e207.Fork_.At_, .slice a233 e207.Kids_.length c234, .int .i64 e207.Miss_, .slice a239 e207.Stats_.Totals_.length c240, .slice a241 e207.Stats_.Cells_.length c242, .int .i64 e207.Since_, .slice a243 e207.Attrs_.length c244, .int .i64 e207.Depth_, .int .i64 e207.Up_, .int .i64 e207.Born_]) rfl rfl ty118 (at_bor bor hA210) rfl) <| bE H fun y245 h246 H => oq rfl (qc rfl fn141 (fun w1 hw1 => laws_eqNode_ok w1 (cs0 := [.bool e169.Leaf_, .int .i64 e169.Fork_.Attr_, .int .i64 e169.Fork_.At_, .slice a195 e169.Kids_.length c196, .int .i64 e169.Miss_, .slice a201 e169.Stats_.Totals_.length c202, .slice a203 e169.Stats_.Cells_.length c204, .int .i64 e169.Since_, .slice a205 e169.Attrs_.length c206, .int .i64 e169.Depth_, .int .i64 e169.Up_, .int .i64 e169.Born_]) (cs1 := [.bool e207.Leaf_, .int .i64 e207.Fork_.Attr_, .int .i64 e207.Fork_.At_, .slice a233 e207.Kids_.length c234, .int .i64 e207.Miss_, .slice a239 e207.Stats_.Totals_.length c240, .slice a241 e207.Stats_.Cells_.length c242, .int .i64 e207.Since_, .slice a243 e207.Attrs_.length c244, .int .i64 e207.Depth_, .int .i64 e207.Up_, .int .i64 e207.Born_]) h246 (rdm_Timpl_Node (x := e169) (c0 := [.bool e169.Leaf_]) (c1 := [.int .i64 e169.Fork_.Attr_, .int .i64 e169.Fork_.At_]) (c2 := [.slice a195 e169.Kids_.length c196]) (c3 := [.int .i64 e169.Miss_]) (c4 := [.slice a201 e169.Stats_.Totals_.length c202, .slice a203 e169.Stats_.Cells_.length c204]) (c5 := [.int .i64 e169.Since_]) (c6 := [.slice a205 e169.Attrs_.length c206]) (c7 := [.int .i64 e169.Depth_]) (c8 := [.int .i64 e169.Up_]) (c9 := [.int .i64 e169.Born_]) rfl rfl (rds_bor g187 w1 hw1) rfl (rdm_Timpl_Stats (x := e169.Stats_) (c0 := [.slice a201 e169.Stats_.Totals_.length c202]) (c1 := [.slice a203 e169.Stats_.Cells_.length c204]) (rds_bor g199 w1 hw1) (rds_bor g200 w1 hw1)) rfl (rds_bor g191 w1 hw1) rfl rfl rfl) (rdm_Timpl_Node (x := e207) (c0 := [.bool e207.Leaf_]) (c1 := [.int .i64 e207.Fork_.Attr_, .int .i64 e207.Fork_.At_]) (c2 := [.slice a233 e207.Kids_.length c234]) (c3 := [.int .i64 e207.Miss_]) (c4 := [.slice a239 e207.Stats_.Totals_.length c240, .slice a241 e207.Stats_.Cells_.length c242]) (c5 := [.int .i64 e207.Since_]) (c6 := [.slice a243 e207.Attrs_.length c244]) (c7 := [.int .i64 e207.Depth_]) (c8 := [.int .i64 e207.Up_]) (c9 := [.int .i64 e207.Born_]) rfl rfl (rds_bor g225 w1 hw1) rfl (rdm_Timpl_Stats (x := e207.Stats_) (c0 := [.slice a239 e207.Stats_.Totals_.length c240]) (c1 := [.slice a241 e207.Stats_.Cells_.length c242]) (rds_bor g237 w1 hw1) (rds_bor g238 w1 hw1)) rfl (rds_bor g229 w1 hw1) rfl rfl rfl))) tt2 <| ow_batch [.p] rfl <| ow_nilQ <| x_qs <| cI H rfl (fun H => ?_) (fun H => ?_)
    ·exact c_seq <| c_reg <| ow_batch [.p] rfl <| ow_nil <| x_qs <| c_ret <| x_qb_ret <| x_qs_ret <| x_ql_ret <| x_qb_ret <| x_qs_ret <| xr 4 rfl (by cases H; exact q1)
    ·exact c_skip <| x_qb <| x_qs <| c_reg <| ow_batch [.p, .p, .p] rfl <| ow_nil <| x_ql (RW.at (ihk1 (IntKind.i64.wrap (i89 + 1)) (H)) (fun _ h => St.sel [] rfl rfl h) ⟨rfl, rfl, rfl, trivial⟩)
   ·exact c_exit <| x_qs_exit <| x_ql_exit <| x_qb_here <| x_qs <| c_seq <| c_reg <| ow_batch [.p] rfl <| ow_nil <| x_qs <| c_ret <| xr 4 rfl (by cases H; exact q1)
theorem laws_eqTree_ok (w : World) {p0 : Timpl_Tree} {p1 : Timpl_Tree} {cs0 : List Value} {cs1 : List Value} {r : Bool} (H : laws_eqTree p0 p1 = some r)  (g0 : (eTimpl_Tree).rd w [] p0 cs0) (g1 : (eTimpl_Tree).rd w [] p1 cs1) :
    Calls Tryz.prog 16 #[.agg cs0.toArray, .agg cs1.toArray] w (fun en w' => en = .returned (.bool r) ∧ Ext [] w w') := by
 obtain ⟨c10, c11, rfl, g12, g13⟩ := rdo_Timpl_Tree g0
 obtain ⟨a14, c15, rfl⟩ := rd_sl1 g12
 obtain rfl : c11 = [.int .i64 p0.Seen_] := g13
 obtain ⟨c16, c17, rfl, g18, g19⟩ := rdo_Timpl_Tree g1
 obtain ⟨a20, c21, rfl⟩ := rd_sl1 g18
 obtain rfl : c17 = [.int .i64 p1.Seen_] := g19
 unfold laws_eqTree at H
 refine f_enter (vs := [.agg #[.slice a14 p0.Nodes_.length c15, .int .i64 p0.Seen_], .agg #[.slice a20 p1.Nodes_.length c21, .int .i64 p1.Seen_]]) Tryz.func16 rfl Tryz.ntmps16 rfl (St.init w []) <| c_seq <| c_reg <| ob [.slice a14 p0.Nodes_.length c15, .int .i64 p0.Seen_] rfl fun b22 => ob [.slice a20 p1.Nodes_.length c21, .int .i64 p1.Seen_] rfl fun b23 => ow_batch [.p] rfl <| ow_nil <| x_qs <| c_seq <| c_seq <| c_reg <| ow_batch [.fa 39 0 0 fa39_0] rfl <| o1 rfl (r1 0 0 rfl ty37 rfl) <| ow_batch [.fa 39 0 0 fa39_0] rfl <| o1 rfl (r1 0 1 rfl ty37 rfl) <| bE H fun y24 h25 H => oq rfl (qc rfl fn67 (fun w1 hw1 => laws_eqNodeS_ok w1  h25 (rds_bor g12 w1 hw1) (rds_bor g18 w1 hw1))) tt2 <| ow_batch [.p] rfl <| ow_nil <| x_qs <| cI H rfl (fun H => ?_) (fun H => ?_)
 ·exact c_seq <| c_reg <| ow_batch [.p] rfl <| ow_nil <| x_qs <| c_ret <| x_qs_ret <| xr 4 rfl (by cases H; exact q1)
 ·refine c_skip <| x_qs <| c_seq <| c_seq <| c_reg <| ow_batch [.fa 39 1 1 fa39_1] rfl <| o1 rfl (r1 1 0 rfl ty3 rfl) <| ow_batch [.fa 39 1 1 fa39_1] rfl <| o1 rfl (r1 1 1 rfl ty3 rfl) <| ow_batch [.p] rfl <| ow_nil <| x_qs <| cI H rfl (fun H => ?_) (fun H => ?_)
  ·exact c_seq <| c_reg <| ow_batch [.p] rfl <| ow_nil <| x_qs <| c_ret <| x_qs_ret <| xr 4 rfl (by cases H; exact q1)
  ·exact c_skip <| x_qs <| c_seq <| c_reg <| ow_batch [.p] rfl <| ow_nil <| x_qs <| c_ret <| xr 4 rfl (by cases H; exact q1)
theorem spec_l16Power_ok (w : World) {p0 : Int}  {r : Int} (H : spec_l16Power p0 = some r)   :
    Calls Tryz.prog 127 #[.int .i64 p0] w (fun en w' => en = .returned (.int .i64 r) ∧ Ext [] w w') := by
 unfold spec_l16Power at H
 refine f_enter (vs := [.int .i64 p0]) Tryz.func127 rfl Tryz.ntmps127 rfl (St.init w []) <| c_seq <| c_reg <| ow_batch [.p] rfl <| ow_nil <| x_qs <| c_seq <| c_reg <| ow_batch [.p] rfl <| ow_nil <| x_qs <| c_seq <| c_seq <| c_reg <| ow_batch [.p] rfl <| ow_nil <| x_qs <| c_block <| CW.at (loopI2 (fun (i12 : Int) (i13 : Int) => St w [] []) (fun (i12 : Int) (i13 : Int) => [(0, .int .i64 p0), (3, .int .i64 i12), (4, .int .i64 i13)]) (fun kk => fun (i12 : Int) (i13 : Int) => spec_l16Power_L1 p0 kk i12 i13 = some r) (fun _ _ H => ?_) (fun k1 ihk1 i12 i13 H => ?_) Fuel (1) (0) (H)) (fun _ h => St.sel [] rfl rfl h) ⟨rfl, rfl, rfl,  trivial⟩
 ·unfold spec_l16Power_L1 at H
  exact absurd H (by simp)
 ·unfold spec_l16Power_L1 at H
  refine c_seq <| c_seq <| c_reg <| ow_batch [.p, .p, .p] rfl <| ow_nil <| x_qs <| cI H rfl (fun H => ?_) (fun H => ?_)
  ·exact c_skip <| x_qs <| c_seq <| c_block <| c_reg <| ow_batch [.p, .p, .p] rfl <| ow_nil <| x_qb <| x_qs <| c_reg <| ow_batch [.p, .p, .p] rfl <| ow_nil <| x_ql (RW.at (ihk1 (IntKind.i64.wrap (i12 * 2)) (IntKind.i64.wrap (i13 + 1)) (H)) (fun _ h => St.sel [] rfl rfl h) ⟨rfl, rfl, rfl, trivial⟩)
  ·exact c_exit <| x_qs_exit <| x_ql_exit <| x_qb_here <| x_qs <| c_seq <| c_reg <| ow_batch [.p, .p] rfl <| ow_nil <| x_qs <| c_ret <| xr 2 rfl (by cases H; exact q1)
theorem laws_szConf_ok (w : World) {p0 : Tlaws_Conf} {p1 : Int} {cs0 : List Value} {r : Int} (H : laws_szConf p0 p1 = some r)  (g0 : (eTlaws_Conf).rd w [] p0 cs0) :
    Calls Tryz.prog 33 #[.agg cs0.toArray, .int .i64 p1] w (fun en w' => en = .returned (.int .i64 r) ∧ Ext [] w w') := by
 obtain ⟨c10, c11, c12, c13, c14, c15, c16, rfl, g17, g18, g19, g20, g21, g22, g23⟩ := rdo_Tlaws_Conf g0
 obtain ⟨c24, c25, rfl, g26, g27⟩ := rdo_Tlaws_Schema g17
 obtain ⟨a28, c29, rfl⟩ := rd_sl1 g26
 obtain ⟨a30, c31, rfl⟩ := rd_sl1 g27
 obtain rfl : c11 = [.int .i64 p0.Rule_.Sure_, .int .i64 p0.Rule_.Tie_, .int .i64 p0.Rule_.Grace_, .int .i64 p0.Rule_.Depth_, .int .i64 p0.Rule_.Nodes_, .int .i64 p0.Rule_.Units_, .bool p0.Rule_.Two_] := g18
 obtain rfl : c12 = [.int .i64 p0.Members_] := g19
 obtain rfl : c13 = [.int .i64 p0.Pick_] := g20
 obtain rfl : c14 = [.int .i64 p0.Lambda_] := g21
 obtain rfl : c15 = [.int .i64 p0.Warn_] := g22
 obtain rfl : c16 = [.int .i64 p0.Drift_] := g23
 unfold laws_szConf at H
 refine f_enter (vs := [.agg #[.slice a28 p0.Schema_.Attrs_.length c29, .slice a30 p0.Schema_.Classes_.length c31, .int .i64 p0.Rule_.Sure_, .int .i64 p0.Rule_.Tie_, .int .i64 p0.Rule_.Grace_, .int .i64 p0.Rule_.Depth_, .int .i64 p0.Rule_.Nodes_, .int .i64 p0.Rule_.Units_, .bool p0.Rule_.Two_, .int .i64 p0.Members_, .int .i64 p0.Pick_, .int .i64 p0.Lambda_, .int .i64 p0.Warn_, .int .i64 p0.Drift_], .int .i64 p1]) Tryz.func33 rfl Tryz.ntmps33 rfl (St.init w []) <| c_seq <| c_reg <| ob [.slice a28 p0.Schema_.Attrs_.length c29, .slice a30 p0.Schema_.Classes_.length c31, .int .i64 p0.Rule_.Sure_, .int .i64 p0.Rule_.Tie_, .int .i64 p0.Rule_.Grace_, .int .i64 p0.Rule_.Depth_, .int .i64 p0.Rule_.Nodes_, .int .i64 p0.Rule_.Units_, .bool p0.Rule_.Two_, .int .i64 p0.Members_, .int .i64 p0.Pick_, .int .i64 p0.Lambda_, .int .i64 p0.Warn_, .int .i64 p0.Drift_] rfl fun b32 => ow_batch [.p] rfl <| ow_nil <| x_qs <| c_seq <| c_reg <| ow_batch [.fa 69 0 0 fa69_0] rfl <| o1 rfl (rx 0 0 [.slice a28 p0.Schema_.Attrs_.length c29, .slice a30 p0.Schema_.Classes_.length c31] rfl ty25 rfl) <| ow_batch [.p] rfl <| bE H fun y33 h34 H => oq rfl (qc rfl fn8 (fun w1 hw1 => laws_szSchema_ok w1 (cs0 := [.slice a28 p0.Schema_.Attrs_.length c29, .slice a30 p0.Schema_.Classes_.length c31]) h34 (rdm_Tlaws_Schema (x := p0.Schema_) (c0 := [.slice a28 p0.Schema_.Attrs_.length c29]) (c1 := [.slice a30 p0.Schema_.Classes_.length c31]) (rds_bor g26 w1 hw1) (rds_bor g27 w1 hw1)))) tt2 <| ow_batch [.p] rfl <| ow_nil <| x_qs <| c_seq <| c_seq <| c_reg <| ow_batch [.p, .p] rfl <| ow_nil <| x_qs <| cI H rfl (fun H => ?_) (fun H => ?_)
 ·exact c_seq <| c_reg <| ow_batch [.p] rfl <| ow_nil <| x_qs <| c_ret <| x_qs_ret <| xr 4 rfl (by cases H; exact q1)
 ·exact c_skip <| x_qs <| c_seq <| c_reg <| ow_batch [.p, .p] rfl <| ow_nil <| x_qs <| c_ret <| xr 4 rfl (by cases H; exact q1)
theorem laws_szWindow_ok (w : World) {p0 : Tlaws_Window} {p1 : Int} {cs0 : List Value} {r : Int} (H : laws_szWindow p0 p1 = some r)  (g0 : (eTlaws_Window).rd w [] p0 cs0) :
    Calls Tryz.prog 268 #[.agg cs0.toArray, .int .i64 p1] w (fun en w' => en = .returned (.int .i64 r) ∧ Ext [] w w') := by
 obtain ⟨c10, rfl, g11⟩ := rdo_Tlaws_Window g0
 obtain ⟨a12, c13, rfl⟩ := rd_sl1 g11
 unfold laws_szWindow at H
 refine f_enter (vs := [.agg #[.slice a12 p0.Rows_.length c13], .int .i64 p1]) Tryz.func268 rfl Tryz.ntmps268 rfl (St.init w []) <| c_seq <| c_reg <| ob [.slice a12 p0.Rows_.length c13] rfl fun b14 => ow_batch [.p] rfl <| ow_nil <| x_qs <| c_seq <| c_reg <| ow_batch [.fa 261 0 0 fa261_0] rfl <| o1 rfl (r1 0 0 rfl ty60 rfl) <| ow_batch [.p] rfl <| bE H fun y15 h16 H => oq rfl (qc rfl fn177 (fun w1 hw1 => laws_szIntSS_ok w1  h16 (rds_bor g11 w1 hw1))) tt2 <| ow_batch [.p] rfl <| ow_nil <| x_qs <| c_seq <| c_seq <| c_reg <| ow_batch [.p, .p] rfl <| ow_nil <| x_qs <| cI H rfl (fun H => ?_) (fun H => ?_)
 ·exact c_seq <| c_reg <| ow_batch [.p] rfl <| ow_nil <| x_qs <| c_ret <| x_qs_ret <| xr 4 rfl (by cases H; exact q1)
 ·exact c_skip <| x_qs <| c_seq <| c_reg <| ow_batch [.p, .p] rfl <| ow_nil <| x_qs <| c_ret <| xr 4 rfl (by cases H; exact q1)
theorem laws_szDet_ok (w : World) {p0 : Tlaws_Det} {p1 : Int} {cs0 : List Value} {r : Int} (H : laws_szDet p0 p1 = some r)  (g0 : (eTlaws_Det).rd w [] p0 cs0) :
    Calls Tryz.prog 249 #[.agg cs0.toArray, .int .i64 p1] w (fun en w' => en = .returned (.int .i64 r) ∧ Ext [] w w') := by
 obtain ⟨c10, c11, rfl, g12, g13⟩ := rdo_Tlaws_Det g0
 obtain ⟨c14, rfl, g15⟩ := rdo_Tlaws_Window g12
 obtain ⟨a16, c17, rfl⟩ := rd_sl1 g15
 obtain ⟨c18, rfl, g19⟩ := rdo_Tlaws_Window g13
 obtain ⟨a20, c21, rfl⟩ := rd_sl1 g19
 unfold laws_szDet at H
 refine f_enter (vs := [.agg #[.slice a16 p0.Warn_.Rows_.length c17, .slice a20 p0.Drift_.Rows_.length c21], .int .i64 p1]) Tryz.func249 rfl Tryz.ntmps249 rfl (St.init w []) <| c_seq <| c_reg <| ob [.slice a16 p0.Warn_.Rows_.length c17, .slice a20 p0.Drift_.Rows_.length c21] rfl fun b22 => ow_batch [.p] rfl <| ow_nil <| x_qs <| c_seq <| c_reg <| ow_batch [.fa 263 0 0 fa263_0] rfl <| o1 rfl (rx 0 0 [.slice a16 p0.Warn_.Rows_.length c17] rfl ty261 rfl) <| ow_batch [.p] rfl <| bE H fun y23 h24 H => oq rfl (qc rfl fn268 (fun w1 hw1 => laws_szWindow_ok w1 (cs0 := [.slice a16 p0.Warn_.Rows_.length c17]) h24 (rdm_Tlaws_Window (x := p0.Warn_) (c0 := [.slice a16 p0.Warn_.Rows_.length c17]) (rds_bor g15 w1 hw1)))) tt2 <| ow_batch [.p] rfl <| ow_nil <| x_qs <| c_seq <| c_seq <| c_reg <| ow_batch [.p, .p] rfl <| ow_nil <| x_qs <| cI H rfl (fun H => ?_) (fun H => ?_)
 ·exact c_seq <| c_reg <| ow_batch [.p] rfl <| ow_nil <| x_qs <| c_ret <| x_qs_ret <| xr 4 rfl (by cases H; exact q1)
 ·refine c_skip <| x_qs <| c_seq <| c_reg <| ow_batch [.fa 263 1 1 fa263_1] rfl <| o1 rfl (rx 1 0 [.slice a20 p0.Drift_.Rows_.length c21] rfl ty261 rfl) <| ow_batch [.p] rfl <| bE H fun y25 h26 H => oq rfl (qc rfl fn268 (fun w1 hw1 => laws_szWindow_ok w1 (cs0 := [.slice a20 p0.Drift_.Rows_.length c21]) h26 (rdm_Tlaws_Window (x := p0.Drift_) (c0 := [.slice a20 p0.Drift_.Rows_.length c21]) (rds_bor g19 w1 hw1)))) tt2 <| ow_batch [.p] rfl <| ow_nil <| x_qs <| c_seq <| c_seq <| c_reg <| ow_batch [.p, .p] rfl <| ow_nil <| x_qs <| cI H rfl (fun H => ?_) (fun H => ?_)
  ·exact c_seq <| c_reg <| ow_batch [.p] rfl <| ow_nil <| x_qs <| c_ret <| x_qs_ret <| xr 4 rfl (by cases H; exact q1)
  ·exact c_skip <| x_qs <| c_seq <| c_reg <| ow_batch [.p, .p] rfl <| ow_nil <| x_qs <| c_ret <| xr 4 rfl (by cases H; exact q1)
theorem laws_szMember_ok (w : World) {p0 : Tlaws_Member} {p1 : Int} {cs0 : List Value} {r : Int} (H : laws_szMember p0 p1 = some r)  (g0 : (eTlaws_Member).rd w [] p0 cs0) :
    Calls Tryz.prog 229 #[.agg cs0.toArray, .int .i64 p1] w (fun en w' => en = .returned (.int .i64 r) ∧ Ext [] w w') := by
 obtain ⟨c10, c11, c12, c13, rfl, g14, g15, g16, g17⟩ := rdo_Tlaws_Member g0
 obtain ⟨c18, c19, rfl, g20, g21⟩ := rdo_Tlaws_Tree g14
 obtain ⟨a22, c23, rfl⟩ := rd_sl1 g20
 obtain rfl : c19 = [.int .i64 p0.Tree_.Seen_] := g21
 obtain rfl : c11 = [.bool p0.HasYoung_] := g15
 obtain ⟨c24, c25, rfl, g26, g27⟩ := rdo_Tlaws_Tree g16
 obtain ⟨a28, c29, rfl⟩ := rd_sl1 g26
 obtain rfl : c25 = [.int .i64 p0.Young_.Seen_] := g27
 obtain ⟨c30, c31, rfl, g32, g33⟩ := rdo_Tlaws_Det g17
 obtain ⟨c34, rfl, g35⟩ := rdo_Tlaws_Window g32
 obtain ⟨a36, c37, rfl⟩ := rd_sl1 g35
 obtain ⟨c38, rfl, g39⟩ := rdo_Tlaws_Window g33
 obtain ⟨a40, c41, rfl⟩ := rd_sl1 g39
 unfold laws_szMember at H
 refine f_enter (vs := [.agg #[.slice a22 p0.Tree_.Nodes_.length c23, .int .i64 p0.Tree_.Seen_, .bool p0.HasYoung_, .slice a28 p0.Young_.Nodes_.length c29, .int .i64 p0.Young_.Seen_, .slice a36 p0.Det_.Warn_.Rows_.length c37, .slice a40 p0.Det_.Drift_.Rows_.length c41], .int .i64 p1]) Tryz.func229 rfl Tryz.ntmps229 rfl (St.init w []) <| c_seq <| c_reg <| ob [.slice a22 p0.Tree_.Nodes_.length c23, .int .i64 p0.Tree_.Seen_, .bool p0.HasYoung_, .slice a28 p0.Young_.Nodes_.length c29, .int .i64 p0.Young_.Seen_, .slice a36 p0.Det_.Warn_.Rows_.length c37, .slice a40 p0.Det_.Drift_.Rows_.length c41] rfl fun b42 => ow_batch [.p] rfl <| ow_nil <| x_qs <| c_seq <| c_reg <| ow_batch [.fa 265 0 0 fa265_0] rfl <| o1 rfl (rx 0 0 [.slice a22 p0.Tree_.Nodes_.length c23, .int .i64 p0.Tree_.Seen_] rfl ty28 rfl) <| ow_batch [.p] rfl <| bE H fun y43 h44 H => oq rfl (qc rfl fn9 (fun w1 hw1 => laws_szTree_ok w1 (cs0 := [.slice a22 p0.Tree_.Nodes_.length c23, .int .i64 p0.Tree_.Seen_]) h44 (rdm_Tlaws_Tree (x := p0.Tree_) (c0 := [.slice a22 p0.Tree_.Nodes_.length c23]) (c1 := [.int .i64 p0.Tree_.Seen_]) (rds_bor g20 w1 hw1) rfl))) tt2 <| ow_batch [.p] rfl <| ow_nil <| x_qs <| c_seq <| c_seq <| c_reg <| ow_batch [.p, .p] rfl <| ow_nil <| x_qs <| cI H rfl (fun H => ?_) (fun H => ?_)
 ·exact c_seq <| c_reg <| ow_batch [.p] rfl <| ow_nil <| x_qs <| c_ret <| x_qs_ret <| xr 4 rfl (by cases H; exact q1)
 ·refine c_skip <| x_qs <| c_seq <| c_reg <| ow_batch [.fa 265 2 3 fa265_2] rfl <| o1 rfl (rx 3 0 [.slice a28 p0.Young_.Nodes_.length c29, .int .i64 p0.Young_.Seen_] rfl ty28 rfl) <| ow_batch [.p] rfl <| bE H fun y45 h46 H => oq rfl (qc rfl fn9 (fun w1 hw1 => laws_szTree_ok w1 (cs0 := [.slice a28 p0.Young_.Nodes_.length c29, .int .i64 p0.Young_.Seen_]) h46 (rdm_Tlaws_Tree (x := p0.Young_) (c0 := [.slice a28 p0.Young_.Nodes_.length c29]) (c1 := [.int .i64 p0.Young_.Seen_]) (rds_bor g26 w1 hw1) rfl))) tt2 <| ow_batch [.p] rfl <| ow_nil <| x_qs <| c_seq <| c_seq <| c_reg <| ow_batch [.p, .p] rfl <| ow_nil <| x_qs <| cI H rfl (fun H => ?_) (fun H => ?_)
  ·exact c_seq <| c_reg <| ow_batch [.p] rfl <| ow_nil <| x_qs <| c_ret <| x_qs_ret <| xr 4 rfl (by cases H; exact q1)
  ·refine c_skip <| x_qs <| c_seq <| c_reg <| ow_batch [.fa 265 3 5 fa265_3] rfl <| o1 rfl (rx 5 0 [.slice a36 p0.Det_.Warn_.Rows_.length c37, .slice a40 p0.Det_.Drift_.Rows_.length c41] rfl ty263 rfl) <| ow_batch [.p] rfl <| bE H fun y47 h48 H => oq rfl (qc rfl fn249 (fun w1 hw1 => laws_szDet_ok w1 (cs0 := [.slice a36 p0.Det_.Warn_.Rows_.length c37, .slice a40 p0.Det_.Drift_.Rows_.length c41]) h48 (rdm_Tlaws_Det (x := p0.Det_) (c0 := [.slice a36 p0.Det_.Warn_.Rows_.length c37]) (c1 := [.slice a40 p0.Det_.Drift_.Rows_.length c41]) (rdm_Tlaws_Window (x := p0.Det_.Warn_) (c0 := [.slice a36 p0.Det_.Warn_.Rows_.length c37]) (rds_bor g35 w1 hw1)) (rdm_Tlaws_Window (x := p0.Det_.Drift_) (c0 := [.slice a40 p0.Det_.Drift_.Rows_.length c41]) (rds_bor g39 w1 hw1))))) tt2 <| ow_batch [.p] rfl <| ow_nil <| x_qs <| c_seq <| c_seq <| c_reg <| ow_batch [.p, .p] rfl <| ow_nil <| x_qs <| cI H rfl (fun H => ?_) (fun H => ?_)
   ·exact c_seq <| c_reg <| ow_batch [.p] rfl <| ow_nil <| x_qs <| c_ret <| x_qs_ret <| xr 4 rfl (by cases H; exact q1)
   ·exact c_skip <| x_qs <| c_seq <| c_reg <| ow_batch [.p, .p] rfl <| ow_nil <| x_qs <| c_ret <| xr 4 rfl (by cases H; exact q1)
end Go.Vk
