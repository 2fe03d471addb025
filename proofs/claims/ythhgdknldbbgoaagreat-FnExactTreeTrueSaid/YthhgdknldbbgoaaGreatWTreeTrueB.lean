/- The code does what the functions of data say. Printed by program. -/
import Derived.Test.YthhgdknldbbgoaaGreatWTreeTrueA
namespace Go.Vk
open Go.Proofs Go.RowKit
set_option maxHeartbeats 4000000
set_option maxRecDepth 100000
theorem spec_l19Split_ok (w : World) {p0 : Timpl_Schema} {p1 : Timpl_Tree} {p2 : Int} {cs0 : List Value} {cs1 : List Value} {r : Bool} (H : spec_l19Split p0 p1 p2 = some r)  (g0 : (eTimpl_Schema).rd w [] p0 cs0) (g1 : (eTimpl_Tree).rd w [] p1 cs1) :
    Calls Tryz.prog 49 #[.agg cs0.toArray, .agg cs1.toArray, .int .i64 p2] w (fun en w' => en = .returned (.bool r) ∧ Ext [] w w') := by
 obtain ⟨c10, c11, rfl, g12, g13⟩ := rdo_Timpl_Schema g0
 obtain ⟨a14, c15, rfl⟩ := rd_sl1 g12
 obtain ⟨a16, c17, rfl⟩ := rd_sl1 g13
 obtain ⟨c18, c19, rfl, g20, g21⟩ := rdo_Timpl_Tree g1
 obtain ⟨a22, c23, rfl⟩ := rd_sl1 g20
 obtain rfl := g21
 unfold spec_l19Split at H
 refine f_enter Tryz.func49 rfl Tryz.ntmps49 rfl (St.init w []) <| sR <| ob _ rfl fun b24 => ob _ rfl fun b25 => oP rfl <| nR <| ow_batch [.fa 44 0 0 fa44_0] rfl <| o1 rfl (r1 0 1 rfl ty42 rfl) <| oP rfl <| bE H fun e26 h27 H => ow_ixB rfl rfl rfl rfl rfl sl42 ty70 rfl g20 h27 fun q30 c31 hd28 hA29 => ?_
 obtain ⟨c32, c33, c34, c35, c36, c37, c38, c39, c40, c41, rfl, g42, g43, g44, g45, g46, g47, g48, g49, g50, g51⟩ := rdo_Timpl_Node hd28
 obtain rfl := g42
 obtain rfl := g43
 obtain ⟨a52, c53, rfl⟩ := rd_sl1 g44
 obtain rfl := g45
 obtain ⟨c54, c55, rfl, g56, g57⟩ := rdo_Timpl_Stats g46
 obtain ⟨a58, c59, rfl⟩ := rd_sl1 g56
 obtain ⟨a60, c61, rfl⟩ := rd_sl1 g57
 obtain rfl := g47
 obtain ⟨a62, c63, rfl⟩ := rd_sl1 g48
 obtain rfl := g49
 obtain rfl := g50
 obtain rfl := g51
 refine o1 rfl (ry_load (cs := [.bool e26.Leaf_, .int .i64 e26.Fork_.Attr_, .int .i64 e26.Fork_.At_, .slice a52 e26.Kids_.length c53, .int .i64 e26.Miss_, .slice a58 e26.Stats_.Totals_.length c59, .slice a60 e26.Stats_.Cells_.length c61, .int .i64 e26.Since_, .slice a62 e26.Attrs_.length c63, .int .i64 e26.Depth_, .int .i64 e26.Up_, .int .i64 e26.Born_]) rfl rfl ty70 (at_bor bor hA29) rfl) <| ow_alloc rfl rfl rfl rfl ty70 (fun _ => kp) fun b64 => sC 0 [.bool e26.Leaf_, .int .i64 e26.Fork_.Attr_, .int .i64 e26.Fork_.At_, .slice a52 e26.Kids_.length c53, .int .i64 e26.Miss_, .slice a58 e26.Stats_.Totals_.length c59, .slice a60 e26.Stats_.Cells_.length c61, .int .i64 e26.Since_, .slice a62 e26.Attrs_.length c63, .int .i64 e26.Depth_, .int .i64 e26.Up_, .int .i64 e26.Born_] [_, _, _, _, _, _, _, _, _, _, _, _] 2 rfl ty70 rfl <| nQ <| c_seq <| c_seq <| c_regQ mixed (by kernel_rfl) <| o1 rfl (rx 0 0 _ rfl ty38 rfl) <| ow_batch [.fa 70 1 1 fa70_1] rfl <| o1 rfl (rx 1 2 _ rfl ty65 rfl) <| bE H fun y65 h66 H => oq rfl (qc rfl fn80 (fun w1 hw1 => spec_ForkOk_ok w1 (p1 := e26.Fork_) h66 (rdm_Timpl_Schema (rds_bor g12 w1 hw1) (rds_bor g13 w1 hw1)))) tt2 <| oPP rfl <| bE H fun u67 hu71 H => ow_cut [(28, .bool u67), (2, .int .i64 p2), (3, .pointer (some ⟨b24, 0, none⟩)), (4, .pointer (some ⟨b25, 0, none⟩)), (7, .pointer (some ⟨b64, 0, none⟩))] 9 ?_ (fun key => OW.sub (R := [(2, .int .i64 p2), (3, .pointer (some ⟨b24, 0, none⟩)), (4, .pointer (some ⟨b25, 0, none⟩)), (7, .pointer (some ⟨b64, 0, none⟩)), (19, .bool (!y65))]) ?_ (sb rfl))
 ·refine oP rfl <| bE H fun u72 hu76 H => ow_cut [(38, .bool u72), (2, .int .i64 p2), (3, .pointer (some ⟨b24, 0, none⟩)), (4, .pointer (some ⟨b25, 0, none⟩)), (7, .pointer (some ⟨b64, 0, none⟩))] 9 ?_ (fun key => OW.sub (R := [(2, .int .i64 p2), (3, .pointer (some ⟨b24, 0, none⟩)), (4, .pointer (some ⟨b25, 0, none⟩)), (7, .pointer (some ⟨b64, 0, none⟩)), (29, .bool u67)]) ?_ (sb rfl))
  ·refine oP rfl <| bE H fun u77 hu81 H => ow_cut [(45, .bool u77), (2, .int .i64 p2), (3, .pointer (some ⟨b24, 0, none⟩)), (4, .pointer (some ⟨b25, 0, none⟩)), (7, .pointer (some ⟨b64, 0, none⟩))] 6 ?_ (fun key => OW.sub (R := [(2, .int .i64 p2), (3, .pointer (some ⟨b24, 0, none⟩)), (4, .pointer (some ⟨b25, 0, none⟩)), (7, .pointer (some ⟨b64, 0, none⟩)), (39, .bool u72)]) ?_ (sb rfl))
   ·refine oP rfl <| ow_cut [(52, .bool (u77 || (decide ((e26.Stats_.Cells_.length : Int) > 0)))), (2, .int .i64 p2), (3, .pointer (some ⟨b24, 0, none⟩)), (4, .pointer (some ⟨b25, 0, none⟩)), (7, .pointer (some ⟨b64, 0, none⟩))] 6 ?_ (fun key => OW.sub (R := [(2, .int .i64 p2), (3, .pointer (some ⟨b24, 0, none⟩)), (4, .pointer (some ⟨b25, 0, none⟩)), (7, .pointer (some ⟨b64, 0, none⟩)), (46, .bool u77)]) ?_ (sb rfl))
    ·refine oP rfl <| ow_cut [(57, .bool ((u77 || (decide ((e26.Stats_.Cells_.length : Int) > 0))) || (e26.Since_ != 0))), (2, .int .i64 p2), (3, .pointer (some ⟨b24, 0, none⟩)), (4, .pointer (some ⟨b25, 0, none⟩)), (7, .pointer (some ⟨b64, 0, none⟩))] 4 ?_ (fun key => OW.sub (R := [(2, .int .i64 p2), (3, .pointer (some ⟨b24, 0, none⟩)), (4, .pointer (some ⟨b25, 0, none⟩)), (7, .pointer (some ⟨b64, 0, none⟩)), (53, .bool (u77 || (decide ((e26.Stats_.Cells_.length : Int) > 0))))]) ?_ (sb rfl))
     ·refine oP rfl <| bE H fun u86 hu90 H => ow_cut [(64, .bool u86), (2, .int .i64 p2), (4, .pointer (some ⟨b25, 0, none⟩)), (7, .pointer (some ⟨b64, 0, none⟩))] 6 ?_ (fun key => OW.sub (R := [(2, .int .i64 p2), (3, .pointer (some ⟨b24, 0, none⟩)), (4, .pointer (some ⟨b25, 0, none⟩)), (7, .pointer (some ⟨b64, 0, none⟩)), (58, .bool ((u77 || (decide ((e26.Stats_.Cells_.length : Int) > 0))) || (e26.Since_ != 0)))]) ?_ (sb rfl))
      ·refine ow_nilQ <| x_qs <| cI H rfl (fun H => ?_) (fun H => ?_)
       ·exact sR <| oP rfl <| nT <| x_qs_ret <| xr 6 rfl (by cases H; exact q1)
       ·refine c_skip <| x_qs <| c_seq <| sR <| oP rfl <| nQ <| c_block <| CW.at (loopI1 (fun (i149 : Int) => St w [] [Res.box b25 44 [.slice a22 p1.Nodes_.length c23, .int .i64 p1.Seen_], Res.box b64 70 [.bool e26.Leaf_, .int .i64 e26.Fork_.Attr_, .int .i64 e26.Fork_.At_, .slice a52 e26.Kids_.length c53, .int .i64 e26.Miss_, .slice a58 e26.Stats_.Totals_.length c59, .slice a60 e26.Stats_.Cells_.length c61, .int .i64 e26.Since_, .slice a62 e26.Attrs_.length c63, .int .i64 e26.Depth_, .int .i64 e26.Up_, .int .i64 e26.Born_]]) (fun i149 => [(2, .int .i64 p2), (4, .pointer (some ⟨b25, 0, none⟩)), (7, .pointer (some ⟨b64, 0, none⟩)), (8, .int .i64 i149)]) (fun kk => fun i149 => spec_l19Split_L1 e26 p2 p1 kk i149 = some r) (fun _ H => ?_) (fun k1 ihk1 i149 H => ?_) Fuel (0) (H)) (fun _ h => St.sel [1, 2] rfl rfl h) ⟨rfl, rfl, rfl, rfl, trivial⟩
        ·unfold spec_l19Split_L1 at H
         exact absurd H (by simp)
        ·unfold spec_l19Split_L1 at H
         refine c_seq <| sR <| ow_batch [.p, .fa 70 2 3 fa70_2] rfl <| o1 rfl (r1 3 1 rfl ty56 rfl) <| ow_batch [.lenS 56 3 sl56, .p] rfl <| nQ <| cI H rfl (fun H => ?_) (fun H => ?_)
         ·refine c_skip <| x_qs <| c_seq <| c_block <| c_seq <| c_regQ mixed (by kernel_rfl) <| ow_batch [.fa 70 2 3 fa70_2] rfl <| o1 rfl (r1 3 1 rfl ty56 rfl) <| oP rfl <| bE H fun e208 h209 H => ow_ixE (e := eI) (xs := e26.Kids_) (j := i149) rfl rfl rfl rfl rfl sl56 ty3 rfl (fun w1 hw1 => rds_bor g44 w1 hw1) h209 (by rw [Nat.mul_one]) <| o1 rfl (ry_load1 rfl rfl ty3 (at_elV (fun w1 hw1 => rds_bor g44 w1 hw1) h209)) <| ow_batch [.p, .p, .fa 44 0 0 fa44_0] rfl <| o1 rfl (r1 0 0 rfl ty42 rfl) <| ow_batch [.lenS 42 70 sl42, .p] rfl <| bE H fun y210 h211 H => oq rfl (qc rfl fn47 (fun w1 hw1 => spec_l1In_ok w1  h211)) tt2 <| oPP rfl <| bE H fun u212 hu254 H => ow_cut [(98, .bool u212), (2, .int .i64 p2), (4, .pointer (some ⟨b25, 0, none⟩)), (7, .pointer (some ⟨b64, 0, none⟩)), (8, .int .i64 i149)] 13 ?_ (fun key => OW.sub (R := [(2, .int .i64 p2), (4, .pointer (some ⟨b25, 0, none⟩)), (7, .pointer (some ⟨b64, 0, none⟩)), (8, .int .i64 i149), (85, .bool (!y210))]) ?_ (sb rfl))
          ·refine oP rfl <| bE H fun u255 hu264 H => ow_cut [(116, .bool u255), (2, .int .i64 p2), (4, .pointer (some ⟨b25, 0, none⟩)), (7, .pointer (some ⟨b64, 0, none⟩)), (8, .int .i64 i149)] 17 ?_ (fun key => OW.sub (R := [(2, .int .i64 p2), (4, .pointer (some ⟨b25, 0, none⟩)), (7, .pointer (some ⟨b64, 0, none⟩)), (8, .int .i64 i149), (99, .bool u212)]) ?_ (sb rfl))
           ·refine ow_nilQ <| x_qs <| cI H rfl (fun H => ?_) (fun H => ?_)
            ·exact sR <| oP rfl <| nT <| x_qb_ret <| x_qs_ret <| x_ql_ret <| x_qb_ret <| x_qs_ret <| xr 6 rfl (by cases H; exact q1)
            ·exact c_skip <| x_qb <| x_qs <| c_reg <| ow_batch [.p, .p, .p] rfl <| ow_nil <| x_ql (RW.at (ihk1 (IntKind.i64.wrap (i149 + 1)) (H)) (fun _ h => St.sel [0, 1] rfl rfl h) ⟨rfl, rfl, rfl, rfl, trivial⟩)
           ·clear H
            have H := hu264
            clear hu264
            generalize u212 = t263 at H key ⊢
            cases t263
            ·have H := of_if_f rfl H
             refine ow_batch [.p, .p, .p] rfl <| bE H fun u256 hu262 H => ow_cut [(115, .bool u256), (2, .int .i64 p2), (4, .pointer (some ⟨b25, 0, none⟩)), (7, .pointer (some ⟨b64, 0, none⟩)), (8, .int .i64 i149), (99, .bool false)] 13 ?_ (fun key => OW.sub (R := [(2, .int .i64 p2), (4, .pointer (some ⟨b25, 0, none⟩)), (7, .pointer (some ⟨b64, 0, none⟩)), (8, .int .i64 i149), (99, .bool false), (102, .bool (decide (i149 > 0)))]) ?_ (sb rfl))
             ·refine ow_batch [.p] rfl ?_
              obtain rfl := of_some H
              exact OW.sub key (sb rfl)
             ·clear H
              have H := hu262
              clear hu262
              generalize (decide (i149 > 0)) = t261 at H key ⊢
              cases t261
              ·have H := of_if_f rfl H
               refine ow_batch [.p, .p, .p, .p, .p, .p, .p, .p, .p, .p, .p, .p, .p] rfl ?_
               obtain rfl := of_some H
               exact OW.sub key (sb rfl)
              ·have H := of_if_t rfl H
               refine ow_batch [.fa 70 2 3 fa70_2] rfl <| o1 rfl (r1 3 1 rfl ty56 rfl) <| oP rfl <| bE H fun e257 h258 H => ow_ixE (e := eI) (xs := e26.Kids_) (j := i149) rfl rfl rfl rfl rfl sl56 ty3 rfl (fun w1 hw1 => rds_bor g44 w1 hw1) h258 (by rw [Nat.mul_one]) <| o1 rfl (ry_load1 rfl rfl ty3 (at_elV (fun w1 hw1 => rds_bor g44 w1 hw1) h258)) <| ow_batch [.fa 70 2 3 fa70_2] rfl <| o1 rfl (r1 3 1 rfl ty56 rfl) <| oPP rfl <| bE H fun e259 h260 H => ow_ixE (e := eI) (xs := e26.Kids_) (j := IntKind.i64.wrap (i149 - 1)) rfl rfl rfl rfl rfl sl56 ty3 rfl (fun w1 hw1 => rds_bor g44 w1 hw1) h260 (by rw [Nat.mul_one]) <| o1 rfl (ry_load1 rfl rfl ty3 (at_elV (fun w1 hw1 => rds_bor g44 w1 hw1) h260)) <| oP rfl <| oP rfl <| ?_
               obtain rfl := of_some H
               exact OW.sub key (sb rfl)
            ·have H := of_if_t rfl H
             refine ow_batch [.p, .p, .p, .p, .p, .p, .p, .p, .p, .p, .p, .p, .p, .p, .p, .p, .p] rfl ?_
             obtain rfl := of_some H
             exact OW.sub key (sb rfl)
          ·clear H
           have H := hu254
           clear hu254
           generalize (!y210) = t253 at H key ⊢
           cases t253
           ·have H := of_if_f rfl H
            refine ow_batch [.fa 44 0 0 fa44_0] rfl <| o1 rfl (r1 0 0 rfl ty42 rfl) <| ow_batch [.fa 70 2 3 fa70_2] rfl <| o1 rfl (r1 3 1 rfl ty56 rfl) <| oP rfl <| bE H fun e213 h214 H => ow_ixE (e := eI) (xs := e26.Kids_) (j := i149) rfl rfl rfl rfl rfl sl56 ty3 rfl (fun w1 hw1 => rds_bor g44 w1 hw1) h214 (by rw [Nat.mul_one]) <| o1 rfl (ry_load1 rfl rfl ty3 (at_elV (fun w1 hw1 => rds_bor g44 w1 hw1) h214)) <| bE H fun e215 h216 H => ow_ixB rfl rfl rfl rfl rfl sl42 ty70 rfl g20 h216 fun q219 c220 hd217 hA218 => ?_
            obtain ⟨c221, c222, c223, c224, c225, c226, c227, c228, c229, c230, rfl, g231, g232, g233, g234, g235, g236, g237, g238, g239, g240⟩ := rdo_Timpl_Node hd217
            obtain rfl := g231
            obtain rfl := g232
            obtain ⟨a241, c242, rfl⟩ := rd_sl1 g233
            obtain rfl := g234
            obtain ⟨c243, c244, rfl, g245, g246⟩ := rdo_Timpl_Stats g235
            obtain ⟨a247, c248, rfl⟩ := rd_sl1 g245
            obtain ⟨a249, c250, rfl⟩ := rd_sl1 g246
            obtain rfl := g236
            obtain ⟨a251, c252, rfl⟩ := rd_sl1 g237
            obtain rfl := g238
            obtain rfl := g239
            obtain rfl := g240
            refine ow_batch [.fa 70 8 10 fa70_8] rfl <| o1 rfl (ry_load1 rfl rfl ty3 (at_bor bor (at_K hA218 10 1))) <| oPP rfl <| oP rfl <| ?_
            obtain rfl := of_some H
            exact OW.sub key (sb rfl)
           ·have H := of_if_t rfl H
            refine ow_batch [.p, .p, .p, .p, .p, .p, .p, .p, .p, .p, .p, .p, .p] rfl ?_
            obtain rfl := of_some H
            exact OW.sub key (sb rfl)
         ·exact c_exit <| x_qs_exit <| x_ql_exit <| x_qb_here <| x_qs <| sR <| oP rfl <| nT <| xr 6 rfl (by cases H; exact q1)
      ·clear H
       have H := hu90
       clear hu90
       generalize ((u77 || (decide ((e26.Stats_.Cells_.length : Int) > 0))) || (e26.Since_ != 0)) = t89 at H key ⊢
       cases t89
       ·have H := of_if_f rfl H
        refine o1 rfl (rx 0 0 _ rfl ty38 rfl) <| ow_batch [.fa 70 6 8 fa70_6] rfl <| o1 rfl (r1 8 2 rfl ty56 rfl) <| bE H fun y87 h88 H => oq rfl (qc rfl fn78 (fun w1 hw1 => spec_AttrsOk_ok w1 h88 (rdm_Timpl_Schema (rds_bor g12 w1 hw1) (rds_bor g13 w1 hw1)) (rds_bor g48 w1 hw1))) tt2 <| oP rfl <| oP rfl <| ?_
        obtain rfl := of_some H
        exact OW.sub key (sb rfl)
       ·have H := of_if_t rfl H
        refine ow_batch [.p, .p, .p, .p, .p, .p] rfl ?_
        obtain rfl := of_some H
        exact OW.sub key (sb rfl)
     ·generalize (u77 || (decide ((e26.Stats_.Cells_.length : Int) > 0))) = t85 at key ⊢
      cases t85
      ·exact ow_batch [.fa 70 5 7 fa70_5] rfl <| o1 rfl (r1 7 2 rfl ty3 rfl) <| oP rfl <| oP rfl <| OW.sub key (sb rfl)
      ·exact ow_batch [.p, .p, .p, .p] rfl <| OW.sub key (sb rfl)
    ·generalize u77 = t83 at key ⊢
     cases t83
     ·exact ow_batch [.fa 70 4 5 fa70_4, .fa 68 1 1 fa68_1] rfl <| o1 rfl (r1 6 2 rfl ty66 rfl) <| ow_batch [.lenS 66 56 sl66, .p] rfl <| oP rfl <| OW.sub key (sb rfl)
     ·exact ow_batch [.p, .p, .p, .p, .p, .p] rfl <| OW.sub key (sb rfl)
   ·clear H
    have H := hu81
    clear hu81
    generalize u72 = t80 at H key ⊢
    cases t80
    ·have H := of_if_f rfl H
     refine o1 rfl (rx 0 0 _ rfl ty38 rfl) <| ow_batch [.fa 70 4 5 fa70_4] rfl <| o1 rfl (rx 5 2 _ rfl ty68 rfl) <| bE H fun y78 h79 H => oq rfl (qc rfl fn77 (fun w1 hw1 => spec_StatsOk_ok w1 h79 (rdm_Timpl_Schema (rds_bor g12 w1 hw1) (rds_bor g13 w1 hw1)) (rdm_Timpl_Stats (rds_bor g56 w1 hw1) (rds_bor g57 w1 hw1)))) tt2 <| oP rfl <| oP rfl <| ?_
     obtain rfl := of_some H
     exact OW.sub key (sb rfl)
    ·have H := of_if_t rfl H
     refine ow_batch [.p, .p, .p, .p, .p, .p] rfl ?_
     obtain rfl := of_some H
     exact OW.sub key (sb rfl)
  ·clear H
   have H := hu76
   clear hu76
   generalize u67 = t75 at H key ⊢
   cases t75
   ·have H := of_if_f rfl H
    refine ow_batch [.fa 70 3 4 fa70_3] rfl <| o1 rfl (r1 4 2 rfl ty3 rfl) <| ow_batch [.fa 70 2 3 fa70_2] rfl <| o1 rfl (r1 3 2 rfl ty56 rfl) <| ow_batch [.lenS 56 3 sl56, .p] rfl <| bE H fun y73 h74 H => oq rfl (qc rfl fn47 (fun w1 hw1 => spec_l1In_ok w1  h74)) tt2 <| oP rfl <| oP rfl <| ?_
    obtain rfl := of_some H
    exact OW.sub key (sb rfl)
   ·have H := of_if_t rfl H
    refine ow_batch [.p, .p, .p, .p, .p, .p, .p, .p, .p] rfl ?_
    obtain rfl := of_some H
    exact OW.sub key (sb rfl)
 ·clear H
  have H := hu71
  clear hu71
  generalize (!y65) = t70 at H key ⊢
  cases t70
  ·have H := of_if_f rfl H
   refine ow_batch [.fa 70 2 3 fa70_2] rfl <| o1 rfl (r1 3 2 rfl ty56 rfl) <| ow_batch [.lenS 56 3 sl56] rfl <| o1 rfl (rx 0 0 _ rfl ty38 rfl) <| ow_batch [.fa 70 1 1 fa70_1] rfl <| o1 rfl (rx 1 2 _ rfl ty65 rfl) <| bE H fun y68 h69 H => oq rfl (qc rfl fn81 (fun w1 hw1 => spec_Branches_ok w1 (p1 := e26.Fork_) h69 (rdm_Timpl_Schema (rds_bor g12 w1 hw1) (rds_bor g13 w1 hw1)))) tt2 <| oP rfl <| oP rfl <| ?_
   obtain rfl := of_some H
   exact OW.sub key (sb rfl)
  ·have H := of_if_t rfl H
   refine ow_batch [.p, .p, .p, .p, .p, .p, .p, .p, .p] rfl ?_
   obtain rfl := of_some H
   exact OW.sub key (sb rfl)
theorem spec_l19Among_ok (w : World) {p0 : List Int} {p1 : Int} {a_0 : Option Addr} {n_0 c_0 : Nat} {r : Bool} (H : spec_l19Among p0 p1 = some r)  (g0 : (eList eI 3).rd w [] p0 [.slice a_0 n_0 c_0]) :
    Calls Tryz.prog 50 #[.slice a_0 n_0 c_0, .int .i64 p1] w (fun en w' => en = .returned (.bool r) ∧ Ext [] w w') := by
 obtain rfl := rd_n g0
 unfold spec_l19Among at H
 refine f_enter Tryz.func50 rfl Tryz.ntmps50 rfl (St.init w []) <| sR <| oP rfl <| nQ <| c_seq <| sR <| oP rfl <| nQ <| c_block <| CW.at (loopI1 (fun (i13 : Int) => St w [] []) (fun i13 => [(0, .slice a_0 p0.length c_0), (1, .int .i64 p1), (5, .int .i64 i13)]) (fun kk => fun i13 => spec_l19Among_L1 p0 p1 kk i13 = some r) (fun _ H => ?_) (fun k1 ihk1 i13 H => ?_) Fuel (0) (H)) (fun _ h => St.sel [] rfl rfl h) ⟨rfl, rfl, rfl, trivial⟩
 ·unfold spec_l19Among_L1 at H
  exact absurd H (by simp)
 ·unfold spec_l19Among_L1 at H
  refine c_seq <| sR <| ow_batch [.p, .p, .lenS 56 3 sl56, .p] rfl <| nQ <| cI H rfl (fun H => ?_) (fun H => ?_)
  ·refine c_skip <| x_qs <| c_seq <| c_block <| sR <| oPP rfl <| bE H fun e18 h19 H => ow_ixE (e := eI) (xs := p0) (j := i13) rfl rfl rfl rfl rfl sl56 ty3 rfl (fun w1 hw1 => rds_bor g0 w1 hw1) h19 (by rw [Nat.mul_one]) <| o1 rfl (ry_load1 rfl rfl ty3 (at_elV (fun w1 hw1 => rds_bor g0 w1 hw1) h19)) <| oPP rfl <| nQ <| cI H rfl (fun H => ?_) (fun H => ?_)
   ·exact sR <| oP rfl <| nT <| x_qb_ret <| x_qs_ret <| x_ql_ret <| x_qb_ret <| x_qs_ret <| xr 4 rfl (by cases H; exact q1)
   ·exact c_skip <| x_qb <| x_qs <| c_reg <| ow_batch [.p, .p, .p] rfl <| ow_nil <| x_ql (RW.at (ihk1 (IntKind.i64.wrap (i13 + 1)) (H)) (fun _ h => St.sel [] rfl rfl h) ⟨rfl, rfl, rfl, trivial⟩)
  ·exact c_exit <| x_qs_exit <| x_ql_exit <| x_qb_here <| x_qs <| sR <| oP rfl <| nT <| xr 4 rfl (by cases H; exact q1)
theorem spec_TreeOk_ok (w : World) {p0 : Timpl_Schema} {p1 : Timpl_Tree} {cs0 : List Value} {cs1 : List Value} {r : Bool} (H : spec_TreeOk p0 p1 = some r)  (g0 : (eTimpl_Schema).rd w [] p0 cs0) (g1 : (eTimpl_Tree).rd w [] p1 cs1) :
    Calls Tryz.prog 20 #[.agg cs0.toArray, .agg cs1.toArray] w (fun en w' => en = .returned (.bool r) ∧ Ext [] w w') := by
 obtain ⟨c10, c11, rfl, g12, g13⟩ := rdo_Timpl_Schema g0
 obtain ⟨a14, c15, rfl⟩ := rd_sl1 g12
 obtain ⟨a16, c17, rfl⟩ := rd_sl1 g13
 obtain ⟨c18, c19, rfl, g20, g21⟩ := rdo_Timpl_Tree g1
 obtain ⟨a22, c23, rfl⟩ := rd_sl1 g20
 obtain rfl := g21
 unfold spec_TreeOk at H
 refine f_enter Tryz.func20 rfl Tryz.ntmps20 rfl (St.init w []) <| sR <| ob _ rfl fun b24 => ob _ rfl fun b25 => oP rfl <| nQ <| c_seq <| sR <| o1 rfl (rx 0 0 _ rfl ty38 rfl) <| bE H fun y26 h27 H => oq rfl (qc rfl fn46 (fun w1 hw1 => spec_SchemaOk_ok w1 h27 (rdm_Timpl_Schema (rds_bor g12 w1 hw1) (rds_bor g13 w1 hw1)))) tt2 <| oPP rfl <| bE H fun u28 hu32 H => ow_cut [(17, .bool u28), (2, .pointer (some ⟨b24, 0, none⟩)), (3, .pointer (some ⟨b25, 0, none⟩))] 6 ?_ (fun key => OW.sub (R := [(2, .pointer (some ⟨b24, 0, none⟩)), (3, .pointer (some ⟨b25, 0, none⟩)), (11, .bool (!y26))]) ?_ (sb rfl))
 ·refine oP rfl <| bE H fun u33 hu37 H => ow_cut [(23, .bool u33), (2, .pointer (some ⟨b24, 0, none⟩)), (3, .pointer (some ⟨b25, 0, none⟩))] 5 ?_ (fun key => OW.sub (R := [(2, .pointer (some ⟨b24, 0, none⟩)), (3, .pointer (some ⟨b25, 0, none⟩)), (18, .bool u28)]) ?_ (sb rfl))
  ·refine nQ <| cI H rfl (fun H => ?_) (fun H => ?_)
   ·exact sR <| oP rfl <| nT <| x_qs_ret <| xr 4 rfl (by cases H; exact q1)
   ·refine c_skip <| x_qs <| c_seq <| sR <| oP rfl <| nQ <| c_block <| CW.at (loopI1 (fun (i152 : Int) => St w [] [Res.box b24 38 [.slice a14 p0.Attrs_.length c15, .slice a16 p0.Classes_.length c17], Res.box b25 44 [.slice a22 p1.Nodes_.length c23, .int .i64 p1.Seen_]]) (fun i152 => [(2, .pointer (some ⟨b24, 0, none⟩)), (3, .pointer (some ⟨b25, 0, none⟩)), (5, .int .i64 i152)]) (fun kk => fun i152 => spec_TreeOk_L1 p1 p0 kk i152 = some r) (fun _ H => ?_) (fun k1 ihk1 i152 H => ?_) Fuel (0) (H)) (fun _ h => St.sel [0, 1] rfl rfl h) ⟨rfl, rfl, rfl, trivial⟩
    ·unfold spec_TreeOk_L1 at H
     exact absurd H (by simp)
    ·unfold spec_TreeOk_L1 at H
     refine c_seq <| sR <| ow_batch [.p, .fa 44 0 0 fa44_0] rfl <| o1 rfl (r1 0 1 rfl ty42 rfl) <| ow_batch [.lenS 42 70 sl42, .p] rfl <| nQ <| cI H rfl (fun H => ?_) (fun H => ?_)
     ·refine c_skip <| x_qs <| c_seq <| c_block <| sR <| ow_batch [.fa 44 0 0 fa44_0] rfl <| o1 rfl (r1 0 1 rfl ty42 rfl) <| oP rfl <| bE H fun e267 h268 H => ow_ixB rfl rfl rfl rfl rfl sl42 ty70 rfl g20 h268 fun q271 c272 hd269 hA270 => ?_
      obtain ⟨c273, c274, c275, c276, c277, c278, c279, c280, c281, c282, rfl, g283, g284, g285, g286, g287, g288, g289, g290, g291, g292⟩ := rdo_Timpl_Node hd269
      obtain rfl := g283
      obtain rfl := g284
      obtain ⟨a293, c294, rfl⟩ := rd_sl1 g285
      obtain rfl := g286
      obtain ⟨c295, c296, rfl, g297, g298⟩ := rdo_Timpl_Stats g287
      obtain ⟨a299, c300, rfl⟩ := rd_sl1 g297
      obtain ⟨a301, c302, rfl⟩ := rd_sl1 g298
      obtain rfl := g288
      obtain ⟨a303, c304, rfl⟩ := rd_sl1 g289
      obtain rfl := g290
      obtain rfl := g291
      obtain rfl := g292
      refine o1 rfl (ry_load (cs := [.bool e267.Leaf_, .int .i64 e267.Fork_.Attr_, .int .i64 e267.Fork_.At_, .slice a293 e267.Kids_.length c294, .int .i64 e267.Miss_, .slice a299 e267.Stats_.Totals_.length c300, .slice a301 e267.Stats_.Cells_.length c302, .int .i64 e267.Since_, .slice a303 e267.Attrs_.length c304, .int .i64 e267.Depth_, .int .i64 e267.Up_, .int .i64 e267.Born_]) rfl rfl ty70 (at_bor bor hA270) rfl) <| ow_alloc rfl rfl rfl rfl ty70 (fun _ => kp) fun b305 => sC 0 [.bool e267.Leaf_, .int .i64 e267.Fork_.Attr_, .int .i64 e267.Fork_.At_, .slice a293 e267.Kids_.length c294, .int .i64 e267.Miss_, .slice a299 e267.Stats_.Totals_.length c300, .slice a301 e267.Stats_.Cells_.length c302, .int .i64 e267.Since_, .slice a303 e267.Attrs_.length c304, .int .i64 e267.Depth_, .int .i64 e267.Up_, .int .i64 e267.Born_] [_, _, _, _, _, _, _, _, _, _, _, _] 2 rfl ty70 rfl <| nQ <| c_seq <| sR <| ow_batch [.fa 70 7 9 fa70_7] rfl <| o1 rfl (r1 9 2 rfl ty3 rfl) <| bE H fun y306 h307 H => oq rfl (qc rfl fn47 (fun w1 hw1 => spec_l1In_ok w1  h307)) tt2 <| oPP rfl <| bE H fun u308 hu312 H => ow_cut [(47, .bool u308), (2, .pointer (some ⟨b24, 0, none⟩)), (3, .pointer (some ⟨b25, 0, none⟩)), (5, .int .i64 i152), (6, .pointer (some ⟨b305, 0, none⟩))] 7 ?_ (fun key => OW.sub (R := [(2, .pointer (some ⟨b24, 0, none⟩)), (3, .pointer (some ⟨b25, 0, none⟩)), (5, .int .i64 i152), (6, .pointer (some ⟨b305, 0, none⟩)), (40, .bool (!y306))]) ?_ (sb rfl))
      ·refine nQ <| cI H rfl (fun H => ?_) (fun H => ?_)
       ·exact sR <| oP rfl <| nT <| x_qs_ret <| x_qb_ret <| x_qs_ret <| x_ql_ret <| x_qb_ret <| x_qs_ret <| xr 4 rfl (by cases H; exact q1)
       ·refine c_skip <| x_qs <| c_seq <| sR <| ow_batch [.fa 70 0 0 fa70_0] rfl <| o1 rfl (r1 0 2 rfl ty4 rfl) <| oP rfl <| bE H fun u313 hu317 H => ow_cut [(55, .bool u313), (2, .pointer (some ⟨b24, 0, none⟩)), (3, .pointer (some ⟨b25, 0, none⟩)), (5, .int .i64 i152), (6, .pointer (some ⟨b305, 0, none⟩))] 5 ?_ (fun key => OW.sub (R := [(2, .pointer (some ⟨b24, 0, none⟩)), (3, .pointer (some ⟨b25, 0, none⟩)), (5, .int .i64 i152), (6, .pointer (some ⟨b305, 0, none⟩)), (50, .bool e267.Leaf_)]) ?_ (sb rfl))
        ·refine oP rfl <| bE H fun u318 hu325 H => ow_cut [(67, .bool u318), (2, .pointer (some ⟨b24, 0, none⟩)), (3, .pointer (some ⟨b25, 0, none⟩)), (5, .int .i64 i152), (6, .pointer (some ⟨b305, 0, none⟩))] 11 ?_ (fun key => OW.sub (R := [(2, .pointer (some ⟨b24, 0, none⟩)), (3, .pointer (some ⟨b25, 0, none⟩)), (5, .int .i64 i152), (6, .pointer (some ⟨b305, 0, none⟩)), (56, .bool u313)]) ?_ (sb rfl))
         ·refine nQ <| cI H rfl (fun H => ?_) (fun H => ?_)
          ·exact sR <| oP rfl <| nT <| x_qs_ret <| x_qb_ret <| x_qs_ret <| x_ql_ret <| x_qb_ret <| x_qs_ret <| xr 4 rfl (by cases H; exact q1)
          ·refine c_skip <| x_qs <| c_seq <| sR <| oPP rfl <| nQ <| cI H rfl (fun H => ?_) (fun H => ?_)
           ·refine c_seq <| sR <| ow_batch [.fa 70 8 10 fa70_8] rfl <| o1 rfl (r1 10 2 rfl ty3 rfl) <| oPP rfl <| ow_cut [(77, .bool ((e267.Up_ != (-1)) || (e267.Depth_ != 0))), (2, .pointer (some ⟨b24, 0, none⟩)), (3, .pointer (some ⟨b25, 0, none⟩)), (5, .int .i64 i152), (6, .pointer (some ⟨b305, 0, none⟩))] 4 ?_ (fun key => OW.sub (R := [(2, .pointer (some ⟨b24, 0, none⟩)), (3, .pointer (some ⟨b25, 0, none⟩)), (5, .int .i64 i152), (6, .pointer (some ⟨b305, 0, none⟩)), (73, .bool (e267.Up_ != (-1)))]) ?_ (sb rfl))
            ·refine oP rfl <| ow_cut [(82, .bool (((e267.Up_ != (-1)) || (e267.Depth_ != 0)) || (e267.Born_ != 0))), (2, .pointer (some ⟨b24, 0, none⟩)), (3, .pointer (some ⟨b25, 0, none⟩)), (5, .int .i64 i152)] 4 ?_ (fun key => OW.sub (R := [(2, .pointer (some ⟨b24, 0, none⟩)), (3, .pointer (some ⟨b25, 0, none⟩)), (5, .int .i64 i152), (6, .pointer (some ⟨b305, 0, none⟩)), (78, .bool ((e267.Up_ != (-1)) || (e267.Depth_ != 0)))]) ?_ (sb rfl))
             ·refine nQ <| cI H rfl (fun H => ?_) (fun H => ?_)
              ·exact sR <| oP rfl <| nT <| x_qs_ret <| x_qs_ret <| x_qb_ret <| x_qs_ret <| x_ql_ret <| x_qb_ret <| x_qs_ret <| xr 4 rfl (by cases H; exact q1)
              ·exact c_skip <| x_qs <| c_exit <| x_qs_exit <| x_qb_here <| x_qs <| c_reg <| ow_batch [.p, .p, .p] rfl <| ow_nil <| x_ql (RW.at (ihk1 (IntKind.i64.wrap (i152 + 1)) (H)) (fun _ h => St.sel [0, 1] rfl rfl h) ⟨rfl, rfl, rfl, trivial⟩)
             ·generalize ((e267.Up_ != (-1)) || (e267.Depth_ != 0)) = t329 at key ⊢
              cases t329
              ·exact ow_batch [.fa 70 9 11 fa70_9] rfl <| o1 rfl (r1 11 2 rfl ty3 rfl) <| oP rfl <| oP rfl <| OW.sub key (sb rfl)
              ·exact ow_batch [.p, .p, .p, .p] rfl <| OW.sub key (sb rfl)
            ·generalize (e267.Up_ != (-1)) = t327 at key ⊢
             cases t327
             ·exact ow_batch [.fa 70 7 9 fa70_7] rfl <| o1 rfl (r1 9 2 rfl ty3 rfl) <| oP rfl <| oP rfl <| OW.sub key (sb rfl)
             ·exact ow_batch [.p, .p, .p, .p] rfl <| OW.sub key (sb rfl)
           ·refine c_skip <| x_qs <| c_seq <| sR <| ow_batch [.fa 70 8 10 fa70_8] rfl <| o1 rfl (r1 10 2 rfl ty3 rfl) <| oPP rfl <| bE H fun y330 h331 H => oq rfl (qc rfl fn47 (fun w1 hw1 => spec_l1In_ok w1  h331)) tt2 <| oP rfl <| nQ <| cI H rfl (fun H => ?_) (fun H => ?_)
            ·exact sR <| oP rfl <| nT <| x_qs_ret <| x_qb_ret <| x_qs_ret <| x_ql_ret <| x_qb_ret <| x_qs_ret <| xr 4 rfl (by cases H; exact q1)
            ·refine c_skip <| x_qs <| sR <| ow_batch [.fa 44 0 0 fa44_0] rfl <| o1 rfl (r1 0 1 rfl ty42 rfl) <| ow_batch [.fa 70 8 10 fa70_8] rfl <| o1 rfl (r1 10 2 rfl ty3 rfl) <| bE H fun e332 h333 H => ow_ixB rfl rfl rfl rfl rfl sl42 ty70 rfl g20 h333 fun q336 c337 hd334 hA335 => ?_
             obtain ⟨c338, c339, c340, c341, c342, c343, c344, c345, c346, c347, rfl, g348, g349, g350, g351, g352, g353, g354, g355, g356, g357⟩ := rdo_Timpl_Node hd334
             obtain rfl := g348
             obtain rfl := g349
             obtain ⟨a358, c359, rfl⟩ := rd_sl1 g350
             obtain rfl := g351
             obtain ⟨c360, c361, rfl, g362, g363⟩ := rdo_Timpl_Stats g352
             obtain ⟨a364, c365, rfl⟩ := rd_sl1 g362
             obtain ⟨a366, c367, rfl⟩ := rd_sl1 g363
             obtain rfl := g353
             obtain ⟨a368, c369, rfl⟩ := rd_sl1 g354
             obtain rfl := g355
             obtain rfl := g356
             obtain rfl := g357
             refine o1 rfl (ry_load (cs := [.bool e332.Leaf_, .int .i64 e332.Fork_.Attr_, .int .i64 e332.Fork_.At_, .slice a358 e332.Kids_.length c359, .int .i64 e332.Miss_, .slice a364 e332.Stats_.Totals_.length c365, .slice a366 e332.Stats_.Cells_.length c367, .int .i64 e332.Since_, .slice a368 e332.Attrs_.length c369, .int .i64 e332.Depth_, .int .i64 e332.Up_, .int .i64 e332.Born_]) rfl rfl ty70 (at_bor bor hA335) rfl) <| ow_alloc rfl rfl rfl rfl ty70 (fun _ => kp) fun b370 => sC 0 [.bool e332.Leaf_, .int .i64 e332.Fork_.Attr_, .int .i64 e332.Fork_.At_, .slice a358 e332.Kids_.length c359, .int .i64 e332.Miss_, .slice a364 e332.Stats_.Totals_.length c365, .slice a366 e332.Stats_.Cells_.length c367, .int .i64 e332.Since_, .slice a368 e332.Attrs_.length c369, .int .i64 e332.Depth_, .int .i64 e332.Up_, .int .i64 e332.Born_] [_, _, _, _, _, _, _, _, _, _, _, _] 3 rfl ty70 rfl <| nR <| ow_batch [.fa 70 0 0 fa70_0] rfl <| o1 rfl (r1 0 3 rfl ty4 rfl) <| oP rfl <| bE H fun u371 hu375 H => ow_cut [(103, .bool u371), (2, .pointer (some ⟨b24, 0, none⟩)), (3, .pointer (some ⟨b25, 0, none⟩)), (5, .int .i64 i152), (6, .pointer (some ⟨b305, 0, none⟩)), (7, .pointer (some ⟨b370, 0, none⟩))] 6 ?_ (fun key => OW.sub (R := [(2, .pointer (some ⟨b24, 0, none⟩)), (3, .pointer (some ⟨b25, 0, none⟩)), (5, .int .i64 i152), (6, .pointer (some ⟨b305, 0, none⟩)), (7, .pointer (some ⟨b370, 0, none⟩)), (97, .bool e332.Leaf_)]) ?_ (sb rfl))
             ·refine oP rfl <| ow_cut [(111, .bool (u371 || ((IntKind.i64.wrap (e332.Depth_ + 1)) != e267.Depth_))), (2, .pointer (some ⟨b24, 0, none⟩)), (3, .pointer (some ⟨b25, 0, none⟩)), (5, .int .i64 i152), (6, .pointer (some ⟨b305, 0, none⟩)), (7, .pointer (some ⟨b370, 0, none⟩))] 7 ?_ (fun key => OW.sub (R := [(2, .pointer (some ⟨b24, 0, none⟩)), (3, .pointer (some ⟨b25, 0, none⟩)), (5, .int .i64 i152), (6, .pointer (some ⟨b305, 0, none⟩)), (7, .pointer (some ⟨b370, 0, none⟩)), (104, .bool u371)]) ?_ (sb rfl))
              ·refine oP rfl <| ow_cut [(118, .bool ((u371 || ((IntKind.i64.wrap (e332.Depth_ + 1)) != e267.Depth_)) || (decide (e332.Born_ > e267.Born_)))), (2, .pointer (some ⟨b24, 0, none⟩)), (3, .pointer (some ⟨b25, 0, none⟩)), (5, .int .i64 i152)] 6 ?_ (fun key => OW.sub (R := [(2, .pointer (some ⟨b24, 0, none⟩)), (3, .pointer (some ⟨b25, 0, none⟩)), (5, .int .i64 i152), (6, .pointer (some ⟨b305, 0, none⟩)), (7, .pointer (some ⟨b370, 0, none⟩)), (112, .bool (u371 || ((IntKind.i64.wrap (e332.Depth_ + 1)) != e267.Depth_)))]) ?_ (sb rfl))
               ·refine nQ <| cI H rfl (fun H => ?_) (fun H => ?_)
                ·exact sR <| oP rfl <| nT <| x_qb_ret <| x_qs_ret <| x_ql_ret <| x_qb_ret <| x_qs_ret <| xr 4 rfl (by cases H; exact q1)
                ·exact c_skip <| x_qb <| x_qs <| c_reg <| ow_batch [.p, .p, .p] rfl <| ow_nil <| x_ql (RW.at (ihk1 (IntKind.i64.wrap (i152 + 1)) (H)) (fun _ h => St.sel [0, 1] rfl rfl h) ⟨rfl, rfl, rfl, trivial⟩)
               ·generalize (u371 || ((IntKind.i64.wrap (e332.Depth_ + 1)) != e267.Depth_)) = t379 at key ⊢
                cases t379
                ·exact ow_batch [.fa 70 9 11 fa70_9] rfl <| o1 rfl (r1 11 3 rfl ty3 rfl) <| ow_batch [.fa 70 9 11 fa70_9] rfl <| o1 rfl (r1 11 2 rfl ty3 rfl) <| oP rfl <| oP rfl <| OW.sub key (sb rfl)
                ·exact ow_batch [.p, .p, .p, .p, .p, .p] rfl <| OW.sub key (sb rfl)
              ·generalize u371 = t377 at key ⊢
               cases t377
               ·exact ow_batch [.fa 70 7 9 fa70_7] rfl <| o1 rfl (r1 9 3 rfl ty3 rfl) <| ow_batch [.p, .fa 70 7 9 fa70_7] rfl <| o1 rfl (r1 9 2 rfl ty3 rfl) <| oP rfl <| oP rfl <| OW.sub key (sb rfl)
               ·exact ow_batch [.p, .p, .p, .p, .p, .p, .p] rfl <| OW.sub key (sb rfl)
             ·clear H
              have H := hu375
              clear hu375
              generalize e332.Leaf_ = t374 at H key ⊢
              cases t374
              ·have H := of_if_f rfl H
               refine ow_batch [.fa 70 2 3 fa70_2] rfl <| o1 rfl (r1 3 3 rfl ty56 rfl) <| oP rfl <| bE H fun y372 h373 H => oq rfl (qc rfl fn50 (fun w1 hw1 => spec_l19Among_ok w1  h373 (rds_bor g350 w1 hw1))) tt2 <| oP rfl <| oP rfl <| ?_
               obtain rfl := of_some H
               exact OW.sub key (sb rfl)
              ·have H := of_if_t rfl H
               refine ow_batch [.p, .p, .p, .p, .p, .p] rfl ?_
               obtain rfl := of_some H
               exact OW.sub key (sb rfl)
         ·clear H
          have H := hu325
          clear hu325
          generalize u313 = t324 at H key ⊢
          cases t324
          ·have H := of_if_f rfl H
           refine ow_batch [.fa 70 0 0 fa70_0] rfl <| o1 rfl (r1 0 2 rfl ty4 rfl) <| oPP rfl <| bE H fun u319 hu323 H => ow_cut [(66, .bool u319), (2, .pointer (some ⟨b24, 0, none⟩)), (3, .pointer (some ⟨b25, 0, none⟩)), (5, .int .i64 i152), (6, .pointer (some ⟨b305, 0, none⟩)), (56, .bool false)] 6 ?_ (fun key => OW.sub (R := [(2, .pointer (some ⟨b24, 0, none⟩)), (3, .pointer (some ⟨b25, 0, none⟩)), (5, .int .i64 i152), (6, .pointer (some ⟨b305, 0, none⟩)), (56, .bool false), (60, .bool (!e267.Leaf_))]) ?_ (sb rfl))
           ·refine ow_batch [.p] rfl ?_
            obtain rfl := of_some H
            exact OW.sub key (sb rfl)
           ·clear H
            have H := hu323
            clear hu323
            generalize (!e267.Leaf_) = t322 at H key ⊢
            cases t322
            ·have H := of_if_f rfl H
             refine ow_batch [.p, .p, .p, .p, .p, .p] rfl ?_
             obtain rfl := of_some H
             exact OW.sub key (sb rfl)
            ·have H := of_if_t rfl H
             refine o1 rfl (rx 0 0 _ rfl ty38 rfl) <| o1 rfl (rx 0 1 _ rfl ty44 rfl) <| oP rfl <| bE H fun y320 h321 H => oq rfl (qc rfl fn49 (fun w1 hw1 => spec_l19Split_ok w1 h321 (rdm_Timpl_Schema (rds_bor g12 w1 hw1) (rds_bor g13 w1 hw1)) (rdm_Timpl_Tree (rds_bor g20 w1 hw1) rfl))) tt2 <| oP rfl <| oP rfl <| ?_
             obtain rfl := of_some H
             exact OW.sub key (sb rfl)
          ·have H := of_if_t rfl H
           refine ow_batch [.p, .p, .p, .p, .p, .p, .p, .p, .p, .p, .p] rfl ?_
           obtain rfl := of_some H
           exact OW.sub key (sb rfl)
        ·clear H
         have H := hu317
         clear hu317
         generalize e267.Leaf_ = t316 at H key ⊢
         cases t316
         ·have H := of_if_f rfl H
          refine ow_batch [.p, .p, .p, .p, .p] rfl ?_
          obtain rfl := of_some H
          exact OW.sub key (sb rfl)
         ·have H := of_if_t rfl H
          refine o1 rfl (rx 0 0 _ rfl ty38 rfl) <| o1 rfl (rx 0 2 _ rfl ty70 rfl) <| bE H fun y314 h315 H => oq rfl (qc rfl fn48 (fun w1 hw1 => spec_l19Leaf_ok w1 h315 (rdm_Timpl_Schema (rds_bor g12 w1 hw1) (rds_bor g13 w1 hw1)) (rdm_Timpl_Node (x := ({ e267 with Leaf_ := true })) rfl rfl (rds_bor g285 w1 hw1) rfl (rdm_Timpl_Stats (rds_bor g297 w1 hw1) (rds_bor g298 w1 hw1)) rfl (rds_bor g289 w1 hw1) rfl rfl rfl))) tt2 <| oP rfl <| oP rfl <| ?_
          obtain rfl := of_some H
          exact OW.sub key (sb rfl)
      ·clear H
       have H := hu312
       clear hu312
       generalize (!y306) = t311 at H key ⊢
       cases t311
       ·have H := of_if_f rfl H
        refine ow_batch [.fa 70 9 11 fa70_9] rfl <| o1 rfl (r1 11 2 rfl ty3 rfl) <| ow_batch [.fa 44 1 1 fa44_1] rfl <| o1 rfl (r1 1 1 rfl ty3 rfl) <| bE H fun y309 h310 H => oq rfl (qc rfl fn47 (fun w1 hw1 => spec_l1In_ok w1  h310)) tt2 <| oP rfl <| oP rfl <| ?_
        obtain rfl := of_some H
        exact OW.sub key (sb rfl)
       ·have H := of_if_t rfl H
        refine ow_batch [.p, .p, .p, .p, .p, .p, .p] rfl ?_
        obtain rfl := of_some H
        exact OW.sub key (sb rfl)
     ·exact c_exit <| x_qs_exit <| x_ql_exit <| x_qb_here <| x_qs <| sR <| oP rfl <| nT <| xr 4 rfl (by cases H; exact q1)
  ·clear H
   have H := hu37
   clear hu37
   generalize u28 = t36 at H key ⊢
   cases t36
   ·have H := of_if_f rfl H
    refine ow_batch [.fa 44 1 1 fa44_1] rfl <| o1 rfl (r1 1 1 rfl ty3 rfl) <| bE H fun y34 h35 H => oq rfl (qc rfl fn47 (fun w1 hw1 => spec_l1In_ok w1  h35)) tt2 <| oP rfl <| oP rfl <| ?_
    obtain rfl := of_some H
    exact OW.sub key (sb rfl)
   ·have H := of_if_t rfl H
    refine ow_batch [.p, .p, .p, .p, .p] rfl ?_
    obtain rfl := of_some H
    exact OW.sub key (sb rfl)
 ·clear H
  have H := hu32
  clear hu32
  generalize (!y26) = t31 at H key ⊢
  cases t31
  ·have H := of_if_f rfl H
   refine ow_batch [.fa 44 0 0 fa44_0] rfl <| o1 rfl (r1 0 1 rfl ty42 rfl) <| ow_batch [.lenS 42 70 sl42] rfl <| bE H fun y29 h30 H => oq rfl (qc rfl fn47 (fun w1 hw1 => spec_l1In_ok w1  h30)) tt2 <| oP rfl <| oP rfl <| ?_
   obtain rfl := of_some H
   exact OW.sub key (sb rfl)
  ·have H := of_if_t rfl H
   refine ow_batch [.p, .p, .p, .p, .p, .p] rfl ?_
   obtain rfl := of_some H
   exact OW.sub key (sb rfl)
theorem spec_RuleOk_ok (w : World) {p0 : Timpl_Rule}  {r : Bool} (H : spec_RuleOk p0 = some r)   :
    Calls Tryz.prog 21 #[.agg #[.int .i64 p0.Sure_, .int .i64 p0.Tie_, .int .i64 p0.Grace_, .int .i64 p0.Depth_, .int .i64 p0.Nodes_, .int .i64 p0.Units_, .bool p0.Two_]] w (fun en w' => en = .returned (.bool r) ∧ Ext [] w w') := by
 unfold spec_RuleOk at H
 refine f_enter Tryz.func21 rfl Tryz.ntmps21 rfl (St.init w []) <| sR <| ob _ rfl fun b10 => oP rfl <| nR <| ow_batch [.fa 40 0 0 fa40_0] rfl <| o1 rfl (r1 0 0 rfl ty3 rfl) <| bE H fun y11 h12 H => oq rfl (qc rfl fn47 (fun w1 hw1 => spec_l1In_ok w1  h12)) tt2 <| oP rfl <| bE H fun u13 hu17 H => ow_cut [(10, .bool u13), (1, .pointer (some ⟨b10, 0, none⟩)), (2, .bool false)] 4 ?_ (fun key => OW.sub (R := [(1, .pointer (some ⟨b10, 0, none⟩)), (2, .bool false), (6, .bool y11)]) ?_ (sb rfl))
 ·refine oP rfl <| bE H fun u18 hu22 H => ow_cut [(15, .bool u18), (1, .pointer (some ⟨b10, 0, none⟩)), (2, .bool false)] 4 ?_ (fun key => OW.sub (R := [(1, .pointer (some ⟨b10, 0, none⟩)), (2, .bool false), (11, .bool u13)]) ?_ (sb rfl))
  ·refine oP rfl <| bE H fun u23 hu27 H => ow_cut [(20, .bool u23), (1, .pointer (some ⟨b10, 0, none⟩)), (2, .bool false)] 4 ?_ (fun key => OW.sub (R := [(1, .pointer (some ⟨b10, 0, none⟩)), (2, .bool false), (16, .bool u18)]) ?_ (sb rfl))
   ·refine oP rfl <| bE H fun u28 hu32 H => ow_cut [(25, .bool u28), (1, .pointer (some ⟨b10, 0, none⟩)), (2, .bool false)] 4 ?_ (fun key => OW.sub (R := [(1, .pointer (some ⟨b10, 0, none⟩)), (2, .bool false), (21, .bool u23)]) ?_ (sb rfl))
    ·refine oP rfl <| bE H fun u33 hu37 H => ow_cut [(30, .bool u33), (2, .bool false)] 4 ?_ (fun key => OW.sub (R := [(1, .pointer (some ⟨b10, 0, none⟩)), (2, .bool false), (26, .bool u28)]) ?_ (sb rfl))
     ·exact oP rfl <| nT <| xr 2 rfl (by cases H; exact q1)
     ·clear H
      have H := hu37
      clear hu37
      generalize u28 = t36 at H key ⊢
      cases t36
      ·have H := of_if_f rfl H
       refine ow_batch [.p, .p, .p, .p] rfl ?_
       obtain rfl := of_some H
       exact OW.sub key (sb rfl)
      ·have H := of_if_t rfl H
       refine ow_batch [.fa 40 5 5 fa40_5] rfl <| o1 rfl (r1 5 0 rfl ty3 rfl) <| bE H fun y34 h35 H => oq rfl (qc rfl fn47 (fun w1 hw1 => spec_l1In_ok w1  h35)) tt2 <| oP rfl <| ?_
       obtain rfl := of_some H
       exact OW.sub key (sb rfl)
    ·clear H
     have H := hu32
     clear hu32
     generalize u23 = t31 at H key ⊢
     cases t31
     ·have H := of_if_f rfl H
      refine ow_batch [.p, .p, .p, .p] rfl ?_
      obtain rfl := of_some H
      exact OW.sub key (sb rfl)
     ·have H := of_if_t rfl H
      refine ow_batch [.fa 40 4 4 fa40_4] rfl <| o1 rfl (r1 4 0 rfl ty3 rfl) <| bE H fun y29 h30 H => oq rfl (qc rfl fn47 (fun w1 hw1 => spec_l1In_ok w1  h30)) tt2 <| oP rfl <| ?_
      obtain rfl := of_some H
      exact OW.sub key (sb rfl)
   ·clear H
    have H := hu27
    clear hu27
    generalize u18 = t26 at H key ⊢
    cases t26
    ·have H := of_if_f rfl H
     refine ow_batch [.p, .p, .p, .p] rfl ?_
     obtain rfl := of_some H
     exact OW.sub key (sb rfl)
    ·have H := of_if_t rfl H
     refine ow_batch [.fa 40 3 3 fa40_3] rfl <| o1 rfl (r1 3 0 rfl ty3 rfl) <| bE H fun y24 h25 H => oq rfl (qc rfl fn47 (fun w1 hw1 => spec_l1In_ok w1  h25)) tt2 <| oP rfl <| ?_
     obtain rfl := of_some H
     exact OW.sub key (sb rfl)
  ·clear H
   have H := hu22
   clear hu22
   generalize u13 = t21 at H key ⊢
   cases t21
   ·have H := of_if_f rfl H
    refine ow_batch [.p, .p, .p, .p] rfl ?_
    obtain rfl := of_some H
    exact OW.sub key (sb rfl)
   ·have H := of_if_t rfl H
    refine ow_batch [.fa 40 2 2 fa40_2] rfl <| o1 rfl (r1 2 0 rfl ty3 rfl) <| bE H fun y19 h20 H => oq rfl (qc rfl fn47 (fun w1 hw1 => spec_l1In_ok w1  h20)) tt2 <| oP rfl <| ?_
    obtain rfl := of_some H
    exact OW.sub key (sb rfl)
 ·clear H
  have H := hu17
  clear hu17
  generalize y11 = t16 at H key ⊢
  cases t16
  ·have H := of_if_f rfl H
   refine ow_batch [.p, .p, .p, .p] rfl ?_
   obtain rfl := of_some H
   exact OW.sub key (sb rfl)
  ·have H := of_if_t rfl H
   refine ow_batch [.fa 40 1 1 fa40_1] rfl <| o1 rfl (r1 1 0 rfl ty3 rfl) <| bE H fun y14 h15 H => oq rfl (qc rfl fn47 (fun w1 hw1 => spec_l1In_ok w1  h15)) tt2 <| oP rfl <| ?_
   obtain rfl := of_some H
   exact OW.sub key (sb rfl)
theorem spec_ExOk_ok (w : World) {p0 : Timpl_Schema} {p1 : Timpl_Ex} {cs0 : List Value} {cs1 : List Value} {r : Bool} (H : spec_ExOk p0 p1 = some r)  (g0 : (eTimpl_Schema).rd w [] p0 cs0) (g1 : (eTimpl_Ex).rd w [] p1 cs1) :
    Calls Tryz.prog 51 #[.agg cs0.toArray, .agg cs1.toArray] w (fun en w' => en = .returned (.bool r) ∧ Ext [] w w') := by
 obtain ⟨c10, c11, rfl, g12, g13⟩ := rdo_Timpl_Schema g0
 obtain ⟨a14, c15, rfl⟩ := rd_sl1 g12
 obtain ⟨a16, c17, rfl⟩ := rd_sl1 g13
 obtain ⟨c18, c19, rfl, g20, g21⟩ := rdo_Timpl_Ex g1
 obtain ⟨a22, c23, rfl⟩ := rd_sl1 g20
 obtain rfl := g21
 unfold spec_ExOk at H
 refine f_enter Tryz.func51 rfl Tryz.ntmps51 rfl (St.init w []) <| sR <| ob _ rfl fun b24 => ob _ rfl fun b25 => oP rfl <| nQ <| c_seq <| sR <| o1 rfl (rx 0 0 _ rfl ty38 rfl) <| bE H fun y26 h27 H => oq rfl (qc rfl fn46 (fun w1 hw1 => spec_SchemaOk_ok w1 h27 (rdm_Timpl_Schema (rds_bor g12 w1 hw1) (rds_bor g13 w1 hw1)))) tt2 <| oPP rfl <| ow_cut [(17, .bool ((!y26) || ((p1.Bins_.length : Int) != (p0.Attrs_.length : Int)))), (2, .pointer (some ⟨b24, 0, none⟩)), (3, .pointer (some ⟨b25, 0, none⟩))] 8 ?_ (fun key => OW.sub (R := [(2, .pointer (some ⟨b24, 0, none⟩)), (3, .pointer (some ⟨b25, 0, none⟩)), (9, .bool (!y26))]) ?_ (sb rfl))
 ·refine oP rfl <| bE H fun u30 hu34 H => ow_cut [(27, .bool u30), (2, .pointer (some ⟨b24, 0, none⟩)), (3, .pointer (some ⟨b25, 0, none⟩))] 9 ?_ (fun key => OW.sub (R := [(2, .pointer (some ⟨b24, 0, none⟩)), (3, .pointer (some ⟨b25, 0, none⟩)), (18, .bool ((!y26) || ((p1.Bins_.length : Int) != (p0.Attrs_.length : Int))))]) ?_ (sb rfl))
  ·refine nQ <| cI H rfl (fun H => ?_) (fun H => ?_)
   ·exact sR <| oP rfl <| nT <| x_qs_ret <| xr 4 rfl (by cases H; exact q1)
   ·refine c_skip <| x_qs <| c_seq <| sR <| oP rfl <| nQ <| c_block <| CW.at (loopI1 (fun (i58 : Int) => St w [] [Res.box b24 38 [.slice a14 p0.Attrs_.length c15, .slice a16 p0.Classes_.length c17], Res.box b25 81 [.slice a22 p1.Bins_.length c23, .int .i64 p1.Class_]]) (fun i58 => [(2, .pointer (some ⟨b24, 0, none⟩)), (3, .pointer (some ⟨b25, 0, none⟩)), (5, .int .i64 i58)]) (fun kk => fun i58 => spec_ExOk_L1 p1 p0 kk i58 = some r) (fun _ H => ?_) (fun k1 ihk1 i58 H => ?_) Fuel (0) (H)) (fun _ h => St.sel [0, 1] rfl rfl h) ⟨rfl, rfl, rfl, trivial⟩
    ·unfold spec_ExOk_L1 at H
     exact absurd H (by simp)
    ·unfold spec_ExOk_L1 at H
     refine c_seq <| sR <| ow_batch [.p, .fa 81 0 0 fa81_0] rfl <| o1 rfl (r1 0 1 rfl ty56 rfl) <| ow_batch [.lenS 56 3 sl56, .p] rfl <| nQ <| cI H rfl (fun H => ?_) (fun H => ?_)
     ·refine c_skip <| x_qs <| c_seq <| c_block <| c_seq <| c_regQ mixed (by kernel_rfl) <| ow_batch [.fa 81 0 0 fa81_0] rfl <| o1 rfl (r1 0 1 rfl ty56 rfl) <| oP rfl <| bE H fun e82 h83 H => ow_ixE (e := eI) (xs := p1.Bins_) (j := i58) rfl rfl rfl rfl rfl sl56 ty3 rfl (fun w1 hw1 => rds_bor g20 w1 hw1) h83 (by rw [Nat.mul_one]) <| o1 rfl (ry_load1 rfl rfl ty3 (at_elV (fun w1 hw1 => rds_bor g20 w1 hw1) h83)) <| ow_batch [.fa 38 0 0 fa38_0] rfl <| o1 rfl (r1 0 0 rfl ty36 rfl) <| oP rfl <| bE H fun e84 h85 H => ow_ixB rfl rfl rfl rfl rfl sl36 ty113 rfl g12 h85 fun q88 c89 hd86 hA87 => ?_
      obtain ⟨c90, c91, c92, rfl, g93, g94, g95⟩ := rdo_Timpl_Attr hd86
      obtain rfl := g93
      obtain ⟨a96, c97, rfl⟩ := rd_sl1 g94
      obtain ⟨a98, c99, rfl⟩ := rd_sl1 g95
      refine o1 rfl (ry_load (cs := [vS e84.Name_, .slice a96 e84.Cuts_.length c97, .slice a98 e84.Values_.length c99]) rfl rfl ty113 (at_bor bor hA87) rfl) <| bE H fun y100 h101 H => oq rfl (qc rfl fn82 (fun w1 hw1 => spec_Bins_ok w1 h101 (rdm_Timpl_Attr rfl (rds_bor g94 w1 hw1) (rds_bor g95 w1 hw1)))) tt2 <| oP rfl <| bE H fun y102 h103 H => oq rfl (qc rfl fn47 (fun w1 hw1 => spec_l1In_ok w1  h103)) tt2 <| oP rfl <| ow_nilQ <| x_qs <| cI H rfl (fun H => ?_) (fun H => ?_)
      ·exact sR <| oP rfl <| nT <| x_qb_ret <| x_qs_ret <| x_ql_ret <| x_qb_ret <| x_qs_ret <| xr 4 rfl (by cases H; exact q1)
      ·exact c_skip <| x_qb <| x_qs <| c_reg <| ow_batch [.p, .p, .p] rfl <| ow_nil <| x_ql (RW.at (ihk1 (IntKind.i64.wrap (i58 + 1)) (H)) (fun _ h => St.sel [0, 1] rfl rfl h) ⟨rfl, rfl, rfl, trivial⟩)
     ·exact c_exit <| x_qs_exit <| x_ql_exit <| x_qb_here <| x_qs <| sR <| oP rfl <| nT <| xr 4 rfl (by cases H; exact q1)
  ·clear H
   have H := hu34
   clear hu34
   generalize ((!y26) || ((p1.Bins_.length : Int) != (p0.Attrs_.length : Int))) = t33 at H key ⊢
   cases t33
   ·have H := of_if_f rfl H
    refine ow_batch [.fa 81 1 1 fa81_1] rfl <| o1 rfl (r1 1 1 rfl ty3 rfl) <| ow_batch [.fa 38 1 1 fa38_1] rfl <| o1 rfl (r1 1 0 rfl ty23 rfl) <| ow_batch [.lenS 23 9 sl23, .p] rfl <| bE H fun y31 h32 H => oq rfl (qc rfl fn47 (fun w1 hw1 => spec_l1In_ok w1  h32)) tt2 <| oP rfl <| oP rfl <| ?_
    obtain rfl := of_some H
    exact OW.sub key (sb rfl)
   ·have H := of_if_t rfl H
    refine ow_batch [.p, .p, .p, .p, .p, .p, .p, .p, .p] rfl ?_
    obtain rfl := of_some H
    exact OW.sub key (sb rfl)
 ·generalize (!y26) = t29 at key ⊢
  cases t29
  ·exact ow_batch [.fa 81 0 0 fa81_0] rfl <| o1 rfl (r1 0 1 rfl ty56 rfl) <| ow_batch [.lenS 56 3 sl56, .fa 38 0 0 fa38_0] rfl <| o1 rfl (r1 0 0 rfl ty36 rfl) <| ow_batch [.lenS 36 113 sl36, .p] rfl <| oP rfl <| OW.sub key (sb rfl)
  ·exact ow_batch [.p, .p, .p, .p, .p, .p, .p, .p] rfl <| OW.sub key (sb rfl)
theorem spec_EntriesOk_ok (w : World) {p0 : Timpl_Schema} {p1 : List Timpl_Entry} {cs0 : List Value} {a_1 : Option Addr} {n_1 c_1 : Nat} {r : Bool} (H : spec_EntriesOk p0 p1 = some r)  (g0 : (eTimpl_Schema).rd w [] p0 cs0) (g1 : (eList (eTimpl_Entry) 83).rd w [] p1 [.slice a_1 n_1 c_1]) :
    Calls Tryz.prog 22 #[.agg cs0.toArray, .slice a_1 n_1 c_1] w (fun en w' => en = .returned (.bool r) ∧ Ext [] w w') := by
 obtain ⟨c10, c11, rfl, g12, g13⟩ := rdo_Timpl_Schema g0
 obtain ⟨a14, c15, rfl⟩ := rd_sl1 g12
 obtain ⟨a16, c17, rfl⟩ := rd_sl1 g13
 obtain rfl := rd_n g1
 unfold spec_EntriesOk at H
 refine f_enter Tryz.func22 rfl Tryz.ntmps22 rfl (St.init w []) <| sR <| ob _ rfl fun b18 => oP rfl <| nQ <| c_seq <| sR <| o1 rfl (rx 0 0 _ rfl ty38 rfl) <| bE H fun y19 h20 H => oq rfl (qc rfl fn46 (fun w1 hw1 => spec_SchemaOk_ok w1 h20 (rdm_Timpl_Schema (rds_bor g12 w1 hw1) (rds_bor g13 w1 hw1)))) tt2 <| oP rfl <| nQ <| cI H rfl (fun H => ?_) (fun H => ?_)
 ·exact sR <| oP rfl <| nT <| x_qs_ret <| xr 4 rfl (by cases H; exact q1)
 ·refine c_skip <| x_qs <| c_seq <| sR <| oP rfl <| nQ <| c_block <| CW.at (loopI1 (fun (i80 : Int) => St w [] [Res.box b18 38 [.slice a14 p0.Attrs_.length c15, .slice a16 p0.Classes_.length c17]]) (fun i80 => [(1, .slice a_1 p1.length c_1), (2, .pointer (some ⟨b18, 0, none⟩)), (5, .int .i64 i80)]) (fun kk => fun i80 => spec_EntriesOk_L1 p1 p0 kk i80 = some r) (fun _ H => ?_) (fun k1 ihk1 i80 H => ?_) Fuel (0) (H)) (fun _ h => St.sel [0] rfl rfl h) ⟨rfl, rfl, rfl, trivial⟩
  ·unfold spec_EntriesOk_L1 at H
   exact absurd H (by simp)
  ·unfold spec_EntriesOk_L1 at H
   refine c_seq <| sR <| ow_batch [.p, .p, .lenS 46 83 sl46, .p] rfl <| nQ <| cI H rfl (fun H => ?_) (fun H => ?_)
   ·refine c_skip <| x_qs <| c_seq <| c_block <| c_seq <| c_regQ mixed (by kernel_rfl) <| o1 rfl (rx 0 0 _ rfl ty38 rfl) <| oPP rfl <| bE H fun e140 h141 H => ow_ixB rfl rfl rfl rfl rfl sl46 ty83 rfl g1 h141 fun q144 c145 hd142 hA143 => ?_
    obtain ⟨c146, c147, rfl, g148, g149⟩ := rdo_Timpl_Entry hd142
    obtain ⟨c150, c151, rfl, g152, g153⟩ := rdo_Timpl_Ex g148
    obtain ⟨a154, c155, rfl⟩ := rd_sl1 g152
    obtain rfl := g153
    obtain rfl := g149
    refine ow_batch [.fa 83 0 0 fa83_0] rfl <| o1 rfl (ry_load (cs := [.slice a154 e140.Ex_.Bins_.length c155, .int .i64 e140.Ex_.Class_]) rfl rfl ty81 (at_bor bor (at_K hA143 0 2)) rfl) <| bE H fun y156 h157 H => oq rfl (qc rfl fn51 (fun w1 hw1 => spec_ExOk_ok w1 h157 (rdm_Timpl_Schema (rds_bor g12 w1 hw1) (rds_bor g13 w1 hw1)) (rdm_Timpl_Ex (rds_bor g152 w1 hw1) rfl))) tt2 <| oPP rfl <| bE H fun u158 hu176 H => ow_cut [(31, .bool u158), (1, .slice a_1 p1.length c_1), (2, .pointer (some ⟨b18, 0, none⟩)), (5, .int .i64 i80)] 8 ?_ (fun key => OW.sub (R := [(1, .slice a_1 p1.length c_1), (2, .pointer (some ⟨b18, 0, none⟩)), (5, .int .i64 i80), (23, .bool (!y156))]) ?_ (sb rfl))
    ·refine oP rfl <| bE H fun u177 hu197 H => ow_cut [(40, .bool u177), (1, .slice a_1 p1.length c_1), (2, .pointer (some ⟨b18, 0, none⟩)), (5, .int .i64 i80)] 8 ?_ (fun key => OW.sub (R := [(1, .slice a_1 p1.length c_1), (2, .pointer (some ⟨b18, 0, none⟩)), (5, .int .i64 i80), (32, .bool u158)]) ?_ (sb rfl))
     ·refine ow_nilQ <| x_qs <| cI H rfl (fun H => ?_) (fun H => ?_)
      ·exact sR <| oP rfl <| nT <| x_qb_ret <| x_qs_ret <| x_ql_ret <| x_qb_ret <| x_qs_ret <| xr 4 rfl (by cases H; exact q1)
      ·exact c_skip <| x_qb <| x_qs <| c_reg <| ow_batch [.p, .p, .p] rfl <| ow_nil <| x_ql (RW.at (ihk1 (IntKind.i64.wrap (i80 + 1)) (H)) (fun _ h => St.sel [0] rfl rfl h) ⟨rfl, rfl, rfl, trivial⟩)
     ·clear H
      have H := hu197
      clear hu197
      generalize u158 = t196 at H key ⊢
      cases t196
      ·have H := of_if_f rfl H
       refine oPP rfl <| bE H fun e178 h179 H => ow_ixB rfl rfl rfl rfl rfl sl46 ty83 rfl g1 h179 fun q182 c183 hd180 hA181 => ?_
       obtain ⟨c184, c185, rfl, g186, g187⟩ := rdo_Timpl_Entry hd180
       obtain ⟨c188, c189, rfl, g190, g191⟩ := rdo_Timpl_Ex g186
       obtain ⟨a192, c193, rfl⟩ := rd_sl1 g190
       obtain rfl := g191
       obtain rfl := g187
       refine ow_batch [.fa 83 1 2 fa83_1] rfl <| o1 rfl (ry_load1 rfl rfl ty3 (at_bor bor (at_K hA181 2 1))) <| bE H fun y194 h195 H => oq rfl (qc rfl fn47 (fun w1 hw1 => spec_l1In_ok w1  h195)) tt2 <| oP rfl <| oP rfl <| ?_
       obtain rfl := of_some H
       exact OW.sub key (sb rfl)
      ·have H := of_if_t rfl H
       refine ow_batch [.p, .p, .p, .p, .p, .p, .p, .p] rfl ?_
       obtain rfl := of_some H
       exact OW.sub key (sb rfl)
    ·clear H
     have H := hu176
     clear hu176
     generalize (!y156) = t175 at H key ⊢
     cases t175
     ·have H := of_if_f rfl H
      refine oPP rfl <| bE H fun e159 h160 H => ow_ixB rfl rfl rfl rfl rfl sl46 ty83 rfl g1 h160 fun q163 c164 hd161 hA162 => ?_
      obtain ⟨c165, c166, rfl, g167, g168⟩ := rdo_Timpl_Entry hd161
      obtain ⟨c169, c170, rfl, g171, g172⟩ := rdo_Timpl_Ex g167
      obtain ⟨a173, c174, rfl⟩ := rd_sl1 g171
      obtain rfl := g172
      obtain rfl := g168
      refine ow_batch [.fa 83 0 0 fa83_0, .fa 81 1 1 fa81_1] rfl <| o1 rfl (ry_load1 rfl rfl ty3 (at_bor bor (at_K (at_K hA162 0 2) 1 1))) <| oP rfl <| oP rfl <| ?_
      obtain rfl := of_some H
      exact OW.sub key (sb rfl)
     ·have H := of_if_t rfl H
      refine ow_batch [.p, .p, .p, .p, .p, .p, .p, .p] rfl ?_
      obtain rfl := of_some H
      exact OW.sub key (sb rfl)
   ·exact c_exit <| x_qs_exit <| x_ql_exit <| x_qb_here <| x_qs <| sR <| oP rfl <| nT <| xr 4 rfl (by cases H; exact q1)
theorem spec_StatsNew_ok (w : World) {M0 : List Nat} {p0 : Timpl_Schema} {cs0 : List Value} {r : Timpl_Stats} (H : spec_StatsNew p0 = some r) (HS : St w M0 [] w) (g0 : (eTimpl_Schema).rd w M0 p0 cs0) :
    Calls Tryz.prog 52 #[.agg cs0.toArray] w (fun en w' => ∃ v, en = .returned v ∧ ∃ (a0 : Option Addr), ∃ (n0 : Nat), ∃ (c0 : Nat), ∃ (F0 : List Nat), ∃ (a1 : Option Addr), ∃ (n1 : Nat), ∃ (c1 : Nat), ∃ (F1 : List Nat), v = .agg #[.slice a0 n0 c0, .slice a1 n1 c1] ∧ St w M0 [Res.own (eList eI 3) F0 r.Totals_ [.slice a0 n0 c0], Res.own (eList (eList eI 3) 56) F1 r.Cells_ [.slice a1 n1 c1]] w') := by
 obtain ⟨c10, c11, rfl, g12, g13⟩ := rdo_Timpl_Schema g0
 obtain ⟨a14, c15, rfl⟩ := rd_sl1 g12
 obtain ⟨a16, c17, rfl⟩ := rd_sl1 g13
 unfold spec_StatsNew at H
 refine f_enter Tryz.func52 rfl Tryz.ntmps52 rfl (HS) <| sR <| ob _ rfl fun b18 => ow_alloc rfl rfl rfl rfl ty68 (fun _ => kp) fun b19 => nQ <| c_seq <| sR <| o1 rfl (rx 0 0 _ rfl ty38 rfl) <| bE H fun y20 h21 H => oq rfl (qc rfl fn46 (fun w1 hw1 => spec_SchemaOk_ok w1 h21 (rdm_Timpl_Schema (rds_bor g12 w1 hw1) (rds_bor g13 w1 hw1)))) tt2 <| oP rfl <| nQ <| cI H rfl (fun H => ?_) (fun H => ?_)
 ·exact sR <| o1 rfl (ry_build2 [] [.slice none 0 0, .slice none 0 0] rfl rfl ty68 fs68 rfl trivial rfl) <| sC 0 [.slice none 0 0, .slice none 0 0] [_, _] 1 rfl ty68 rfl <| nT <| x_qs_ret <| xw_st (fun _ h => St.pushNil (e := eI) (T := 3) h) <| xw_st (fun _ h => St.pushNil (e := eList eI 3) (T := 56) h) <| x_retR (rs := [.cell 2 68]) (vs := [.agg #[.slice none 0 0, .slice none 0 0]]) rfl ⟨⟨_, [.slice none 0 0, .slice none 0 0], _, _, _, rfl, ty68, (at_box (T := 68) 0 (boxIn (i := 1) rfl) rfl), rfl, rfl⟩, trivial⟩ (fun w' hw' => by
   obtain rfl := of_some H
   exact ⟨_, rfl, none, 0, 0, [], none, 0, 0, [], rfl, hw'.sel [2, 3] rfl rfl⟩)
 ·refine c_skip <| x_qs <| sR <| ow_batch [.fa 38 1 1 fa38_1] rfl <| o1 rfl (r1 1 0 rfl ty23 rfl) <| ow_batch [.lenS 23 9 sl23] rfl <| bE H fun l22 h23 H => ow_make (e := eI) (zero := (0 : Int)) rfl rfl rfl rfl rfl rfl sl56 ty3 rfl rfl rfl rfl (fun _ => ⟨rfl, rfl⟩) h23 (fun _ => kp) fun b24 => o1 rfl (ry_build2 [(0, [.slice (some ⟨b24, 0, none⟩) l22.length l22.length])] [.slice (some ⟨b24, 0, none⟩) l22.length l22.length, .slice none 0 0] rfl rfl ty68 fs68 rfl ⟨rfl, rfl, Nat.le_of_ble_eq_true rfl,  trivial⟩ rfl) <| ow_alloc rfl rfl rfl rfl ty68 (fun _ => kp) fun b25 => sC 0 [.slice (some ⟨b24, 0, none⟩) l22.length l22.length, .slice none 0 0] [_, _] 3 rfl ty68 rfl <| nQ <| c_seq <| sR <| oP rfl <| nQ <| c_block <| CW.weak ?_ (fun _ h => St.pushNil (e := eList eI 3) (T := 56) h)
  refine CW.at (loopI5 (fun (l80 : List (List Int)) (a81 : Option Addr) (c82 : Nat) (F83 : List Nat) (i84 : Int) => St w M0 [Res.box b18 38 [.slice a14 p0.Attrs_.length c15, .slice a16 p0.Classes_.length c17], Res.box b19 68 [.slice none 0 0, .slice none 0 0], Res.box b25 68 [.slice (some ⟨b24, 0, none⟩) l22.length l22.length, .slice a81 l80.length c82], Res.own (eList eI 3) [b24] l22 [.slice (some ⟨b24, 0, none⟩) l22.length l22.length], Res.own (eList (eList eI 3) 56) F83 l80 [.slice a81 l80.length c82]]) (fun l80 a81 c82 F83 i84 => [(1, .pointer (some ⟨b18, 0, none⟩)), (2, .pointer (some ⟨b19, 0, none⟩)), (3, .pointer (some ⟨b25, 0, none⟩)), (4, .int .i64 i84)]) (fun kk => fun l80 a81 c82 F83 i84 => spec_StatsNew_L1 p0 l22 kk l80 i84 = some r) (fun _ _ _ _ _ H => ?_) (fun k1 ihk1 l80 a81 c82 F83 i84 H => ?_) Fuel (([] : List (List Int))) (none) (0) ([]) (0) (H)) (fun _ h => by have h2 : St w M0 [Res.box b18 38 [.slice a14 p0.Attrs_.length c15, .slice a16 p0.Classes_.length c17], Res.box b19 68 [.slice none 0 0, .slice none 0 0], Res.box b25 68 [.slice (some ⟨b24, 0, none⟩) l22.length l22.length, .slice none 0 0], Res.own (eList eI 3) [b24] l22 [.slice (some ⟨b24, 0, none⟩) l22.length l22.length], Res.own (eList (eList eI 3) 56) [] ([] : List (List Int)) [.slice none 0 0]] _ := St.sel [0, 1, 3, 2, 4] rfl rfl h; simpa only [List.length_set, List.length_cons, List.length_nil] using h2) (by simp only [Sub, List.length_set, List.length_cons, List.length_nil]; exact ⟨rfl, rfl, rfl, rfl,  trivial⟩)
  ·unfold spec_StatsNew_L1 at H
   exact absurd H (by simp)
  ·unfold spec_StatsNew_L1 at H
   refine c_seq <| sR <| ow_batch [.p, .fa 38 0 0 fa38_0] rfl <| o1 rfl (r1 0 0 rfl ty36 rfl) <| ow_batch [.lenS 36 113 sl36, .p] rfl <| nQ <| cI H rfl (fun H => ?_) (fun H => ?_)
   ·refine c_skip <| x_qs <| c_seq <| c_block <| c_regHT 14 [(0, true), (1, true), (2, true), (3, true), (4, true), (5, true), (6, true), (8, true), (9, true), (10, true), (7, false), (11, true), (12, false), (13, false)] (St w M0 [Res.box b18 38 [.slice a14 p0.Attrs_.length c15, .slice a16 p0.Classes_.length c17], Res.box b19 68 [.slice none 0 0, .slice none 0 0], Res.box b25 68 [.slice (some ⟨b24, 0, none⟩) l22.length l22.length, .slice a81 l80.length c82], Res.own (eList eI 3) [b24] l22 [.slice (some ⟨b24, 0, none⟩) l22.length l22.length], Res.own (eList (eList eI 3) 56) F83 l80 [.slice a81 l80.length c82]]) mixed (by kernel_rfl) (panicOk_qb (panicOk_qs (panicOk_ql (panicOk_qb (panicOk_qs panicOk_body))))) (fun _ h => St.mask [true, true, true, true, true] rfl h) <| ow_batch [.fa 68 1 1 fa68_1] rfl <| ow_rH rfl (dstOk_lt rfl) (r1 1 2 rfl ty66 rfl) <| ow_batch [.fa 38 0 0 fa38_0] rfl <| ow_rH rfl (dstOk_lt rfl) (r1 0 0 rfl ty36 rfl) <| oP rfl <| bE H fun e161 h162 H => ow_ixB rfl rfl rfl rfl rfl sl36 ty113 rfl g12 h162 fun q165 c166 hd163 hA164 => ?_
    obtain ⟨c167, c168, c169, rfl, g170, g171, g172⟩ := rdo_Timpl_Attr hd163
    obtain rfl := g170
    obtain ⟨a173, c174, rfl⟩ := rd_sl1 g171
    obtain ⟨a175, c176, rfl⟩ := rd_sl1 g172
    refine ow_rH rfl (dstOk_lt rfl) (ry_load (cs := [vS e161.Name_, .slice a173 e161.Cuts_.length c174, .slice a175 e161.Values_.length c176]) rfl rfl ty113 (at_bor (fun _ h => h.ext) hA164) rfl) <| ow_batch [.fa 38 1 1 fa38_1] rfl <| ow_rH rfl (dstOk_lt rfl) (r1 1 0 rfl ty23 rfl) <| ow_batch [.lenS 23 9 sl23] rfl <| bE H fun y177 h178 H => oq rfl (qc rfl fn82 (fun w1 hw1 => spec_Bins_ok w1 h178 (rdm_Timpl_Attr rfl (rds_bor g171 w1 hw1) (rds_bor g172 w1 hw1)))) (fun _ h => St.mask [true, true, true, true, true] rfl h) <| oP rfl <| bE H fun l179 h180 H => ow_make (e := eI) (zero := (0 : Int)) rfl rfl rfl rfl rfl rfl sl56 ty3 rfl rfl rfl rfl (fun _ => ⟨rfl, rfl⟩) h180 (fun _ => (fun _ h => St.mask [true, true, true, true, true] rfl h)) fun b181 => ow_bslice [(0, [.slice (some ⟨b181, 0, none⟩) l179.length l179.length])] rfl rfl rfl rfl rfl sl66 ty56 rfl rfl ⟨rfl, rfl, Nat.le_of_ble_eq_true rfl,  trivial⟩ [.slice (some ⟨b181, 0, none⟩) l179.length l179.length] rfl (fun _ => (fun _ h => St.mask [true, true, true, true, true] rfl h)) fun b182 => ow_st rfl (fun _ h => lit1 (p := 6) (q := 5) h rfl rfl rfl) <| ow_nilH <| x_qt <| bE H fun l183 h184 H => ow_appM (r := 4) (j := 7) rfl rfl rfl rfl rfl rfl sl66 ty56 rfl rfl rfl rfl rfl rfl rfl h184 (fun _ _ _ => kp) fun a185 c186 F187 => ow_batch [.fa 68 1 1 fa68_1] rfl <| sC 1 [.slice a185 l183.length c186] [_, _] 2 rfl ty66 rfl <| ow_nil <| x_qb <| x_qs <| CW.weak (C' := St w M0 [_, _, _, _, _]) ?_ (fun _ h => St.sel [0, 1, 2, 3, 8] rfl rfl h)
    exact c_reg <| ow_batch [.p, .p, .p] rfl <| ow_nil <| x_ql (RW.at (ihk1 (l183) (a185) (c186) (F187) (IntKind.i64.wrap (i84 + 1)) (H)) (fun _ h => St.sel [0, 1, 2, 3, 4] rfl rfl h) ⟨rfl, rfl, rfl, rfl, trivial⟩)
   ·exact c_exit <| x_qs_exit <| x_ql_exit <| x_qb_here <| x_qs <| sR <| o1 rfl (rx 0 2 _ rfl ty68 rfl) <| sC 0 [.slice (some ⟨b24, 0, none⟩) l22.length l22.length, .slice a81 l80.length c82] [_, _] 1 rfl ty68 rfl <| nT <| x_retR (rs := [.cell 2 68]) (vs := [.agg #[.slice (some ⟨b24, 0, none⟩) l22.length l22.length, .slice a81 l80.length c82]]) rfl ⟨⟨_, [.slice (some ⟨b24, 0, none⟩) l22.length l22.length, .slice a81 l80.length c82], _, _, _, rfl, ty68, (at_box (T := 68) 0 (boxIn (i := 1) rfl) rfl), rfl, rfl⟩, trivial⟩ (fun w' hw' => by
     obtain rfl := of_some H
     exact ⟨_, rfl, (some ⟨b24, 0, none⟩), l22.length, l22.length, [b24], a81, l80.length, c82, F83, rfl, hw'.sel [3, 4] rfl rfl⟩)
theorem spec_l1Min_ok (w : World) {p0 : Int} {p1 : Int}  {r : Int} (H : spec_l1Min p0 p1 = some r)   :
    Calls Tryz.prog 84 #[.int .i64 p0, .int .i64 p1] w (fun en w' => en = .returned (.int .i64 r) ∧ Ext [] w w') := by
 unfold spec_l1Min at H
 refine f_enter Tryz.func84 rfl Tryz.ntmps84 rfl (St.init w []) <| sR <| oP rfl <| nQ <| c_seq <| sR <| ow_batch [.p, .p, .p] rfl <| nQ <| cI H rfl (fun H => ?_) (fun H => ?_)
 ·exact sR <| oPP rfl <| nT <| x_qs_ret <| xr 4 rfl (by cases H; exact q1)
 ·exact c_skip <| x_qs <| sR <| oPP rfl <| nT <| xr 4 rfl (by cases H; exact q1)
theorem spec_l30End_ok (w : World) {p0 : Timpl_Tree} {p1 : List Timpl_Entry} {p2 : Int} {cs0 : List Value} {a_1 : Option Addr} {n_1 c_1 : Nat} {r : Int} (H : spec_l30End p0 p1 p2 = some r)  (g0 : (eTimpl_Tree).rd w [] p0 cs0) (g1 : (eList (eTimpl_Entry) 83).rd w [] p1 [.slice a_1 n_1 c_1]) :
    Calls Tryz.prog 54 #[.agg cs0.toArray, .slice a_1 n_1 c_1, .int .i64 p2] w (fun en w' => en = .returned (.int .i64 r) ∧ Ext [] w w') := by
 obtain ⟨c10, c11, rfl, g12, g13⟩ := rdo_Timpl_Tree g0
 obtain ⟨a14, c15, rfl⟩ := rd_sl1 g12
 obtain rfl := g13
 obtain rfl := rd_n g1
 unfold spec_l30End at H
 refine f_enter Tryz.func54 rfl Tryz.ntmps54 rfl (St.init w []) <| sR <| ob _ rfl fun b16 => oP rfl <| nQ <| c_seq <| sR <| ow_batch [.fa 44 0 0 fa44_0] rfl <| o1 rfl (r1 0 0 rfl ty42 rfl) <| oP rfl <| bE H fun e17 h18 H => ow_ixB rfl rfl rfl rfl rfl sl42 ty70 rfl g12 h18 fun q21 c22 hd19 hA20 => ?_
 obtain ⟨c23, c24, c25, c26, c27, c28, c29, c30, c31, c32, rfl, g33, g34, g35, g36, g37, g38, g39, g40, g41, g42⟩ := rdo_Timpl_Node hd19
 obtain rfl := g33
 obtain rfl := g34
 obtain ⟨a43, c44, rfl⟩ := rd_sl1 g35
 obtain rfl := g36
 obtain ⟨c45, c46, rfl, g47, g48⟩ := rdo_Timpl_Stats g37
 obtain ⟨a49, c50, rfl⟩ := rd_sl1 g47
 obtain ⟨a51, c52, rfl⟩ := rd_sl1 g48
 obtain rfl := g38
 obtain ⟨a53, c54, rfl⟩ := rd_sl1 g39
 obtain rfl := g40
 obtain rfl := g41
 obtain rfl := g42
 refine ow_batch [.fa 70 0 0 fa70_0] rfl <| o1 rfl (ry_load1 rfl rfl ty4 (at_bor bor (at_K hA20 0 1))) <| nQ <| cI H rfl (fun H => ?_) (fun H => ?_)
 ·exact sR <| ow_batch [.p, .lenS 46 83 sl46, .p] rfl <| nT <| x_qs_ret <| xr 6 rfl (by cases H; exact q1)
 ·refine c_skip <| x_qs <| c_seq <| c_regQ mixed (by kernel_rfl) <| ow_batch [.fa 44 0 0 fa44_0] rfl <| o1 rfl (r1 0 0 rfl ty42 rfl) <| ow_batch [.fa 44 0 0 fa44_0] rfl <| o1 rfl (r1 0 0 rfl ty42 rfl) <| oP rfl <| bE H fun e55 h56 H => ow_ixB rfl rfl rfl rfl rfl sl42 ty70 rfl g12 h56 fun q59 c60 hd57 hA58 => ?_
  obtain ⟨c61, c62, c63, c64, c65, c66, c67, c68, c69, c70, rfl, g71, g72, g73, g74, g75, g76, g77, g78, g79, g80⟩ := rdo_Timpl_Node hd57
  obtain rfl := g71
  obtain rfl := g72
  obtain ⟨a81, c82, rfl⟩ := rd_sl1 g73
  obtain rfl := g74
  obtain ⟨c83, c84, rfl, g85, g86⟩ := rdo_Timpl_Stats g75
  obtain ⟨a87, c88, rfl⟩ := rd_sl1 g85
  obtain ⟨a89, c90, rfl⟩ := rd_sl1 g86
  obtain rfl := g76
  obtain ⟨a91, c92, rfl⟩ := rd_sl1 g77
  obtain rfl := g78
  obtain rfl := g79
  obtain rfl := g80
  refine ow_batch [.fa 70 2 3 fa70_2] rfl <| o1 rfl (ry_load1 rfl rfl ty56 (at_bor bor (at_K hA58 3 1))) <| bE H fun e93 h94 H => ow_ixE (e := eI) (xs := e55.Kids_) (j := 0) rfl rfl rfl rfl rfl sl56 ty3 rfl (fun w1 hw1 => rds_bor g73 w1 hw1) h94 (by rw [Nat.mul_one]) <| o1 rfl (ry_load1 rfl rfl ty3 (at_elV (fun w1 hw1 => rds_bor g73 w1 hw1) h94)) <| bE H fun e95 h96 H => ow_ixB rfl rfl rfl rfl rfl sl42 ty70 rfl g12 h96 fun q99 c100 hd97 hA98 => ?_
  obtain ⟨c101, c102, c103, c104, c105, c106, c107, c108, c109, c110, rfl, g111, g112, g113, g114, g115, g116, g117, g118, g119, g120⟩ := rdo_Timpl_Node hd97
  obtain rfl := g111
  obtain rfl := g112
  obtain ⟨a121, c122, rfl⟩ := rd_sl1 g113
  obtain rfl := g114
  obtain ⟨c123, c124, rfl, g125, g126⟩ := rdo_Timpl_Stats g115
  obtain ⟨a127, c128, rfl⟩ := rd_sl1 g125
  obtain ⟨a129, c130, rfl⟩ := rd_sl1 g126
  obtain rfl := g116
  obtain ⟨a131, c132, rfl⟩ := rd_sl1 g117
  obtain rfl := g118
  obtain rfl := g119
  obtain rfl := g120
  exact ow_batch [.fa 70 9 11 fa70_9] rfl <| o1 rfl (ry_load1 rfl rfl ty3 (at_bor bor (at_K hA98 11 1))) <| ow_batch [.p, .lenS 46 83 sl46] rfl <| bE H fun y133 h134 H => oq rfl (qc rfl fn84 (fun w1 hw1 => spec_l1Min_ok w1  h134)) tt2 <| oP rfl <| ow_nilQ <| x_qs <| c_ret <| xr 6 rfl (by cases H; exact q1)
theorem spec_l1Bit_ok (w : World) {p0 : Bool}  {r : Int} (H : spec_l1Bit p0 = some r)   :
    Calls Tryz.prog 111 #[.bool p0] w (fun en w' => en = .returned (.int .i64 r) ∧ Ext [] w w') := by
 unfold spec_l1Bit at H
 refine f_enter Tryz.func111 rfl Tryz.ntmps111 rfl (St.init w []) <| sR <| oP rfl <| nQ <| c_seq <| sR <| oP rfl <| nQ <| cI H rfl (fun H => ?_) (fun H => ?_)
 ·exact sR <| oP rfl <| nT <| x_qs_ret <| xr 2 rfl (by cases H; exact q1)
 ·exact c_skip <| x_qs <| sR <| oP rfl <| nT <| xr 2 rfl (by cases H; exact q1)
theorem spec_BranchOf_ok (w : World) {p0 : Timpl_Schema} {p1 : Timpl_Fork} {p2 : Int} {cs0 : List Value} {r : Int} (H : spec_BranchOf p0 p1 p2 = some r)  (g0 : (eTimpl_Schema).rd w [] p0 cs0) :
    Calls Tryz.prog 85 #[.agg cs0.toArray, .agg #[.int .i64 p1.Attr_, .int .i64 p1.At_], .int .i64 p2] w (fun en w' => en = .returned (.int .i64 r) ∧ Ext [] w w') := by
 obtain ⟨c10, c11, rfl, g12, g13⟩ := rdo_Timpl_Schema g0
 obtain ⟨a14, c15, rfl⟩ := rd_sl1 g12
 obtain ⟨a16, c17, rfl⟩ := rd_sl1 g13
 unfold spec_BranchOf at H
 refine f_enter Tryz.func85 rfl Tryz.ntmps85 rfl (St.init w []) <| sR <| ob _ rfl fun b18 => ob _ rfl fun b19 => oP rfl <| nQ <| c_seq <| sR <| o1 rfl (rx 0 0 _ rfl ty38 rfl) <| o1 rfl (rx 0 1 _ rfl ty65 rfl) <| bE H fun y20 h21 H => oq rfl (qc rfl fn80 (fun w1 hw1 => spec_ForkOk_ok w1 (p1 := p1) h21 (rdm_Timpl_Schema (rds_bor g12 w1 hw1) (rds_bor g13 w1 hw1)))) tt2 <| oPP rfl <| bE H fun u22 hu44 H => ow_cut [(23, .bool u22), (2, .int .i64 p2), (3, .pointer (some ⟨b18, 0, none⟩)), (4, .pointer (some ⟨b19, 0, none⟩))] 12 ?_ (fun key => OW.sub (R := [(2, .int .i64 p2), (3, .pointer (some ⟨b18, 0, none⟩)), (4, .pointer (some ⟨b19, 0, none⟩)), (11, .bool (!y20))]) ?_ (sb rfl))
 ·refine nQ <| cI H rfl (fun H => ?_) (fun H => ?_)
  ·exact sR <| oP rfl <| nT <| x_qs_ret <| xr 6 rfl (by cases H; exact q1)
  ·refine c_skip <| x_qs <| c_seq <| sR <| ow_batch [.fa 65 1 1 fa65_1] rfl <| o1 rfl (r1 1 1 rfl ty3 rfl) <| oP rfl <| nQ <| cI H rfl (fun H => ?_) (fun H => ?_)
   ·exact sR <| oPP rfl <| nT <| x_qs_ret <| xr 6 rfl (by cases H; exact q1)
   ·refine c_skip <| x_qs <| c_seq <| sR <| ow_batch [.fa 38 0 0 fa38_0] rfl <| o1 rfl (r1 0 0 rfl ty36 rfl) <| ow_batch [.fa 65 0 0 fa65_0] rfl <| o1 rfl (r1 0 1 rfl ty3 rfl) <| bE H fun e45 h46 H => ow_ixB rfl rfl rfl rfl rfl sl36 ty113 rfl g12 h46 fun q49 c50 hd47 hA48 => ?_
    obtain ⟨c51, c52, c53, rfl, g54, g55, g56⟩ := rdo_Timpl_Attr hd47
    obtain rfl := g54
    obtain ⟨a57, c58, rfl⟩ := rd_sl1 g55
    obtain ⟨a59, c60, rfl⟩ := rd_sl1 g56
    refine ow_batch [.fa 113 1 1 fa113_1] rfl <| o1 rfl (ry_load1 rfl rfl ty56 (at_bor bor (at_K hA48 1 1))) <| ow_batch [.lenS 56 3 sl56, .p] rfl <| nQ <| cI H rfl (fun H => ?_) (fun H => ?_)
    ·exact sR <| ow_batch [.p, .fa 65 1 1 fa65_1] rfl <| o1 rfl (r1 1 1 rfl ty3 rfl) <| oP rfl <| bE H fun y61 h62 H => oq rfl (qc rfl fn111 (fun w1 hw1 => spec_l1Bit_ok w1  h62)) tt2 <| oP rfl <| nT <| x_qs_ret <| xr 6 rfl (by cases H; exact q1)
    ·exact c_skip <| x_qs <| sR <| ow_batch [.p, .fa 65 1 1 fa65_1] rfl <| o1 rfl (r1 1 1 rfl ty3 rfl) <| oP rfl <| bE H fun y63 h64 H => oq rfl (qc rfl fn111 (fun w1 hw1 => spec_l1Bit_ok w1  h64)) tt2 <| oP rfl <| nT <| xr 6 rfl (by cases H; exact q1)
 ·clear H
  have H := hu44
  clear hu44
  generalize (!y20) = t43 at H key ⊢
  cases t43
  ·have H := of_if_f rfl H
   refine ow_batch [.p, .fa 38 0 0 fa38_0] rfl <| o1 rfl (r1 0 0 rfl ty36 rfl) <| ow_batch [.fa 65 0 0 fa65_0] rfl <| o1 rfl (r1 0 1 rfl ty3 rfl) <| bE H fun e23 h24 H => ow_ixB rfl rfl rfl rfl rfl sl36 ty113 rfl g12 h24 fun q27 c28 hd25 hA26 => ?_
   obtain ⟨c29, c30, c31, rfl, g32, g33, g34⟩ := rdo_Timpl_Attr hd25
   obtain rfl := g32
   obtain ⟨a35, c36, rfl⟩ := rd_sl1 g33
   obtain ⟨a37, c38, rfl⟩ := rd_sl1 g34
   refine o1 rfl (ry_load (cs := [vS e23.Name_, .slice a35 e23.Cuts_.length c36, .slice a37 e23.Values_.length c38]) rfl rfl ty113 (at_bor bor hA26) rfl) <| bE H fun y39 h40 H => oq rfl (qc rfl fn82 (fun w1 hw1 => spec_Bins_ok w1 h40 (rdm_Timpl_Attr rfl (rds_bor g33 w1 hw1) (rds_bor g34 w1 hw1)))) tt2 <| oP rfl <| bE H fun y41 h42 H => oq rfl (qc rfl fn47 (fun w1 hw1 => spec_l1In_ok w1  h42)) tt2 <| oP rfl <| oP rfl <| ?_
   obtain rfl := of_some H
   exact OW.sub key (sb rfl)
  ·have H := of_if_t rfl H
   refine ow_batch [.p, .p, .p, .p, .p, .p, .p, .p, .p, .p, .p, .p] rfl ?_
   obtain rfl := of_some H
   exact OW.sub key (sb rfl)
theorem spec_l19Walk_ok (w : World) {M0 : List Nat} {p0 : Timpl_Schema} {p1 : Timpl_Tree} {p2 : Timpl_Ex} {cs0 : List Value} {cs1 : List Value} {cs2 : List Value} {r : List Int} (H : spec_l19Walk p0 p1 p2 = some r) (HS : St w M0 [] w) (g0 : (eTimpl_Schema).rd w M0 p0 cs0) (g1 : (eTimpl_Tree).rd w M0 p1 cs1) (g2 : (eTimpl_Ex).rd w M0 p2 cs2) :
    Calls Tryz.prog 55 #[.agg cs0.toArray, .agg cs1.toArray, .agg cs2.toArray] w (fun en w' => ∃ v, en = .returned v ∧ ∃ (a0 : Option Addr), ∃ (n0 : Nat), ∃ (c0 : Nat), ∃ (F0 : List Nat), v = .slice a0 n0 c0 ∧ St w M0 [Res.own (eList eI 3) F0 r [.slice a0 n0 c0]] w') := by
 obtain ⟨c10, c11, rfl, g12, g13⟩ := rdo_Timpl_Schema g0
 obtain ⟨a14, c15, rfl⟩ := rd_sl1 g12
 obtain ⟨a16, c17, rfl⟩ := rd_sl1 g13
 obtain ⟨c18, c19, rfl, g20, g21⟩ := rdo_Timpl_Tree g1
 obtain ⟨a22, c23, rfl⟩ := rd_sl1 g20
 obtain rfl := g21
 obtain ⟨c24, c25, rfl, g26, g27⟩ := rdo_Timpl_Ex g2
 obtain ⟨a28, c29, rfl⟩ := rd_sl1 g26
 obtain rfl := g27
 unfold spec_l19Walk at H
 refine f_enter Tryz.func55 rfl Tryz.ntmps55 rfl (HS) <| sR <| ob _ rfl fun b30 => ob _ rfl fun b31 => ob _ rfl fun b32 => oP rfl <| nR <| ow_blit0 (e := eI) rfl rfl rfl rfl sl56 ty3 (fun _ => kp) fun b33 => oP rfl <| nR <| oP rfl <| nQ <| c_seq <| c_block <| CW.at (loopI5 (fun (l134 : List Int) (a135 : Option Addr) (c136 : Nat) (F137 : List Nat) (i139 : Int) => St w M0 [Res.box b30 38 [.slice a14 p0.Attrs_.length c15, .slice a16 p0.Classes_.length c17], Res.box b31 44 [.slice a22 p1.Nodes_.length c23, .int .i64 p1.Seen_], Res.box b32 81 [.slice a28 p2.Bins_.length c29, .int .i64 p2.Class_], Res.own (eList eI 3) F137 l134 [.slice a135 l134.length c136]]) (fun l134 a135 c136 F137 i139 => [(3, .pointer (some ⟨b30, 0, none⟩)), (4, .pointer (some ⟨b31, 0, none⟩)), (5, .pointer (some ⟨b32, 0, none⟩)), (7, .slice a135 l134.length c136), (8, .int .i64 i139)]) (fun kk => fun l134 a135 c136 F137 i139 => a135.isNone = false ∧ spec_l19Walk_L1 p1 p2 p0 kk l134 i139 = some r) (fun _ _ _ _ _ H => ?_) (fun k1 ihk1 l134 a135 c136 F137 i139 ⟨hz138, H⟩ => ?_) Fuel (([] : List Int)) ((some ⟨b33, 0, none⟩)) (0) ([b33]) (0) (⟨rfl, H⟩)) (fun _ h => by have h2 : St w M0 [Res.box b30 38 [.slice a14 p0.Attrs_.length c15, .slice a16 p0.Classes_.length c17], Res.box b31 44 [.slice a22 p1.Nodes_.length c23, .int .i64 p1.Seen_], Res.box b32 81 [.slice a28 p2.Bins_.length c29, .int .i64 p2.Class_], Res.own (eList eI 3) [b33] ([] : List Int) [.slice (some ⟨b33, 0, none⟩) 0 0]] _ := St.sel [0, 1, 2, 3] rfl rfl h; simpa only [List.length_set, List.length_cons, List.length_nil] using h2) (by simp only [Sub, List.length_set, List.length_cons, List.length_nil]; exact ⟨rfl, rfl, rfl, rfl, rfl,  trivial⟩)
 ·unfold spec_l19Walk_L1 at H
  exact absurd H (by simp)
 ·unfold spec_l19Walk_L1 at H
  refine c_seq <| sR <| ow_batch [.fa 44 0 0 fa44_0] rfl <| o1 rfl (r1 0 1 rfl ty42 rfl) <| oP rfl <| bE H fun e240 h241 H => ow_ixB rfl rfl rfl rfl rfl sl42 ty70 rfl g20 h241 fun q244 c245 hd242 hA243 => ?_
  obtain ⟨c246, c247, c248, c249, c250, c251, c252, c253, c254, c255, rfl, g256, g257, g258, g259, g260, g261, g262, g263, g264, g265⟩ := rdo_Timpl_Node hd242
  obtain rfl := g256
  obtain rfl := g257
  obtain ⟨a266, c267, rfl⟩ := rd_sl1 g258
  obtain rfl := g259
  obtain ⟨c268, c269, rfl, g270, g271⟩ := rdo_Timpl_Stats g260
  obtain ⟨a272, c273, rfl⟩ := rd_sl1 g270
  obtain ⟨a274, c275, rfl⟩ := rd_sl1 g271
  obtain rfl := g261
  obtain ⟨a276, c277, rfl⟩ := rd_sl1 g262
  obtain rfl := g263
  obtain rfl := g264
  obtain rfl := g265
  refine ow_batch [.fa 70 0 0 fa70_0] rfl <| o1 rfl (ry_load1 rfl rfl ty4 (at_bor bor (at_K hA243 0 1))) <| oP rfl <| nQ <| cI H rfl (fun H => ?_) (fun H => ?_)
  ·refine c_skip <| x_qs <| c_block <| sR <| oPP rfl <| ow_blit (val := Value.int .i64) (h1 := fun _ => rfl) [i139] [(0, [.int .i64 i139])] rfl rfl rfl rfl rfl sl56 ty3 rfl rfl rfl ⟨rfl, rfl, Nat.le_of_ble_eq_true rfl,  trivial⟩ rfl rfl (fun _ => kp) fun b278 => bE H fun l279 h280 H => ow_appR (r := 3) (ys := ([i139] : List Int)) rfl rfl rfl rfl rfl rfl sl56 ty3 rfl rfl rfl (fun w1 hw1 => rds_own (e := eList eI 3) (r := 4) rfl w1 hw1) h280 (fun _ _ _ => kp) fun a281 c282 F283 => ow_fact rfl (fun w1 hw1 => own_nn (i := 3) hw1 rfl (app_ne h280)) fun hz284 => oP rfl <| nR <| ow_batch [.fa 44 0 0 fa44_0] rfl <| o1 rfl (r1 0 1 rfl ty42 rfl) <| oP rfl <| bE H fun e285 h286 H => ow_ixB rfl rfl rfl rfl rfl sl42 ty70 rfl g20 h286 fun q289 c290 hd287 hA288 => ?_
   obtain ⟨c291, c292, c293, c294, c295, c296, c297, c298, c299, c300, rfl, g301, g302, g303, g304, g305, g306, g307, g308, g309, g310⟩ := rdo_Timpl_Node hd287
   obtain rfl := g301
   obtain rfl := g302
   obtain ⟨a311, c312, rfl⟩ := rd_sl1 g303
   obtain rfl := g304
   obtain ⟨c313, c314, rfl, g315, g316⟩ := rdo_Timpl_Stats g305
   obtain ⟨a317, c318, rfl⟩ := rd_sl1 g315
   obtain ⟨a319, c320, rfl⟩ := rd_sl1 g316
   obtain rfl := g306
   obtain ⟨a321, c322, rfl⟩ := rd_sl1 g307
   obtain rfl := g308
   obtain rfl := g309
   obtain rfl := g310
   refine o1 rfl (ry_load (cs := [.bool e285.Leaf_, .int .i64 e285.Fork_.Attr_, .int .i64 e285.Fork_.At_, .slice a311 e285.Kids_.length c312, .int .i64 e285.Miss_, .slice a317 e285.Stats_.Totals_.length c318, .slice a319 e285.Stats_.Cells_.length c320, .int .i64 e285.Since_, .slice a321 e285.Attrs_.length c322, .int .i64 e285.Depth_, .int .i64 e285.Up_, .int .i64 e285.Born_]) rfl rfl ty70 (at_bor bor hA288) rfl) <| ow_alloc rfl rfl rfl rfl ty70 (fun _ => kp) fun b323 => sC 0 [.bool e285.Leaf_, .int .i64 e285.Fork_.Attr_, .int .i64 e285.Fork_.At_, .slice a311 e285.Kids_.length c312, .int .i64 e285.Miss_, .slice a317 e285.Stats_.Totals_.length c318, .slice a319 e285.Stats_.Cells_.length c320, .int .i64 e285.Since_, .slice a321 e285.Attrs_.length c322, .int .i64 e285.Depth_, .int .i64 e285.Up_, .int .i64 e285.Born_] [_, _, _, _, _, _, _, _, _, _, _, _] 5 rfl ty70 rfl <| nR <| ow_batch [.fa 70 3 4 fa70_3] rfl <| o1 rfl (r1 4 5 rfl ty3 rfl) <| oP rfl <| nQ <| c_seq <| sR <| ow_batch [.fa 81 0 0 fa81_0] rfl <| o1 rfl (r1 0 2 rfl ty56 rfl) <| ow_batch [.fa 70 1 1 fa70_1, .fa 65 0 0 fa65_0] rfl <| o1 rfl (r1 1 5 rfl ty3 rfl) <| bE H fun e324 h325 H => ow_ixE (e := eI) (xs := p2.Bins_) (j := e285.Fork_.Attr_) rfl rfl rfl rfl rfl sl56 ty3 rfl (fun w1 hw1 => rds_bor g26 w1 hw1) h325 (by rw [Nat.mul_one]) <| o1 rfl (ry_load1 rfl rfl ty3 (at_elV (fun w1 hw1 => rds_bor g26 w1 hw1) h325)) <| oP rfl <| nQ <| cI H rfl (fun H => ?_) (fun H => ?_)
   ·exact c_regQ mixed (by kernel_rfl) <| o1 rfl (rx 0 0 _ rfl ty38 rfl) <| ow_batch [.fa 70 1 1 fa70_1] rfl <| o1 rfl (rx 1 5 _ rfl ty65 rfl) <| ow_batch [.fa 81 0 0 fa81_0] rfl <| o1 rfl (r1 0 2 rfl ty56 rfl) <| ow_batch [.fa 70 1 1 fa70_1, .fa 65 0 0 fa65_0] rfl <| o1 rfl (r1 1 5 rfl ty3 rfl) <| bE H fun e326 h327 H => ow_ixE (e := eI) (xs := p2.Bins_) (j := e285.Fork_.Attr_) rfl rfl rfl rfl rfl sl56 ty3 rfl (fun w1 hw1 => rds_bor g26 w1 hw1) h327 (by rw [Nat.mul_one]) <| o1 rfl (ry_load1 rfl rfl ty3 (at_elV (fun w1 hw1 => rds_bor g26 w1 hw1) h327)) <| bE H fun y328 h329 H => oq rfl (qc rfl fn85 (fun w1 hw1 => spec_BranchOf_ok w1 (p1 := e285.Fork_) h329 (rdm_Timpl_Schema (rds_bor g12 w1 hw1) (rds_bor g13 w1 hw1)))) tt2 <| oP rfl <| ow_nilQ <| x_qs <| c_reg <| ow_batch [.fa 70 2 3 fa70_2] rfl <| o1 rfl (r1 3 5 rfl ty56 rfl) <| oP rfl <| bE H fun e330 h331 H => ow_ixE (e := eI) (xs := e285.Kids_) (j := y328) rfl rfl rfl rfl rfl sl56 ty3 rfl (fun w1 hw1 => rds_bor g303 w1 hw1) h331 (by rw [Nat.mul_one]) <| o1 rfl (ry_load1 rfl rfl ty3 (at_elV (fun w1 hw1 => rds_bor g303 w1 hw1) h331)) <| oP rfl <| ow_nil <| x_qb <| x_ql (RW.at (ihk1 (l279) (a281) (c282) (F283) (e330) (⟨hz284, H⟩)) (fun _ h => St.sel [0, 1, 2, 3] rfl rfl h) ⟨rfl, rfl, rfl, rfl, rfl, trivial⟩)
   ·exact c_skip <| x_qs <| c_reg <| ow_batch [.fa 70 2 3 fa70_2] rfl <| o1 rfl (r1 3 5 rfl ty56 rfl) <| oP rfl <| bE H fun e332 h333 H => ow_ixE (e := eI) (xs := e285.Kids_) (j := e285.Miss_) rfl rfl rfl rfl rfl sl56 ty3 rfl (fun w1 hw1 => rds_bor g303 w1 hw1) h333 (by rw [Nat.mul_one]) <| o1 rfl (ry_load1 rfl rfl ty3 (at_elV (fun w1 hw1 => rds_bor g303 w1 hw1) h333)) <| oP rfl <| ow_nil <| x_qb <| x_ql (RW.at (ihk1 (l279) (a281) (c282) (F283) (e332) (⟨hz284, H⟩)) (fun _ h => St.sel [0, 1, 2, 3] rfl rfl h) ⟨rfl, rfl, rfl, rfl, rfl, trivial⟩)
  ·exact c_exit <| x_qs_exit <| x_ql_exit <| x_qb_here <| x_qs <| sR <| oPP rfl <| ow_blit (val := Value.int .i64) (h1 := fun _ => rfl) [i139] [(0, [.int .i64 i139])] rfl rfl rfl rfl rfl sl56 ty3 rfl rfl rfl ⟨rfl, rfl, Nat.le_of_ble_eq_true rfl,  trivial⟩ rfl rfl (fun _ => kp) fun b334 => bE H fun l335 h336 H => ow_appR (r := 3) (ys := ([i139] : List Int)) rfl rfl rfl rfl rfl rfl sl56 ty3 rfl rfl rfl (fun w1 hw1 => rds_own (e := eList eI 3) (r := 4) rfl w1 hw1) h336 (fun _ _ _ => kp) fun a337 c338 F339 => ow_fact rfl (fun w1 hw1 => own_nn (i := 3) hw1 rfl (app_ne h336)) fun hz340 => oP rfl <| nT <| x_retR (rs := [.tmp 6]) (vs := [.slice a337 l335.length c338]) rfl ⟨rfl, trivial⟩ (fun w' hw' => by
    obtain rfl := of_some H
    exact ⟨_, rfl, a337, l335.length, c338, F339, rfl, hw'.sel [3] rfl rfl⟩)
theorem spec_l30Own_ok (w : World) {M0 : List Nat} {p0 : Timpl_Schema} {p1 : Timpl_Tree} {p2 : List Timpl_Entry} {p3 : Int} {cs0 : List Value} {cs1 : List Value} {a_2 : Option Addr} {n_2 c_2 : Nat} {r : List Int} (H : spec_l30Own p0 p1 p2 p3 = some r) (HS : St w M0 [] w) (g0 : (eTimpl_Schema).rd w M0 p0 cs0) (g1 : (eTimpl_Tree).rd w M0 p1 cs1) (g2 : (eList (eTimpl_Entry) 83).rd w M0 p2 [.slice a_2 n_2 c_2]) :
    Calls Tryz.prog 26 #[.agg cs0.toArray, .agg cs1.toArray, .slice a_2 n_2 c_2, .int .i64 p3] w (fun en w' => ∃ v, en = .returned v ∧ ∃ (a0 : Option Addr), ∃ (n0 : Nat), ∃ (c0 : Nat), ∃ (F0 : List Nat), v = .slice a0 n0 c0 ∧ St w M0 [Res.own (eList eI 3) F0 r [.slice a0 n0 c0]] w') := by
 obtain ⟨c10, c11, rfl, g12, g13⟩ := rdo_Timpl_Schema g0
 obtain ⟨a14, c15, rfl⟩ := rd_sl1 g12
 obtain ⟨a16, c17, rfl⟩ := rd_sl1 g13
 obtain ⟨c18, c19, rfl, g20, g21⟩ := rdo_Timpl_Tree g1
 obtain ⟨a22, c23, rfl⟩ := rd_sl1 g20
 obtain rfl := g21
 obtain rfl := rd_n g2
 unfold spec_l30Own at H
 refine f_enter Tryz.func26 rfl Tryz.ntmps26 rfl (HS) <| sR <| ob _ rfl fun b24 => ob _ rfl fun b25 => oP rfl <| nR <| ow_blit0 (e := eI) rfl rfl rfl rfl sl56 ty3 (fun _ => kp) fun b26 => oP rfl <| nQ <| c_seq <| sR <| ow_batch [.fa 44 0 0 fa44_0] rfl <| o1 rfl (r1 0 1 rfl ty42 rfl) <| oP rfl <| bE H fun e27 h28 H => ow_ixB rfl rfl rfl rfl rfl sl42 ty70 rfl g20 h28 fun q31 c32 hd29 hA30 => ?_
 obtain ⟨c33, c34, c35, c36, c37, c38, c39, c40, c41, c42, rfl, g43, g44, g45, g46, g47, g48, g49, g50, g51, g52⟩ := rdo_Timpl_Node hd29
 obtain rfl := g43
 obtain rfl := g44
 obtain ⟨a53, c54, rfl⟩ := rd_sl1 g45
 obtain rfl := g46
 obtain ⟨c55, c56, rfl, g57, g58⟩ := rdo_Timpl_Stats g47
 obtain ⟨a59, c60, rfl⟩ := rd_sl1 g57
 obtain ⟨a61, c62, rfl⟩ := rd_sl1 g58
 obtain rfl := g48
 obtain ⟨a63, c64, rfl⟩ := rd_sl1 g49
 obtain rfl := g50
 obtain rfl := g51
 obtain rfl := g52
 refine ow_batch [.fa 70 9 11 fa70_9] rfl <| o1 rfl (ry_load1 rfl rfl ty3 (at_bor bor (at_K hA30 11 1))) <| oP rfl <| nQ <| c_block <| CW.at (loopI5 (fun (i132 : Int) (l133 : List Int) (a134 : Option Addr) (c135 : Nat) (F136 : List Nat) => St w M0 [Res.box b24 38 [.slice a14 p0.Attrs_.length c15, .slice a16 p0.Classes_.length c17], Res.box b25 44 [.slice a22 p1.Nodes_.length c23, .int .i64 p1.Seen_], Res.own (eList eI 3) F136 l133 [.slice a134 l133.length c135]]) (fun i132 l133 a134 c135 F136 => [(2, .slice a_2 p2.length c_2), (3, .int .i64 p3), (4, .pointer (some ⟨b24, 0, none⟩)), (5, .pointer (some ⟨b25, 0, none⟩)), (9, .slice a134 l133.length c135), (10, .int .i64 i132)]) (fun kk => fun i132 l133 a134 c135 F136 => a134.isNone = false ∧ spec_l30Own_L1 p1 p2 p3 p0 kk i132 l133 = some r) (fun _ _ _ _ _ H => ?_) (fun k1 ihk1 i132 l133 a134 c135 F136 ⟨hz137, H⟩ => ?_) Fuel (e27.Born_) (([] : List Int)) ((some ⟨b26, 0, none⟩)) (0) ([b26]) (⟨rfl, H⟩)) (fun _ h => by have h2 : St w M0 [Res.box b24 38 [.slice a14 p0.Attrs_.length c15, .slice a16 p0.Classes_.length c17], Res.box b25 44 [.slice a22 p1.Nodes_.length c23, .int .i64 p1.Seen_], Res.own (eList eI 3) [b26] ([] : List Int) [.slice (some ⟨b26, 0, none⟩) 0 0]] _ := St.sel [0, 1, 2] rfl rfl h; simpa only [List.length_set, List.length_cons, List.length_nil] using h2) (by simp only [Sub, List.length_set, List.length_cons, List.length_nil]; exact ⟨rfl, rfl, rfl, rfl, rfl, rfl,  trivial⟩)
 ·unfold spec_l30Own_L1 at H
  exact absurd H (by simp)
 ·unfold spec_l30Own_L1 at H
  refine c_seq <| sR <| oP rfl <| o1 rfl (rx 0 1 _ rfl ty44 rfl) <| oPP rfl <| bE H fun y205 h206 H => oq rfl (qc rfl fn54 (fun w1 hw1 => spec_l30End_ok w1 h206 (rdm_Timpl_Tree (rds_bor g20 w1 hw1) rfl) (rds_bor g2 w1 hw1))) tt2 <| oP rfl <| nQ <| cI H rfl (fun H => ?_) (fun H => ?_)
  ·refine c_skip <| x_qs <| c_seq <| c_block <| c_seq <| c_regHT 9 [(0, true), (1, true), (2, true), (3, true), (4, true), (5, true), (6, true), (8, true), (7, false)] (St w M0 [Res.box b24 38 [.slice a14 p0.Attrs_.length c15, .slice a16 p0.Classes_.length c17], Res.box b25 44 [.slice a22 p1.Nodes_.length c23, .int .i64 p1.Seen_], Res.own (eList eI 3) F136 l133 [.slice a134 l133.length c135]]) mixed (by kernel_rfl) (panicOk_qs (panicOk_qb (panicOk_qs (panicOk_ql (panicOk_qb (panicOk_qs panicOk_body)))))) (fun _ h => St.mask [true, true, true] rfl h) <| ow_rH rfl (dstOk_lt rfl) (rx 0 0 _ rfl ty38 rfl) <| ow_rH rfl (dstOk_lt rfl) (rx 0 1 _ rfl ty44 rfl) <| oPP rfl <| bE H fun e232 h233 H => ow_ixB rfl rfl rfl rfl rfl sl46 ty83 rfl g2 h233 fun q236 c237 hd234 hA235 => ?_
   obtain ⟨c238, c239, rfl, g240, g241⟩ := rdo_Timpl_Entry hd234
   obtain ⟨c242, c243, rfl, g244, g245⟩ := rdo_Timpl_Ex g240
   obtain ⟨a246, c247, rfl⟩ := rd_sl1 g244
   obtain rfl := g245
   obtain rfl := g241
   refine ow_batch [.fa 83 0 0 fa83_0] rfl <| ow_rH rfl (dstOk_lt rfl) (ry_load (cs := [.slice a246 e232.Ex_.Bins_.length c247, .int .i64 e232.Ex_.Class_]) rfl rfl ty81 (at_bor (fun _ h => h.ext) (at_K hA235 0 2)) rfl) <| oP rfl <| bE H fun y248 h249 H => ow_callS rfl fn55 rfl rfl rfl rfl (fun w1 hw1 => spec_l19Walk_ok w1 h249 (hw1.carve [] rfl rfl) (rdm_Timpl_Schema (rds_bor g12 w1 hw1) (rds_bor g13 w1 hw1)) (rdm_Timpl_Tree (rds_bor g20 w1 hw1) rfl) (rdm_Timpl_Ex (rds_bor g244 w1 hw1) rfl)) fun v250 w1 w2 hw1 hR252 => ?_
   obtain ⟨a253, n254, c255, F256, rfl, hS251⟩ := hR252
   obtain rfl := own_nS (i := 0) hS251 rfl
   refine ⟨St w M0 [_, _, _, _], hw1.comp [] rfl rfl hS251, (fun _ h => St.mask [true, true, true] rfl h), ?_⟩
   refine ow_nilH <| x_qt <| bE H fun y257 h258 H => oq rfl (qc rfl fn50 (fun w1 hw1 => spec_l19Among_ok w1  h258 (rds_own (e := eList eI 3) (r := 3) rfl w1 hw1))) tt2 <| nQ <| cI H rfl (fun H => ?_) (fun H => ?_)
   ·exact c_reg <| oPP rfl <| ow_blit (val := Value.int .i64) (h1 := fun _ => rfl) [i132] [(0, [.int .i64 i132])] rfl rfl rfl rfl rfl sl56 ty3 rfl rfl rfl ⟨rfl, rfl, Nat.le_of_ble_eq_true rfl,  trivial⟩ rfl rfl (fun _ => kp) fun b259 => bE H fun l260 h261 H => ow_appR (r := 2) (ys := ([i132] : List Int)) rfl rfl rfl rfl rfl rfl sl56 ty3 rfl rfl rfl (fun w1 hw1 => rds_own (e := eList eI 3) (r := 4) rfl w1 hw1) h261 (fun _ _ _ => kp) fun a262 c263 F264 => ow_fact rfl (fun w1 hw1 => own_nn (i := 2) hw1 rfl (app_ne h261)) fun hz265 => oP rfl <| ow_nil <| x_qb <| x_qs <| c_reg <| ow_batch [.p, .p, .p] rfl <| ow_nil <| x_ql (RW.at (ihk1 (IntKind.i64.wrap (i132 + 1)) (l260) (a262) (c263) (F264) (⟨hz265, H⟩)) (fun _ h => St.sel [0, 1, 2] rfl rfl h) ⟨rfl, rfl, rfl, rfl, rfl, rfl, trivial⟩)
   ·exact c_skip <| x_qb <| x_qs <| c_reg <| ow_batch [.p, .p, .p] rfl <| ow_nil <| x_ql (RW.at (ihk1 (IntKind.i64.wrap (i132 + 1)) (l133) (a134) (c135) (F136) (⟨hz137, H⟩)) (fun _ h => St.sel [0, 1, 2] rfl rfl h) ⟨rfl, rfl, rfl, rfl, rfl, rfl, trivial⟩)
  ·exact c_exit <| x_qs_exit <| x_ql_exit <| x_qb_here <| x_qs <| sR <| oPP rfl <| nT <| x_retR (rs := [.tmp 8]) (vs := [.slice a134 l133.length c135]) rfl ⟨rfl, trivial⟩ (fun w' hw' => by
    obtain rfl := of_some H
    exact ⟨_, rfl, a134, l133.length, c135, F136, rfl, hw'.sel [2] rfl rfl⟩)
theorem spec_l8Copy_ok (w : World) {M0 : List Nat} {p0 : Timpl_Stats} {cs0 : List Value} {r : Timpl_Stats} (H : spec_l8Copy p0 = some r) (HS : St w M0 [] w) (g0 : (eTimpl_Stats).rd w M0 p0 cs0) :
    Calls Tryz.prog 83 #[.agg cs0.toArray] w (fun en w' => ∃ v, en = .returned v ∧ ∃ (a0 : Option Addr), ∃ (n0 : Nat), ∃ (c0 : Nat), ∃ (F0 : List Nat), ∃ (a1 : Option Addr), ∃ (n1 : Nat), ∃ (c1 : Nat), ∃ (F1 : List Nat), v = .agg #[.slice a0 n0 c0, .slice a1 n1 c1] ∧ St w M0 [Res.own (eList eI 3) F0 r.Totals_ [.slice a0 n0 c0], Res.own (eList (eList eI 3) 56) F1 r.Cells_ [.slice a1 n1 c1]] w') := by
 obtain ⟨c10, c11, rfl, g12, g13⟩ := rdo_Timpl_Stats g0
 obtain ⟨a14, c15, rfl⟩ := rd_sl1 g12
 obtain ⟨a16, c17, rfl⟩ := rd_sl1 g13
 unfold spec_l8Copy at H
 refine f_enter Tryz.func83 rfl Tryz.ntmps83 rfl (HS) <| sR <| ob _ rfl fun b18 => ow_alloc rfl rfl rfl rfl ty68 (fun _ => kp) fun b19 => nR <| ow_blit0 (e := eI) rfl rfl rfl rfl sl56 ty3 (fun _ => kp) fun b20 => ow_batch [.fa 68 0 0 fa68_0] rfl <| o1 rfl (r1 0 0 rfl ty56 rfl) <| bE H fun l21 h22 H => ow_appR (r := 2) (ys := p0.Totals_) rfl rfl rfl rfl rfl rfl sl56 ty3 rfl rfl rfl (fun w1 hw1 => rds_bor g12 w1 hw1) h22 (fun _ _ _ => kp) fun a23 c24 F25 => o1 rfl (ry_build2 [(0, [.slice a23 l21.length c24])] [.slice a23 l21.length c24, .slice none 0 0] rfl rfl ty68 fs68 rfl ⟨rfl, rfl, Nat.le_of_ble_eq_true rfl,  trivial⟩ rfl) <| ow_alloc rfl rfl rfl rfl ty68 (fun _ => kp) fun b26 => sC 0 [.slice a23 l21.length c24, .slice none 0 0] [_, _] 3 rfl ty68 rfl <| nQ <| c_seq <| sR <| oP rfl <| nQ <| c_block <| CW.weak ?_ (fun _ h => St.pushNil (e := eList eI 3) (T := 56) h)
 refine CW.at (loopI5 (fun (l67 : List (List Int)) (a68 : Option Addr) (c69 : Nat) (F70 : List Nat) (i71 : Int) => St w M0 [Res.box b18 68 [.slice a14 p0.Totals_.length c15, .slice a16 p0.Cells_.length c17], Res.box b19 68 [.slice none 0 0, .slice none 0 0], Res.box b26 68 [.slice a23 l21.length c24, .slice a68 l67.length c69], Res.own (eList eI 3) F25 l21 [.slice a23 l21.length c24], Res.own (eList (eList eI 3) 56) F70 l67 [.slice a68 l67.length c69]]) (fun l67 a68 c69 F70 i71 => [(1, .pointer (some ⟨b18, 0, none⟩)), (2, .pointer (some ⟨b19, 0, none⟩)), (3, .pointer (some ⟨b26, 0, none⟩)), (4, .int .i64 i71)]) (fun kk => fun l67 a68 c69 F70 i71 => spec_l8Copy_L1 p0 l21 kk l67 i71 = some r) (fun _ _ _ _ _ H => ?_) (fun k1 ihk1 l67 a68 c69 F70 i71 H => ?_) Fuel (([] : List (List Int))) (none) (0) ([]) (0) (H)) (fun _ h => by have h2 : St w M0 [Res.box b18 68 [.slice a14 p0.Totals_.length c15, .slice a16 p0.Cells_.length c17], Res.box b19 68 [.slice none 0 0, .slice none 0 0], Res.box b26 68 [.slice a23 l21.length c24, .slice none 0 0], Res.own (eList eI 3) F25 l21 [.slice a23 l21.length c24], Res.own (eList (eList eI 3) 56) [] ([] : List (List Int)) [.slice none 0 0]] _ := St.sel [0, 1, 3, 2, 4] rfl rfl h; simpa only [List.length_set, List.length_cons, List.length_nil] using h2) (by simp only [Sub, List.length_set, List.length_cons, List.length_nil]; exact ⟨rfl, rfl, rfl, rfl,  trivial⟩)
 ·unfold spec_l8Copy_L1 at H
  exact absurd H (by simp)
 ·unfold spec_l8Copy_L1 at H
  refine c_seq <| sR <| ow_batch [.p, .fa 68 1 1 fa68_1] rfl <| o1 rfl (r1 1 0 rfl ty66 rfl) <| ow_batch [.lenS 66 56 sl66, .p] rfl <| nQ <| cI H rfl (fun H => ?_) (fun H => ?_)
  ·refine c_skip <| x_qs <| c_seq <| c_block <| c_regHT 10 [(0, true), (1, true), (3, true), (4, true), (5, true), (6, true), (7, true), (2, false), (8, false), (9, false)] (St w M0 [Res.box b18 68 [.slice a14 p0.Totals_.length c15, .slice a16 p0.Cells_.length c17], Res.box b19 68 [.slice none 0 0, .slice none 0 0], Res.box b26 68 [.slice a23 l21.length c24, .slice a68 l67.length c69], Res.own (eList eI 3) F25 l21 [.slice a23 l21.length c24], Res.own (eList (eList eI 3) 56) F70 l67 [.slice a68 l67.length c69]]) mixed (by kernel_rfl) (panicOk_qb (panicOk_qs (panicOk_ql (panicOk_qb (panicOk_qs panicOk_body))))) (fun _ h => St.mask [true, true, true, true, true] rfl h) <| ow_batch [.fa 68 1 1 fa68_1] rfl <| ow_rH rfl (dstOk_lt rfl) (r1 1 2 rfl ty66 rfl) <| ow_batch [.fa 68 1 1 fa68_1] rfl <| ow_rH rfl (dstOk_lt rfl) (r1 1 0 rfl ty66 rfl) <| oP rfl <| bE H fun e127 h128 H => ow_ixB rfl rfl rfl rfl rfl sl66 ty56 rfl g13 h128 fun q131 c132 hd129 hA130 => ?_
   obtain ⟨a133, c134, rfl⟩ := rd_sl1 hd129
   refine ow_rH rfl (dstOk_lt rfl) (ry_load1 rfl rfl ty56 (at_bor (fun _ h => h.ext) hA130)) <| ow_blit0 (e := eI) rfl rfl rfl rfl sl56 ty3 (fun _ => (fun _ h => St.mask [true, true, true, true, true] rfl h)) fun b135 => bE H fun l136 h137 H => ow_appR (r := 5) (ys := e127) rfl rfl rfl rfl rfl rfl sl56 ty3 rfl rfl rfl (fun w1 hw1 => rds_bor hd129 w1 hw1) h137 (fun _ _ _ => (fun _ h => St.mask [true, true, true, true, true] rfl h)) fun a138 c139 F140 => ow_bslice [(0, [.slice a138 l136.length c139])] rfl rfl rfl rfl rfl sl66 ty56 rfl rfl ⟨rfl, rfl, Nat.le_of_ble_eq_true rfl,  trivial⟩ [.slice a138 l136.length c139] rfl (fun _ => (fun _ h => St.mask [true, true, true, true, true] rfl h)) fun b141 => ow_st rfl (fun _ h => lit1 (p := 6) (q := 5) h rfl rfl rfl) <| ow_nilH <| x_qt <| bE H fun l142 h143 H => ow_appM (r := 4) (j := 7) rfl rfl rfl rfl rfl rfl sl66 ty56 rfl rfl rfl rfl rfl rfl rfl h143 (fun _ _ _ => kp) fun a144 c145 F146 => ow_batch [.fa 68 1 1 fa68_1] rfl <| sC 1 [.slice a144 l142.length c145] [_, _] 2 rfl ty66 rfl <| ow_nil <| x_qb <| x_qs <| CW.weak (C' := St w M0 [_, _, _, _, _]) ?_ (fun _ h => St.sel [0, 1, 2, 3, 8] rfl rfl h)
   exact c_reg <| ow_batch [.p, .p, .p] rfl <| ow_nil <| x_ql (RW.at (ihk1 (l142) (a144) (c145) (F146) (IntKind.i64.wrap (i71 + 1)) (H)) (fun _ h => St.sel [0, 1, 2, 3, 4] rfl rfl h) ⟨rfl, rfl, rfl, rfl, trivial⟩)
  ·exact c_exit <| x_qs_exit <| x_ql_exit <| x_qb_here <| x_qs <| sR <| o1 rfl (rx 0 2 _ rfl ty68 rfl) <| sC 0 [.slice a23 l21.length c24, .slice a68 l67.length c69] [_, _] 1 rfl ty68 rfl <| nT <| x_retR (rs := [.cell 2 68]) (vs := [.agg #[.slice a23 l21.length c24, .slice a68 l67.length c69]]) rfl ⟨⟨_, [.slice a23 l21.length c24, .slice a68 l67.length c69], _, _, _, rfl, ty68, (at_box (T := 68) 0 (boxIn (i := 1) rfl) rfl), rfl, rfl⟩, trivial⟩ (fun w' hw' => by
    obtain rfl := of_some H
    exact ⟨_, rfl, a23, l21.length, c24, F25, a68, l67.length, c69, F70, rfl, hw'.sel [3, 4] rfl rfl⟩)
theorem spec_StatsAdd_ok (w : World) {M0 : List Nat} {p0 : Timpl_Schema} {p1 : Timpl_Stats} {p2 : Timpl_Ex} {p3 : Int} {cs0 : List Value} {cs1 : List Value} {cs2 : List Value} {r : Timpl_Stats × Bool} (H : spec_StatsAdd p0 p1 p2 p3 = some r) (HS : St w M0 [] w) (g0 : (eTimpl_Schema).rd w M0 p0 cs0) (g1 : (eTimpl_Stats).rd w M0 p1 cs1) (g2 : (eTimpl_Ex).rd w M0 p2 cs2) :
    Calls Tryz.prog 53 #[.agg cs0.toArray, .agg cs1.toArray, .agg cs2.toArray, .int .i64 p3] w (fun en w' => ∃ v, en = .returned v ∧ ∃ (a0 : Option Addr), ∃ (n0 : Nat), ∃ (c0 : Nat), ∃ (F0 : List Nat), ∃ (a1 : Option Addr), ∃ (n1 : Nat), ∃ (c1 : Nat), ∃ (F1 : List Nat), v = .tuple #[.agg #[.slice a0 n0 c0, .slice a1 n1 c1], .bool r.2] ∧ St w M0 [Res.own (eList eI 3) F0 r.1.Totals_ [.slice a0 n0 c0], Res.own (eList (eList eI 3) 56) F1 r.1.Cells_ [.slice a1 n1 c1]] w') := by
 obtain ⟨c10, c11, rfl, g12, g13⟩ := rdo_Timpl_Schema g0
 obtain ⟨a14, c15, rfl⟩ := rd_sl1 g12
 obtain ⟨a16, c17, rfl⟩ := rd_sl1 g13
 obtain ⟨c18, c19, rfl, g20, g21⟩ := rdo_Timpl_Stats g1
 obtain ⟨a22, c23, rfl⟩ := rd_sl1 g20
 obtain ⟨a24, c25, rfl⟩ := rd_sl1 g21
 obtain ⟨c26, c27, rfl, g28, g29⟩ := rdo_Timpl_Ex g2
 obtain ⟨a30, c31, rfl⟩ := rd_sl1 g28
 obtain rfl := g29
 unfold spec_StatsAdd at H
 refine f_enter Tryz.func53 rfl Tryz.ntmps53 rfl (HS) <| sR <| ob _ rfl fun b32 => ob _ rfl fun b33 => ob _ rfl fun b34 => ow_alloc rfl rfl rfl rfl ty68 (fun _ => kp) fun b35 => oP rfl <| nR <| o1 rfl (rx 0 1 _ rfl ty68 rfl) <| bE H fun y36 h37 H => ow_callS rfl fn83 rfl rfl rfl rfl (fun w1 hw1 => spec_l8Copy_ok w1 h37 (hw1.carve [] rfl rfl) (rdm_Timpl_Stats (rds_bor g20 w1 hw1) (rds_bor g21 w1 hw1))) fun v38 w1 w2 hw1 hR40 => ?_
 obtain ⟨a41, n42, c43, F44, a45, n46, c47, F48, rfl, hS39⟩ := hR40
 obtain rfl := own_nS (i := 0) hS39 rfl
 obtain rfl := own_nS (i := 1) hS39 rfl
 refine ⟨St w M0 [_, _, _, _, _, _], hw1.comp [] rfl rfl hS39, fun _ _ => trivial, ?_⟩
 refine ow_alloc rfl rfl rfl rfl ty68 (fun _ => kp) fun b49 => sC 0 [.slice a41 y36.Totals_.length c43, .slice a45 y36.Cells_.length c47] [_, _] 6 rfl ty68 rfl <| nQ <| c_seq <| sR <| o1 rfl (rx 0 0 _ rfl ty38 rfl) <| o1 rfl (rx 0 1 _ rfl ty68 rfl) <| bE H fun y50 h51 H => oq rfl (qc rfl fn77 (fun w1 hw1 => spec_StatsOk_ok w1 h51 (rdm_Timpl_Schema (rds_bor g12 w1 hw1) (rds_bor g13 w1 hw1)) (rdm_Timpl_Stats (rds_bor g20 w1 hw1) (rds_bor g21 w1 hw1)))) tt2 <| oPP rfl <| bE H fun u52 hu56 H => ow_cut [(24, .bool u52), (3, .int .i64 p3), (4, .pointer (some ⟨b32, 0, none⟩)), (5, .pointer (some ⟨b33, 0, none⟩)), (6, .pointer (some ⟨b34, 0, none⟩)), (8, .pointer (some ⟨b35, 0, none⟩)), (10, .pointer (some ⟨b49, 0, none⟩))] 5 ?_ (fun key => OW.sub (R := [(3, .int .i64 p3), (4, .pointer (some ⟨b32, 0, none⟩)), (5, .pointer (some ⟨b33, 0, none⟩)), (6, .pointer (some ⟨b34, 0, none⟩)), (8, .pointer (some ⟨b35, 0, none⟩)), (10, .pointer (some ⟨b49, 0, none⟩)), (19, .bool (!y50))]) ?_ (sb rfl))
 ·refine oP rfl <| ow_cut [(29, .bool (u52 || (decide (p2.Class_ < 0)))), (3, .int .i64 p3), (4, .pointer (some ⟨b32, 0, none⟩)), (5, .pointer (some ⟨b33, 0, none⟩)), (6, .pointer (some ⟨b34, 0, none⟩)), (8, .pointer (some ⟨b35, 0, none⟩)), (10, .pointer (some ⟨b49, 0, none⟩))] 4 ?_ (fun key => OW.sub (R := [(3, .int .i64 p3), (4, .pointer (some ⟨b32, 0, none⟩)), (5, .pointer (some ⟨b33, 0, none⟩)), (6, .pointer (some ⟨b34, 0, none⟩)), (8, .pointer (some ⟨b35, 0, none⟩)), (10, .pointer (some ⟨b49, 0, none⟩)), (25, .bool u52)]) ?_ (sb rfl))
  ·refine oP rfl <| bE H fun u59 hu63 H => ow_cut [(34, .bool u59), (3, .int .i64 p3), (4, .pointer (some ⟨b32, 0, none⟩)), (5, .pointer (some ⟨b33, 0, none⟩)), (6, .pointer (some ⟨b34, 0, none⟩)), (8, .pointer (some ⟨b35, 0, none⟩)), (10, .pointer (some ⟨b49, 0, none⟩))] 4 ?_ (fun key => OW.sub (R := [(3, .int .i64 p3), (4, .pointer (some ⟨b32, 0, none⟩)), (5, .pointer (some ⟨b33, 0, none⟩)), (6, .pointer (some ⟨b34, 0, none⟩)), (8, .pointer (some ⟨b35, 0, none⟩)), (10, .pointer (some ⟨b49, 0, none⟩)), (30, .bool (u52 || (decide (p2.Class_ < 0))))]) ?_ (sb rfl))
   ·refine oP rfl <| bE H fun u65 hu69 H => ow_cut [(42, .bool u65), (3, .int .i64 p3), (4, .pointer (some ⟨b32, 0, none⟩)), (6, .pointer (some ⟨b34, 0, none⟩)), (8, .pointer (some ⟨b35, 0, none⟩)), (10, .pointer (some ⟨b49, 0, none⟩))] 7 ?_ (fun key => OW.sub (R := [(3, .int .i64 p3), (4, .pointer (some ⟨b32, 0, none⟩)), (5, .pointer (some ⟨b33, 0, none⟩)), (6, .pointer (some ⟨b34, 0, none⟩)), (8, .pointer (some ⟨b35, 0, none⟩)), (10, .pointer (some ⟨b49, 0, none⟩)), (35, .bool u59)]) ?_ (sb rfl))
    ·refine nQ <| cI H rfl (fun H => ?_) (fun H => ?_)
     ·exact sR <| o1 rfl (rx 0 6 _ rfl ty68 rfl) <| sC 0 [.slice a41 y36.Totals_.length c43, .slice a45 y36.Cells_.length c47] [_, _] 3 rfl ty68 rfl <| oP rfl <| nT <| x_qs_ret <| x_retR (rs := [.cell 8 68, .tmp 9]) (vs := [.agg #[.slice a41 y36.Totals_.length c43, .slice a45 y36.Cells_.length c47], .bool false]) rfl ⟨⟨_, [.slice a41 y36.Totals_.length c43, .slice a45 y36.Cells_.length c47], _, _, _, rfl, ty68, (at_box (T := 68) 0 (boxIn (i := 3) rfl) rfl), rfl, rfl⟩, rfl, trivial⟩ (fun w' hw' => by
       obtain rfl := of_some H
       exact ⟨_, rfl, a41, y36.Totals_.length, c43, F44, a45, y36.Cells_.length, c47, F48, rfl, hw'.sel [4, 5] rfl rfl⟩)
     ·refine c_skip <| x_qs <| c_seq <| c_regT 13 mixed (by kernel_rfl) <| ow_batch [.fa 68 0 0 fa68_0] rfl <| o1 rfl (r1 0 6 rfl ty56 rfl) <| ow_batch [.fa 81 1 1 fa81_1] rfl <| o1 rfl (r1 1 2 rfl ty3 rfl) <| ow_batch [.fa 68 0 0 fa68_0] rfl <| o1 rfl (r1 0 6 rfl ty56 rfl) <| ow_batch [.fa 81 1 1 fa81_1] rfl <| o1 rfl (r1 1 2 rfl ty3 rfl) <| bE H fun e70 h71 H => ow_ixE (e := eI) (xs := y36.Totals_) (j := p2.Class_) rfl rfl rfl rfl rfl sl56 ty3 rfl (fun w1 hw1 => rds_own (e := eList eI 3) (r := 4) rfl w1 hw1) h71 (by rw [Nat.mul_one]) <| o1 rfl (ry_load1 rfl rfl ty3 (at_elV (fun w1 hw1 => rds_own (e := eList eI 3) (r := 4) rfl w1 hw1) h71)) <| oPP rfl <| bE H fun e72 h73 H => ow_ixE (e := eI) (xs := y36.Totals_) (j := p2.Class_) rfl rfl rfl rfl rfl sl56 ty3 rfl (fun w1 hw1 => rds_own (e := eList eI 3) (r := 4) rfl w1 hw1) h73 (by rw [Nat.mul_one]) <| ow_nilQ <| ow_storeV (i := 4) (j := p2.Class_) rfl rfl rfl rfl rfl rfl ty3 rfl h73 (fun _ => rfl) kp <| nQ <| c_seq <| sR <| oP rfl <| nQ <| c_block <| CW.at (loopI3 (fun (l98 : List (List Int)) (F99 : List Nat) (i100 : Int) => St w M0 [Res.box b49 68 [.slice a41 y36.Totals_.length c43, .slice a45 y36.Cells_.length c47], Res.own (eList eI 3) F44 (y36.Totals_.set p2.Class_.toNat (IntKind.i64.wrap (e70 + p3))) [.slice a41 y36.Totals_.length c43], Res.own (eList (eList eI 3) 56) F99 l98 [.slice a45 y36.Cells_.length c47], Res.box b32 38 [.slice a14 p0.Attrs_.length c15, .slice a16 p0.Classes_.length c17], Res.box b34 81 [.slice a30 p2.Bins_.length c31, .int .i64 p2.Class_], Res.box b35 68 [.slice none 0 0, .slice none 0 0]]) (fun l98 F99 i100 => [(3, .int .i64 p3), (4, .pointer (some ⟨b32, 0, none⟩)), (6, .pointer (some ⟨b34, 0, none⟩)), (8, .pointer (some ⟨b35, 0, none⟩)), (10, .pointer (some ⟨b49, 0, none⟩)), (11, .int .i64 i100)]) (fun kk => fun l98 F99 i100 => spec_StatsAdd_L1 y36 p2 p0 p3 e70 kk l98 i100 = some r) (fun _ _ _ H => ?_) (fun k1 ihk1 l98 F99 i100 H => ?_) Fuel (y36.Cells_) (F48) (0) (H)) (fun _ h => St.sel [6, 4, 5, 0, 2, 3] rfl rfl h) ⟨rfl, rfl, rfl, rfl, rfl, rfl, trivial⟩
      ·unfold spec_StatsAdd_L1 at H
       exact absurd H (by simp)
      ·unfold spec_StatsAdd_L1 at H
       refine c_seq <| sR <| ow_batch [.p, .fa 68 1 1 fa68_1] rfl <| o1 rfl (r1 1 0 rfl ty66 rfl) <| ow_batch [.lenS 66 56 sl66, .p] rfl <| nQ <| cI H rfl (fun H => ?_) (fun H => ?_)
       ·refine c_skip <| x_qs <| c_seq <| c_block <| sR <| ow_batch [.fa 81 0 0 fa81_0] rfl <| o1 rfl (r1 0 4 rfl ty56 rfl) <| oP rfl <| bE H fun e125 h126 H => ow_ixE (e := eI) (xs := p2.Bins_) (j := i100) rfl rfl rfl rfl rfl sl56 ty3 rfl (fun w1 hw1 => rds_bor g28 w1 hw1) h126 (by rw [Nat.mul_one]) <| o1 rfl (ry_load1 rfl rfl ty3 (at_elV (fun w1 hw1 => rds_bor g28 w1 hw1) h126)) <| oP rfl <| nQ <| cI H rfl (fun H => ?_) (fun H => ?_)
        ·refine c_seq <| c_regQ mixed (by kernel_rfl) <| ow_batch [.fa 81 0 0 fa81_0] rfl <| o1 rfl (r1 0 4 rfl ty56 rfl) <| oP rfl <| bE H fun e127 h128 H => ow_ixE (e := eI) (xs := p2.Bins_) (j := i100) rfl rfl rfl rfl rfl sl56 ty3 rfl (fun w1 hw1 => rds_bor g28 w1 hw1) h128 (by rw [Nat.mul_one]) <| o1 rfl (ry_load1 rfl rfl ty3 (at_elV (fun w1 hw1 => rds_bor g28 w1 hw1) h128)) <| ow_batch [.fa 38 1 1 fa38_1] rfl <| o1 rfl (r1 1 3 rfl ty23 rfl) <| ow_batch [.lenS 23 9 sl23, .p, .fa 81 1 1 fa81_1] rfl <| o1 rfl (r1 1 4 rfl ty3 rfl) <| oPP rfl <| ow_nilQ <| x_qs <| bE H fun e129 h130 H => cw_ex4 (fun w1 hw1 => foc (r := 2) hw1 rfl h130) fun b132 G133 F134 c135 => cw_fact (fun w1 hw1 => hw1.1) fun q131 => ?_
         obtain ⟨ha136, hn137⟩ := q131
         refine CW.weak (C' := St w M0 [_, _, _, _, _, _, _, _]) ?_ (fun w1 hw1 => hw1.2)
         refine cw_ex2 (fun w1 hw1 => opn_sl (i := 7) hw1 rfl) fun a138 c139 => cw_fact (fun w1 hw1 => hw1.1) fun q140 => ?_
         subst q140
         refine CW.weak (C' := St w M0 [_, _, _, _, _, _, _, _]) ?_ (fun w1 hw1 => hw1.2)
         exact c_regT 17 mixed (by kernel_rfl) <| ow_batch [.fa 68 1 1 fa68_1] rfl <| o1 rfl (r1 1 0 rfl ty66 rfl) <| oP rfl <| ow_ixH rfl rfl rfl rfl rfl sl66 ty56 rfl (holeIn (p := 6) rfl) hn137 ha136 (idx_some h130).1 <| o1 rfl (ry_hole1 6 0 rfl rfl rfl ty56 (by first | rfl | simp only [add_lit, add_add, add_zero]) rfl) <| ow_batch [.p, .fa 68 1 1 fa68_1] rfl <| o1 rfl (r1 1 0 rfl ty66 rfl) <| oP rfl <| ow_ixH rfl rfl rfl rfl rfl sl66 ty56 rfl (holeIn (p := 6) rfl) hn137 ha136 (idx_some h130).1 <| o1 rfl (ry_hole1 6 0 rfl rfl rfl ty56 (by first | rfl | simp only [add_lit, add_add, add_zero]) rfl) <| oP rfl <| bE H fun e141 h142 H => ow_ixE (e := eI) (xs := e129) (j := IntKind.i64.wrap ((IntKind.i64.wrap (e127 * (p0.Classes_.length : Int))) + p2.Class_)) rfl rfl rfl rfl rfl sl56 ty3 rfl (fun w1 hw1 => rds_own (e := eList eI 3) (r := 7) rfl w1 hw1) h142 (by rw [Nat.mul_one]) <| o1 rfl (ry_load1 rfl rfl ty3 (at_elV (fun w1 hw1 => rds_own (e := eList eI 3) (r := 7) rfl w1 hw1) h142)) <| oPP rfl <| bE H fun e143 h144 H => ow_ixE (e := eI) (xs := e129) (j := IntKind.i64.wrap ((IntKind.i64.wrap (e127 * (p0.Classes_.length : Int))) + p2.Class_)) rfl rfl rfl rfl rfl sl56 ty3 rfl (fun w1 hw1 => rds_own (e := eList eI 3) (r := 7) rfl w1 hw1) h144 (by rw [Nat.mul_one]) <| ow_nilQ <| ow_storeV (i := 7) (j := IntKind.i64.wrap ((IntKind.i64.wrap (e127 * (p0.Classes_.length : Int))) + p2.Class_)) rfl rfl rfl rfl rfl rfl ty3 rfl h144 (fun _ => rfl) kp <| ow_nil <| x_qb <| x_qs <| c_reg <| ow_batch [.p, .p, .p] rfl <| ow_nil <| xw_ex (fun w1 hw1 => unf (p := 6) (q := 7) hw1 rfl rfl rfl hn137 ha136) fun F145 => xw_st (C' := St w M0 [_, _, _, _, _, _, _, _, _]) (fun _ h => h) <| x_ql (RW.at (ihk1 ((l98.set i100.toNat (e129.set (IntKind.i64.wrap ((IntKind.i64.wrap (e127 * (p0.Classes_.length : Int))) + p2.Class_)).toNat (IntKind.i64.wrap (e141 + p3))))) (F145) (IntKind.i64.wrap (i100 + 1)) (H)) (fun _ h => St.sel [0, 1, 8, 3, 4, 5] rfl rfl h) ⟨rfl, rfl, rfl, rfl, rfl, rfl, trivial⟩)
        ·exact c_skip <| x_qb <| x_qs <| c_reg <| ow_batch [.p, .p, .p] rfl <| ow_nil <| x_ql (RW.at (ihk1 (l98) (F99) (IntKind.i64.wrap (i100 + 1)) (H)) (fun _ h => St.sel [0, 1, 2, 3, 4, 5] rfl rfl h) ⟨rfl, rfl, rfl, rfl, rfl, rfl, trivial⟩)
       ·exact c_exit <| x_qs_exit <| x_ql_exit <| x_qb_here <| x_qs <| sR <| o1 rfl (rx 0 0 _ rfl ty68 rfl) <| sC 0 [.slice a41 y36.Totals_.length c43, .slice a45 y36.Cells_.length c47] [_, _] 5 rfl ty68 rfl <| oP rfl <| nT <| x_retR (rs := [.cell 8 68, .tmp 9]) (vs := [.agg #[.slice a41 y36.Totals_.length c43, .slice a45 y36.Cells_.length c47], .bool true]) rfl ⟨⟨_, [.slice a41 y36.Totals_.length c43, .slice a45 y36.Cells_.length c47], _, _, _, rfl, ty68, (at_box (T := 68) 0 (boxIn (i := 5) rfl) rfl), rfl, rfl⟩, rfl, trivial⟩ (fun w' hw' => by
         obtain rfl := of_some H
         exact ⟨_, rfl, a41, y36.Totals_.length, c43, F44, a45, y36.Cells_.length, c47, F99, rfl, hw'.sel [1, 2] rfl rfl⟩)
    ·clear H
     have H := hu69
     clear hu69
     generalize u59 = t68 at H key ⊢
     cases t68
     ·have H := of_if_f rfl H
      refine o1 rfl (rx 0 0 _ rfl ty38 rfl) <| o1 rfl (rx 0 1 _ rfl ty68 rfl) <| bE H fun y66 h67 H => oq rfl (qc rfl fn79 (fun w1 hw1 => spec_StatsTotal_ok w1 h67 (rdm_Timpl_Schema (rds_bor g12 w1 hw1) (rds_bor g13 w1 hw1)) (rdm_Timpl_Stats (rds_bor g20 w1 hw1) (rds_bor g21 w1 hw1)))) tt2 <| ow_batch [.p, .p, .p] rfl <| oP rfl <| ?_
      obtain rfl := of_some H
      exact OW.sub key (sb rfl)
     ·have H := of_if_t rfl H
      refine ow_batch [.p, .p, .p, .p, .p, .p, .p] rfl ?_
      obtain rfl := of_some H
      exact OW.sub key (sb rfl)
   ·clear H
    have H := hu63
    clear hu63
    generalize (u52 || (decide (p2.Class_ < 0))) = t62 at H key ⊢
    cases t62
    ·have H := of_if_f rfl H
     refine oP rfl <| bE H fun y60 h61 H => oq rfl (qc rfl fn47 (fun w1 hw1 => spec_l1In_ok w1  h61)) tt2 <| oP rfl <| oP rfl <| ?_
     obtain rfl := of_some H
     exact OW.sub key (sb rfl)
    ·have H := of_if_t rfl H
     refine ow_batch [.p, .p, .p, .p] rfl ?_
     obtain rfl := of_some H
     exact OW.sub key (sb rfl)
  ·generalize u52 = t58 at key ⊢
   cases t58
   ·exact ow_batch [.fa 81 1 1 fa81_1] rfl <| o1 rfl (r1 1 2 rfl ty3 rfl) <| oP rfl <| oP rfl <| OW.sub key (sb rfl)
   ·exact ow_batch [.p, .p, .p, .p] rfl <| OW.sub key (sb rfl)
 ·clear H
  have H := hu56
  clear hu56
  generalize (!y50) = t55 at H key ⊢
  cases t55
  ·have H := of_if_f rfl H
   refine o1 rfl (rx 0 0 _ rfl ty38 rfl) <| o1 rfl (rx 0 2 _ rfl ty81 rfl) <| bE H fun y53 h54 H => oq rfl (qc rfl fn51 (fun w1 hw1 => spec_ExOk_ok w1 h54 (rdm_Timpl_Schema (rds_bor g12 w1 hw1) (rds_bor g13 w1 hw1)) (rdm_Timpl_Ex (rds_bor g28 w1 hw1) rfl))) tt2 <| oP rfl <| oP rfl <| ?_
   obtain rfl := of_some H
   exact OW.sub key (sb rfl)
  ·have H := of_if_t rfl H
   refine ow_batch [.p, .p, .p, .p, .p] rfl ?_
   obtain rfl := of_some H
   exact OW.sub key (sb rfl)
theorem spec_NodeTruth_ok (w : World) {M0 : List Nat} {p0 : Timpl_Schema} {p1 : Timpl_Tree} {p2 : List Timpl_Entry} {p3 : Int} {cs0 : List Value} {cs1 : List Value} {a_2 : Option Addr} {n_2 c_2 : Nat} {r : Timpl_Stats} (H : spec_NodeTruth p0 p1 p2 p3 = some r) (HS : St w M0 [] w) (g0 : (eTimpl_Schema).rd w M0 p0 cs0) (g1 : (eTimpl_Tree).rd w M0 p1 cs1) (g2 : (eList (eTimpl_Entry) 83).rd w M0 p2 [.slice a_2 n_2 c_2]) :
    Calls Tryz.prog 23 #[.agg cs0.toArray, .agg cs1.toArray, .slice a_2 n_2 c_2, .int .i64 p3] w (fun en w' => ∃ v, en = .returned v ∧ ∃ (a0 : Option Addr), ∃ (n0 : Nat), ∃ (c0 : Nat), ∃ (F0 : List Nat), ∃ (a1 : Option Addr), ∃ (n1 : Nat), ∃ (c1 : Nat), ∃ (F1 : List Nat), v = .agg #[.slice a0 n0 c0, .slice a1 n1 c1] ∧ St w M0 [Res.own (eList eI 3) F0 r.Totals_ [.slice a0 n0 c0], Res.own (eList (eList eI 3) 56) F1 r.Cells_ [.slice a1 n1 c1]] w') := by
 obtain ⟨c10, c11, rfl, g12, g13⟩ := rdo_Timpl_Schema g0
 obtain ⟨a14, c15, rfl⟩ := rd_sl1 g12
 obtain ⟨a16, c17, rfl⟩ := rd_sl1 g13
 obtain ⟨c18, c19, rfl, g20, g21⟩ := rdo_Timpl_Tree g1
 obtain ⟨a22, c23, rfl⟩ := rd_sl1 g20
 obtain rfl := g21
 obtain rfl := rd_n g2
 unfold spec_NodeTruth at H
 refine f_enter Tryz.func23 rfl Tryz.ntmps23 rfl (HS) <| sR <| ob _ rfl fun b24 => ob _ rfl fun b25 => ow_alloc rfl rfl rfl rfl ty68 (fun _ => kp) fun b26 => nQ <| c_seq <| sR <| o1 rfl (rx 0 0 _ rfl ty38 rfl) <| o1 rfl (rx 0 1 _ rfl ty44 rfl) <| bE H fun y27 h28 H => oq rfl (qc rfl fn20 (fun w1 hw1 => spec_TreeOk_ok w1 h28 (rdm_Timpl_Schema (rds_bor g12 w1 hw1) (rds_bor g13 w1 hw1)) (rdm_Timpl_Tree (rds_bor g20 w1 hw1) rfl))) tt2 <| oPP rfl <| bE H fun u29 hu33 H => ow_cut [(21, .bool u29), (2, .slice a_2 p2.length c_2), (3, .int .i64 p3), (4, .pointer (some ⟨b24, 0, none⟩)), (5, .pointer (some ⟨b25, 0, none⟩)), (8, .pointer (some ⟨b26, 0, none⟩))] 5 ?_ (fun key => OW.sub (R := [(2, .slice a_2 p2.length c_2), (3, .int .i64 p3), (4, .pointer (some ⟨b24, 0, none⟩)), (5, .pointer (some ⟨b25, 0, none⟩)), (8, .pointer (some ⟨b26, 0, none⟩)), (16, .bool (!y27))]) ?_ (sb rfl))
 ·refine oP rfl <| bE H fun u34 hu38 H => ow_cut [(30, .bool u34), (2, .slice a_2 p2.length c_2), (3, .int .i64 p3), (4, .pointer (some ⟨b24, 0, none⟩)), (5, .pointer (some ⟨b25, 0, none⟩)), (8, .pointer (some ⟨b26, 0, none⟩))] 8 ?_ (fun key => OW.sub (R := [(2, .slice a_2 p2.length c_2), (3, .int .i64 p3), (4, .pointer (some ⟨b24, 0, none⟩)), (5, .pointer (some ⟨b25, 0, none⟩)), (8, .pointer (some ⟨b26, 0, none⟩)), (22, .bool u29)]) ?_ (sb rfl))
  ·refine nQ <| cI H rfl (fun H => ?_) (fun H => ?_)
   ·exact sR <| o1 rfl (ry_build2 [] [.slice none 0 0, .slice none 0 0] rfl rfl ty68 fs68 rfl trivial rfl) <| sC 0 [.slice none 0 0, .slice none 0 0] [_, _] 2 rfl ty68 rfl <| nT <| x_qs_ret <| xw_st (fun _ h => St.pushNil (e := eI) (T := 3) h) <| xw_st (fun _ h => St.pushNil (e := eList eI 3) (T := 56) h) <| x_retR (rs := [.cell 8 68]) (vs := [.agg #[.slice none 0 0, .slice none 0 0]]) rfl ⟨⟨_, [.slice none 0 0, .slice none 0 0], _, _, _, rfl, ty68, (at_box (T := 68) 0 (boxIn (i := 2) rfl) rfl), rfl, rfl⟩, trivial⟩ (fun w' hw' => by
     obtain rfl := of_some H
     exact ⟨_, rfl, none, 0, 0, [], none, 0, 0, [], rfl, hw'.sel [3, 4] rfl rfl⟩)
   ·refine c_skip <| x_qs <| sR <| o1 rfl (rx 0 0 _ rfl ty38 rfl) <| bE H fun y39 h40 H => ow_callS rfl fn52 rfl rfl rfl rfl (fun w1 hw1 => spec_StatsNew_ok w1 h40 (hw1.carve [] rfl rfl) (rdm_Timpl_Schema (rds_bor g12 w1 hw1) (rds_bor g13 w1 hw1))) fun v41 w1 w2 hw1 hR43 => ?_
    obtain ⟨a44, n45, c46, F47, a48, n49, c50, F51, rfl, hS42⟩ := hR43
    obtain rfl := own_nS (i := 0) hS42 rfl
    obtain rfl := own_nS (i := 1) hS42 rfl
    refine ⟨St w M0 [_, _, _, _, _], hw1.comp [] rfl rfl hS42, fun _ _ => trivial, ?_⟩
    refine ow_alloc rfl rfl rfl rfl ty68 (fun _ => kp) fun b52 => sC 0 [.slice a44 y39.Totals_.length c46, .slice a48 y39.Cells_.length c50] [_, _] 5 rfl ty68 rfl <| nR <| o1 rfl (rx 0 0 _ rfl ty38 rfl) <| o1 rfl (rx 0 1 _ rfl ty44 rfl) <| oPP rfl <| bE H fun y53 h54 H => ow_callS rfl fn26 rfl rfl rfl rfl (fun w1 hw1 => spec_l30Own_ok w1 h54 (hw1.carve [] rfl rfl) (rdm_Timpl_Schema (rds_bor g12 w1 hw1) (rds_bor g13 w1 hw1)) (rdm_Timpl_Tree (rds_bor g20 w1 hw1) rfl) (rds_bor g2 w1 hw1)) fun v55 w1 w2 hw1 hR57 => ?_
    obtain ⟨a58, n59, c60, F61, rfl, hS56⟩ := hR57
    obtain rfl := own_nS (i := 0) hS56 rfl
    refine ⟨St w M0 [_, _, _, _, _, _, _], hw1.comp [] rfl rfl hS56, fun _ _ => trivial, ?_⟩
    refine oP rfl <| nQ <| c_seq <| sR <| oP rfl <| nQ <| c_block <| CW.at (loopI9 (fun (i169 : Int) (l170 : List Int) (a171 : Option Addr) (c172 : Nat) (F173 : List Nat) (l174 : List (List Int)) (a175 : Option Addr) (c176 : Nat) (F177 : List Nat) => St w M0 [Res.own (eList eI 3) F61 y53 [.slice a58 y53.length c60], Res.box b24 38 [.slice a14 p0.Attrs_.length c15, .slice a16 p0.Classes_.length c17], Res.box b26 68 [.slice none 0 0, .slice none 0 0], Res.box b52 68 [.slice a171 l170.length c172, .slice a175 l174.length c176], Res.own (eList eI 3) F173 l170 [.slice a171 l170.length c172], Res.own (eList (eList eI 3) 56) F177 l174 [.slice a175 l174.length c176]]) (fun i169 l170 a171 c172 F173 l174 a175 c176 F177 => [(2, .slice a_2 p2.length c_2), (4, .pointer (some ⟨b24, 0, none⟩)), (8, .pointer (some ⟨b26, 0, none⟩)), (9, .pointer (some ⟨b52, 0, none⟩)), (10, .slice a58 y53.length c60), (11, .int .i64 i169)]) (fun kk => fun i169 l170 a171 c172 F173 l174 a175 c176 F177 => spec_NodeTruth_L1 y53 p2 p0 kk i169 l170 l174 = some r) (fun _ _ _ _ _ _ _ _ _ H => ?_) (fun k1 ihk1 i169 l170 a171 c172 F173 l174 a175 c176 F177 H => ?_) Fuel (0) (y39.Totals_) (a44) (c46) (F47) (y39.Cells_) (a48) (c50) (F51) (H)) (fun _ h => St.sel [6, 0, 2, 5, 3, 4] rfl rfl h) ⟨rfl, rfl, rfl, rfl, rfl, rfl, trivial⟩
    ·unfold spec_NodeTruth_L1 at H
     exact absurd H (by simp)
    ·unfold spec_NodeTruth_L1 at H
     refine c_seq <| sR <| ow_batch [.p, .p, .lenS 56 3 sl56, .p] rfl <| nQ <| cI H rfl (fun H => ?_) (fun H => ?_)
     ·refine c_skip <| x_qs <| c_seq <| c_block <| bE H fun e334 h335 H => bE H fun e336 h337 H => bE H fun e352 h353 H => bE H fun e354 h355 H => bE H fun y370 h371 H => c_regB0 [(0, true), (2, true), (3, true), (4, true), (5, true), (6, true), (7, true), (8, true), (9, true), (10, true), (11, true), (12, true), (13, true), (14, true), (15, true), (16, true), (17, true), (1, false), (18, false), (19, true), (20, true), (21, true), (22, false)] Br.done (St w M0 [Res.own (eList eI 3) F61 y53 [.slice a58 y53.length c60], Res.box b24 38 [.slice a14 p0.Attrs_.length c15, .slice a16 p0.Classes_.length c17], Res.box b26 68 [.slice none 0 0, .slice none 0 0], Res.nil, Res.own (eList eI 3) F173 l170 [.slice a171 l170.length c172], Res.own (eList (eList eI 3) 56) F177 l174 [.slice a175 l174.length c176]]) mixed (by kernel_rfl) (panicOk_qb (panicOk_qs (panicOk_ql (panicOk_qb (panicOk_qs panicOk_body))))) (fun _ h => St.mask [true, true, true, false, true, true] rfl h) <| ow_rH rfl (dstOk_lt rfl) (rx 0 1 _ rfl ty38 rfl) <| ow_batch [.p, .p, .p] rfl <| ow_ixE (e := eI) (xs := y53) (j := i169) rfl rfl rfl rfl rfl sl56 ty3 rfl (fun w1 hw1 => rds_own (e := eList eI 3) (r := 0) rfl w1 hw1) h335 (by rw [Nat.mul_one]) <| ow_rH rfl (dstOk_lt rfl) (ry_load1 rfl rfl ty3 (at_elV (fun w1 hw1 => rds_own (e := eList eI 3) (r := 0) rfl w1 hw1) h335)) <| ow_ixB rfl rfl rfl rfl rfl sl46 ty83 rfl g2 h337 fun q340 c341 hd338 hA339 => ?_
      obtain ⟨c342, c343, rfl, g344, g345⟩ := rdo_Timpl_Entry hd338
      obtain ⟨c346, c347, rfl, g348, g349⟩ := rdo_Timpl_Ex g344
      obtain ⟨a350, c351, rfl⟩ := rd_sl1 g348
      obtain rfl := g349
      obtain rfl := g345
      refine ow_batch [.fa 83 0 0 fa83_0] rfl <| ow_rH rfl (dstOk_lt rfl) (ry_load (cs := [.slice a350 e336.Ex_.Bins_.length c351, .int .i64 e336.Ex_.Class_]) rfl rfl ty81 (at_bor (fun _ h => h.ext) (at_K hA339 0 2)) rfl) <| ow_batch [.p, .p, .p] rfl <| ow_ixE (e := eI) (xs := y53) (j := i169) rfl rfl rfl rfl rfl sl56 ty3 rfl (fun w1 hw1 => rds_own (e := eList eI 3) (r := 0) rfl w1 hw1) h353 (by rw [Nat.mul_one]) <| ow_rH rfl (dstOk_lt rfl) (ry_load1 rfl rfl ty3 (at_elV (fun w1 hw1 => rds_own (e := eList eI 3) (r := 0) rfl w1 hw1) h353)) <| ow_ixB rfl rfl rfl rfl rfl sl46 ty83 rfl g2 h355 fun q358 c359 hd356 hA357 => ?_
      obtain ⟨c360, c361, rfl, g362, g363⟩ := rdo_Timpl_Entry hd356
      obtain ⟨c364, c365, rfl, g366, g367⟩ := rdo_Timpl_Ex g362
      obtain ⟨a368, c369, rfl⟩ := rd_sl1 g366
      obtain rfl := g367
      obtain rfl := g363
      refine ow_batch [.fa 83 1 2 fa83_1] rfl <| ow_rH rfl (dstOk_lt rfl) (ry_load1 rfl rfl ty3 (at_bor (fun _ h => h.ext) (at_K hA357 2 1))) <| ow_rL rfl rfl (dstOk_lt rfl) (rx 0 3 _ rfl ty68 rfl) <| ow_callS rfl fn53 rfl rfl rfl rfl (fun w1 hw1 => spec_StatsAdd_ok w1 h371 (hw1.carve [] rfl rfl) (rdm_Timpl_Schema (x := p0) (c0 := [.slice a14 p0.Attrs_.length c15]) (c1 := [.slice a16 p0.Classes_.length c17]) (rds_bor g12 w1 hw1) (rds_bor g13 w1 hw1)) (rdm_Timpl_Stats (x := (Timpl_Stats.mk l170 l174)) (c0 := [.slice a171 l170.length c172]) (c1 := [.slice a175 l174.length c176]) (rds_own (e := eList eI 3) (r := 4) rfl w1 hw1) (rds_own (e := eList (eList eI 3) 56) (r := 5) rfl w1 hw1)) (rdm_Timpl_Ex (x := e336.Ex_) (c0 := [.slice a350 e336.Ex_.Bins_.length c351]) (c1 := [.int .i64 e336.Ex_.Class_]) (rds_bor g348 w1 hw1) rfl)) fun v372 w1 w2 hw1 hR374 => ?_
      obtain ⟨a375, n376, c377, F378, a379, n380, c381, F382, rfl, hS373⟩ := hR374
      obtain rfl := own_nS (i := 0) hS373 rfl
      obtain rfl := own_nS (i := 1) hS373 rfl
      refine ⟨St w M0 [_, _, _, _, _, _, _, _], hw1.comp [] rfl rfl hS373, (fun _ h => St.mask [true, true, true, false, true, true] rfl h), ?_⟩
      exact ow_batch [.p, .p, .p] rfl <| ow_storeC (off := 0) [.slice a375 y370.1.Totals_.length c377, .slice a379 y370.1.Cells_.length c381] [_, _] (i := 3) rfl rfl rfl rfl rfl rfl ty68 rfl rfl (by intro u hu; simp only [List.mem_cons, List.not_mem_nil, or_false] at hu; rcases hu with rfl | rfl <;> rfl) rfl rfl rfl (fun _ h => St.mask [true, true, true, false, true, true] rfl h) <| ow_nilH <| x_done0 <| x_qb <| x_qs <| c_reg <| ow_batch [.p, .p, .p] rfl <| ow_nil <| x_ql (RW.at (ihk1 (IntKind.i64.wrap (i169 + 1)) (y370.1.Totals_) (a375) (c377) (F378) (y370.1.Cells_) (a379) (c381) (F382) (H)) (fun _ h => St.sel [0, 1, 2, 3, 6, 7] rfl rfl h) ⟨rfl, rfl, rfl, rfl, rfl, rfl, trivial⟩)
     ·exact c_exit <| x_qs_exit <| x_ql_exit <| x_qb_here <| x_qs <| sR <| o1 rfl (rx 0 3 _ rfl ty68 rfl) <| sC 0 [.slice a171 l170.length c172, .slice a175 l174.length c176] [_, _] 2 rfl ty68 rfl <| nT <| x_retR (rs := [.cell 8 68]) (vs := [.agg #[.slice a171 l170.length c172, .slice a175 l174.length c176]]) rfl ⟨⟨_, [.slice a171 l170.length c172, .slice a175 l174.length c176], _, _, _, rfl, ty68, (at_box (T := 68) 0 (boxIn (i := 2) rfl) rfl), rfl, rfl⟩, trivial⟩ (fun w' hw' => by
       obtain rfl := of_some H
       exact ⟨_, rfl, a171, l170.length, c172, F173, a175, l174.length, c176, F177, rfl, hw'.sel [4, 5] rfl rfl⟩)
  ·clear H
   have H := hu38
   clear hu38
   generalize u29 = t37 at H key ⊢
   cases t37
   ·have H := of_if_f rfl H
    refine ow_batch [.p, .fa 44 0 0 fa44_0] rfl <| o1 rfl (r1 0 1 rfl ty42 rfl) <| ow_batch [.lenS 42 70 sl42, .p] rfl <| bE H fun y35 h36 H => oq rfl (qc rfl fn47 (fun w1 hw1 => spec_l1In_ok w1  h36)) tt2 <| oP rfl <| oP rfl <| ?_
    obtain rfl := of_some H
    exact OW.sub key (sb rfl)
   ·have H := of_if_t rfl H
    refine ow_batch [.p, .p, .p, .p, .p, .p, .p, .p] rfl ?_
    obtain rfl := of_some H
    exact OW.sub key (sb rfl)
 ·clear H
  have H := hu33
  clear hu33
  generalize (!y27) = t32 at H key ⊢
  cases t32
  ·have H := of_if_f rfl H
   refine o1 rfl (rx 0 0 _ rfl ty38 rfl) <| oP rfl <| bE H fun y30 h31 H => oq rfl (qc rfl fn22 (fun w1 hw1 => spec_EntriesOk_ok w1 h31 (rdm_Timpl_Schema (rds_bor g12 w1 hw1) (rds_bor g13 w1 hw1)) (rds_bor g2 w1 hw1))) tt2 <| oP rfl <| oP rfl <| ?_
   obtain rfl := of_some H
   exact OW.sub key (sb rfl)
  ·have H := of_if_t rfl H
   refine ow_batch [.p, .p, .p, .p, .p] rfl ?_
   obtain rfl := of_some H
   exact OW.sub key (sb rfl)
theorem spec_l5SameInts_ok (w : World) {p0 : List Int} {p1 : List Int} {a_0 : Option Addr} {n_0 c_0 : Nat} {a_1 : Option Addr} {n_1 c_1 : Nat} {r : Bool} (H : spec_l5SameInts p0 p1 = some r)  (g0 : (eList eI 3).rd w [] p0 [.slice a_0 n_0 c_0]) (g1 : (eList eI 3).rd w [] p1 [.slice a_1 n_1 c_1]) :
    Calls Tryz.prog 24 #[.slice a_0 n_0 c_0, .slice a_1 n_1 c_1] w (fun en w' => en = .returned (.bool r) ∧ Ext [] w w') := by
 obtain rfl := rd_n g0
 obtain rfl := rd_n g1
 unfold spec_l5SameInts at H
 refine f_enter Tryz.func24 rfl Tryz.ntmps24 rfl (St.init w []) <| sR <| oP rfl <| nQ <| c_seq <| sR <| ow_batch [.p, .lenS 56 3 sl56, .p, .lenS 56 3 sl56, .p] rfl <| nQ <| cI H rfl (fun H => ?_) (fun H => ?_)
 ·exact sR <| oP rfl <| nT <| x_qs_ret <| xr 4 rfl (by cases H; exact q1)
 ·refine c_skip <| x_qs <| c_seq <| sR <| oP rfl <| nQ <| c_block <| CW.at (loopI1 (fun (i15 : Int) => St w [] []) (fun i15 => [(0, .slice a_0 p0.length c_0), (1, .slice a_1 p1.length c_1), (5, .int .i64 i15)]) (fun kk => fun i15 => spec_l5SameInts_L1 p0 p1 kk i15 = some r) (fun _ H => ?_) (fun k1 ihk1 i15 H => ?_) Fuel (0) (H)) (fun _ h => St.sel [] rfl rfl h) ⟨rfl, rfl, rfl, trivial⟩
  ·unfold spec_l5SameInts_L1 at H
   exact absurd H (by simp)
  ·unfold spec_l5SameInts_L1 at H
   refine c_seq <| sR <| ow_batch [.p, .p, .lenS 56 3 sl56, .p] rfl <| nQ <| cI H rfl (fun H => ?_) (fun H => ?_)
   ·refine c_skip <| x_qs <| c_seq <| c_block <| c_seq <| c_regQ mixed (by kernel_rfl) <| oPP rfl <| bE H fun e21 h22 H => ow_ixE (e := eI) (xs := p0) (j := i15) rfl rfl rfl rfl rfl sl56 ty3 rfl (fun w1 hw1 => rds_bor g0 w1 hw1) h22 (by rw [Nat.mul_one]) <| o1 rfl (ry_load1 rfl rfl ty3 (at_elV (fun w1 hw1 => rds_bor g0 w1 hw1) h22)) <| oPP rfl <| bE H fun e23 h24 H => ow_ixE (e := eI) (xs := p1) (j := i15) rfl rfl rfl rfl rfl sl56 ty3 rfl (fun w1 hw1 => rds_bor g1 w1 hw1) h24 (by rw [Nat.mul_one]) <| o1 rfl (ry_load1 rfl rfl ty3 (at_elV (fun w1 hw1 => rds_bor g1 w1 hw1) h24)) <| oP rfl <| ow_nilQ <| x_qs <| cI H rfl (fun H => ?_) (fun H => ?_)
    ·exact sR <| oP rfl <| nT <| x_qb_ret <| x_qs_ret <| x_ql_ret <| x_qb_ret <| x_qs_ret <| xr 4 rfl (by cases H; exact q1)
    ·exact c_skip <| x_qb <| x_qs <| c_reg <| ow_batch [.p, .p, .p] rfl <| ow_nil <| x_ql (RW.at (ihk1 (IntKind.i64.wrap (i15 + 1)) (H)) (fun _ h => St.sel [] rfl rfl h) ⟨rfl, rfl, rfl, trivial⟩)
   ·exact c_exit <| x_qs_exit <| x_ql_exit <| x_qb_here <| x_qs <| sR <| oP rfl <| nT <| xr 4 rfl (by cases H; exact q1)
theorem spec_l30Checks_ok (w : World) {M0 : List Nat} {p0 : Timpl_Rule} {p1 : List Timpl_Entry} {p2 : List Int} {a_1 : Option Addr} {n_1 c_1 : Nat} {a_2 : Option Addr} {n_2 c_2 : Nat} {r : (List Bool) × Int} (H : spec_l30Checks p0 p1 p2 = some r) (HS : St w M0 [] w) (g1 : (eList (eTimpl_Entry) 83).rd w M0 p1 [.slice a_1 n_1 c_1]) (g2 : (eList eI 3).rd w M0 p2 [.slice a_2 n_2 c_2]) :
    Calls Tryz.prog 25 #[.agg #[.int .i64 p0.Sure_, .int .i64 p0.Tie_, .int .i64 p0.Grace_, .int .i64 p0.Depth_, .int .i64 p0.Nodes_, .int .i64 p0.Units_, .bool p0.Two_], .slice a_1 n_1 c_1, .slice a_2 n_2 c_2] w (fun en w' => ∃ v, en = .returned v ∧ ∃ (a0 : Option Addr), ∃ (n0 : Nat), ∃ (c0 : Nat), ∃ (F0 : List Nat), v = .tuple #[.slice a0 n0 c0, .int .i64 r.2] ∧ St w M0 [Res.own (eList (eBool) 4) F0 r.1 [.slice a0 n0 c0]] w') := by
 obtain rfl := rd_n g1
 obtain rfl := rd_n g2
 unfold spec_l30Checks at H
 refine f_enter Tryz.func25 rfl Tryz.ntmps25 rfl (HS) <| sR <| ob _ rfl fun b10 => oPP rfl <| nR <| ow_blit0 (e := eBool) rfl rfl rfl rfl sl73 ty4 (fun _ => kp) fun b11 => oP rfl <| nR <| oP rfl <| nQ <| c_seq <| sR <| oP rfl <| nQ <| c_block <| CW.at (loopI6 (fun (i44 : Int) (l45 : List Bool) (a46 : Option Addr) (c47 : Nat) (F48 : List Nat) (i50 : Int) => St w M0 [Res.box b10 40 [.int .i64 p0.Sure_, .int .i64 p0.Tie_, .int .i64 p0.Grace_, .int .i64 p0.Depth_, .int .i64 p0.Nodes_, .int .i64 p0.Units_, .bool p0.Two_], Res.own (eList (eBool) 4) F48 l45 [.slice a46 l45.length c47]]) (fun i44 l45 a46 c47 F48 i50 => [(1, .slice a_1 p1.length c_1), (2, .slice a_2 p2.length c_2), (3, .pointer (some ⟨b10, 0, none⟩)), (8, .slice a46 l45.length c47), (9, .int .i64 i50), (10, .int .i64 i44)]) (fun kk => fun i44 l45 a46 c47 F48 i50 => a46.isNone = false ∧ spec_l30Checks_L1 p2 p1 p0 kk i44 l45 i50 = some r) (fun _ _ _ _ _ _ H => ?_) (fun k1 ihk1 i44 l45 a46 c47 F48 i50 ⟨hz49, H⟩ => ?_) Fuel (0) (([] : List Bool)) ((some ⟨b11, 0, none⟩)) (0) ([b11]) (0) (⟨rfl, H⟩)) (fun _ h => by have h2 : St w M0 [Res.box b10 40 [.int .i64 p0.Sure_, .int .i64 p0.Tie_, .int .i64 p0.Grace_, .int .i64 p0.Depth_, .int .i64 p0.Nodes_, .int .i64 p0.Units_, .bool p0.Two_], Res.own (eList (eBool) 4) [b11] ([] : List Bool) [.slice (some ⟨b11, 0, none⟩) 0 0]] _ := St.sel [0, 1] rfl rfl h; simpa only [List.length_set, List.length_cons, List.length_nil] using h2) (by simp only [Sub, List.length_set, List.length_cons, List.length_nil]; exact ⟨rfl, rfl, rfl, rfl, rfl, rfl,  trivial⟩)
 ·unfold spec_l30Checks_L1 at H
  exact absurd H (by simp)
 ·unfold spec_l30Checks_L1 at H
  refine c_seq <| sR <| ow_batch [.p, .p, .lenS 56 3 sl56, .p] rfl <| nQ <| cI H rfl (fun H => ?_) (fun H => ?_)
  ·refine c_skip <| x_qs <| c_seq <| c_block <| sR <| ow_batch [.p, .p, .p, .p] rfl <| bE H fun e83 h84 H => ow_ixE (e := eI) (xs := p2) (j := i44) rfl rfl rfl rfl rfl sl56 ty3 rfl (fun w1 hw1 => rds_bor g2 w1 hw1) h84 (by rw [Nat.mul_one]) <| o1 rfl (ry_load1 rfl rfl ty3 (at_elV (fun w1 hw1 => rds_bor g2 w1 hw1) h84)) <| bE H fun e85 h86 H => ow_ixB rfl rfl rfl rfl rfl sl46 ty83 rfl g1 h86 fun q89 c90 hd87 hA88 => ?_
   obtain ⟨c91, c92, rfl, g93, g94⟩ := rdo_Timpl_Entry hd87
   obtain ⟨c95, c96, rfl, g97, g98⟩ := rdo_Timpl_Ex g93
   obtain ⟨a99, c100, rfl⟩ := rd_sl1 g97
   obtain rfl := g98
   obtain rfl := g94
   refine ow_batch [.fa 83 1 2 fa83_1] rfl <| o1 rfl (ry_load1 rfl rfl ty3 (at_bor bor (at_K hA88 2 1))) <| oPP rfl <| nR <| ow_batch [.p, .p, .fa 40 2 2 fa40_2] rfl <| o1 rfl (r1 2 0 rfl ty3 rfl) <| oP rfl <| ow_blit (val := Value.bool) (h1 := fun _ => rfl) [decide ((IntKind.i64.wrap (i50 + e85.Weight_)) ≥ p0.Grace_)] [(0, [.bool (decide ((IntKind.i64.wrap (i50 + e85.Weight_)) ≥ p0.Grace_))])] rfl rfl rfl rfl rfl sl73 ty4 rfl rfl rfl ⟨rfl, rfl, Nat.le_of_ble_eq_true rfl,  trivial⟩ rfl rfl (fun _ => kp) fun b101 => bE H fun l102 h103 H => ow_appR (r := 1) (ys := ([decide ((IntKind.i64.wrap (i50 + e85.Weight_)) ≥ p0.Grace_)] : List Bool)) rfl rfl rfl rfl rfl rfl sl73 ty4 rfl rfl rfl (fun w1 hw1 => rds_own (e := eList (eBool) 4) (r := 2) rfl w1 hw1) h103 (fun _ _ _ => kp) fun a104 c105 F106 => ow_fact rfl (fun w1 hw1 => own_nn (i := 1) hw1 rfl (app_ne h103)) fun hz107 => oP rfl <| nR <| ow_batch [.p, .fa 40 2 2 fa40_2] rfl <| o1 rfl (r1 2 0 rfl ty3 rfl) <| oP rfl <| nQ <| cI H rfl (fun H => ?_) (fun H => ?_)
   ·exact c_reg <| oP rfl <| ow_nil <| x_qb <| x_qs <| c_reg <| ow_batch [.p, .p, .p] rfl <| ow_nil <| x_ql (RW.at (ihk1 (IntKind.i64.wrap (i44 + 1)) (l102) (a104) (c105) (F106) (0) (⟨hz107, H⟩)) (fun _ h => St.sel [0, 1] rfl rfl h) ⟨rfl, rfl, rfl, rfl, rfl, rfl, trivial⟩)
   ·exact c_skip <| x_qb <| x_qs <| c_reg <| ow_batch [.p, .p, .p] rfl <| ow_nil <| x_ql (RW.at (ihk1 (IntKind.i64.wrap (i44 + 1)) (l102) (a104) (c105) (F106) (IntKind.i64.wrap (i50 + e85.Weight_)) (⟨hz107, H⟩)) (fun _ h => St.sel [0, 1] rfl rfl h) ⟨rfl, rfl, rfl, rfl, rfl, rfl, trivial⟩)
  ·exact c_exit <| x_qs_exit <| x_ql_exit <| x_qb_here <| x_qs <| sR <| ow_batch [.p, .p, .p, .p] rfl <| nT <| x_retR (rs := [.tmp 6, .tmp 7]) (vs := [.slice a46 l45.length c47, .int .i64 i50]) rfl ⟨rfl, rfl, trivial⟩ (fun w' hw' => by
    obtain rfl := of_some H
    exact ⟨_, rfl, a46, l45.length, c47, F48, rfl, hw'.sel [1] rfl rfl⟩)
theorem spec_StatsSame_ok (w : World) {p0 : Timpl_Stats} {p1 : Timpl_Stats} {cs0 : List Value} {cs1 : List Value} {r : Bool} (H : spec_StatsSame p0 p1 = some r)  (g0 : (eTimpl_Stats).rd w [] p0 cs0) (g1 : (eTimpl_Stats).rd w [] p1 cs1) :
    Calls Tryz.prog 27 #[.agg cs0.toArray, .agg cs1.toArray] w (fun en w' => en = .returned (.bool r) ∧ Ext [] w w') := by
 obtain ⟨c10, c11, rfl, g12, g13⟩ := rdo_Timpl_Stats g0
 obtain ⟨a14, c15, rfl⟩ := rd_sl1 g12
 obtain ⟨a16, c17, rfl⟩ := rd_sl1 g13
 obtain ⟨c18, c19, rfl, g20, g21⟩ := rdo_Timpl_Stats g1
 obtain ⟨a22, c23, rfl⟩ := rd_sl1 g20
 obtain ⟨a24, c25, rfl⟩ := rd_sl1 g21
 unfold spec_StatsSame at H
 refine f_enter Tryz.func27 rfl Tryz.ntmps27 rfl (St.init w []) <| sR <| ob _ rfl fun b26 => ob _ rfl fun b27 => oP rfl <| nQ <| c_seq <| sR <| ow_batch [.fa 68 0 0 fa68_0] rfl <| o1 rfl (r1 0 0 rfl ty56 rfl) <| ow_batch [.fa 68 0 0 fa68_0] rfl <| o1 rfl (r1 0 1 rfl ty56 rfl) <| bE H fun y28 h29 H => oq rfl (qc rfl fn24 (fun w1 hw1 => spec_l5SameInts_ok w1  h29 (rds_bor g12 w1 hw1) (rds_bor g20 w1 hw1))) tt2 <| oPP rfl <| ow_cut [(20, .bool ((!y28) || ((p0.Cells_.length : Int) != (p1.Cells_.length : Int)))), (2, .pointer (some ⟨b26, 0, none⟩)), (3, .pointer (some ⟨b27, 0, none⟩))] 8 ?_ (fun key => OW.sub (R := [(2, .pointer (some ⟨b26, 0, none⟩)), (3, .pointer (some ⟨b27, 0, none⟩)), (12, .bool (!y28))]) ?_ (sb rfl))
 ·refine nQ <| cI H rfl (fun H => ?_) (fun H => ?_)
  ·exact sR <| oP rfl <| nT <| x_qs_ret <| xr 4 rfl (by cases H; exact q1)
  ·refine c_skip <| x_qs <| c_seq <| sR <| oP rfl <| nQ <| c_block <| CW.at (loopI1 (fun (i51 : Int) => St w [] [Res.box b26 68 [.slice a14 p0.Totals_.length c15, .slice a16 p0.Cells_.length c17], Res.box b27 68 [.slice a22 p1.Totals_.length c23, .slice a24 p1.Cells_.length c25]]) (fun i51 => [(2, .pointer (some ⟨b26, 0, none⟩)), (3, .pointer (some ⟨b27, 0, none⟩)), (5, .int .i64 i51)]) (fun kk => fun i51 => spec_StatsSame_L1 p0 p1 kk i51 = some r) (fun _ H => ?_) (fun k1 ihk1 i51 H => ?_) Fuel (0) (H)) (fun _ h => St.sel [0, 1] rfl rfl h) ⟨rfl, rfl, rfl, trivial⟩
   ·unfold spec_StatsSame_L1 at H
    exact absurd H (by simp)
   ·unfold spec_StatsSame_L1 at H
    refine c_seq <| sR <| ow_batch [.p, .fa 68 1 1 fa68_1] rfl <| o1 rfl (r1 1 0 rfl ty66 rfl) <| ow_batch [.lenS 66 56 sl66, .p] rfl <| nQ <| cI H rfl (fun H => ?_) (fun H => ?_)
    ·refine c_skip <| x_qs <| c_seq <| c_block <| c_seq <| c_regQ mixed (by kernel_rfl) <| ow_batch [.fa 68 1 1 fa68_1] rfl <| o1 rfl (r1 1 0 rfl ty66 rfl) <| oP rfl <| bE H fun e71 h72 H => ow_ixB rfl rfl rfl rfl rfl sl66 ty56 rfl g13 h72 fun q75 c76 hd73 hA74 => ?_
     obtain ⟨a77, c78, rfl⟩ := rd_sl1 hd73
     refine o1 rfl (ry_load1 rfl rfl ty56 (at_bor bor hA74)) <| ow_batch [.fa 68 1 1 fa68_1] rfl <| o1 rfl (r1 1 1 rfl ty66 rfl) <| oP rfl <| bE H fun e79 h80 H => ow_ixB rfl rfl rfl rfl rfl sl66 ty56 rfl g21 h80 fun q83 c84 hd81 hA82 => ?_
     obtain ⟨a85, c86, rfl⟩ := rd_sl1 hd81
     refine o1 rfl (ry_load1 rfl rfl ty56 (at_bor bor hA82)) <| bE H fun y87 h88 H => oq rfl (qc rfl fn24 (fun w1 hw1 => spec_l5SameInts_ok w1  h88 (rds_bor hd73 w1 hw1) (rds_bor hd81 w1 hw1))) tt2 <| oP rfl <| ow_nilQ <| x_qs <| cI H rfl (fun H => ?_) (fun H => ?_)
     ·exact sR <| oP rfl <| nT <| x_qb_ret <| x_qs_ret <| x_ql_ret <| x_qb_ret <| x_qs_ret <| xr 4 rfl (by cases H; exact q1)
     ·exact c_skip <| x_qb <| x_qs <| c_reg <| ow_batch [.p, .p, .p] rfl <| ow_nil <| x_ql (RW.at (ihk1 (IntKind.i64.wrap (i51 + 1)) (H)) (fun _ h => St.sel [0, 1] rfl rfl h) ⟨rfl, rfl, rfl, trivial⟩)
    ·exact c_exit <| x_qs_exit <| x_ql_exit <| x_qb_here <| x_qs <| sR <| oP rfl <| nT <| xr 4 rfl (by cases H; exact q1)
 ·generalize (!y28) = t31 at key ⊢
  cases t31
  ·exact ow_batch [.fa 68 1 1 fa68_1] rfl <| o1 rfl (r1 1 0 rfl ty66 rfl) <| ow_batch [.lenS 66 56 sl66, .fa 68 1 1 fa68_1] rfl <| o1 rfl (r1 1 1 rfl ty66 rfl) <| ow_batch [.lenS 66 56 sl66, .p] rfl <| oP rfl <| OW.sub key (sb rfl)
  ·exact ow_batch [.p, .p, .p, .p, .p, .p, .p, .p] rfl <| OW.sub key (sb rfl)
theorem spec_TreeTrue_ok (w : World) {p0 : Timpl_Schema} {p1 : Timpl_Rule} {p2 : Timpl_Tree} {p3 : List Timpl_Entry} {cs0 : List Value} {cs2 : List Value} {a_3 : Option Addr} {n_3 c_3 : Nat} {r : Bool} (H : spec_TreeTrue p0 p1 p2 p3 = some r)  (g0 : (eTimpl_Schema).rd w [] p0 cs0) (g2 : (eTimpl_Tree).rd w [] p2 cs2) (g3 : (eList (eTimpl_Entry) 83).rd w [] p3 [.slice a_3 n_3 c_3]) :
    Calls Tryz.prog 7 #[.agg cs0.toArray, .agg #[.int .i64 p1.Sure_, .int .i64 p1.Tie_, .int .i64 p1.Grace_, .int .i64 p1.Depth_, .int .i64 p1.Nodes_, .int .i64 p1.Units_, .bool p1.Two_], .agg cs2.toArray, .slice a_3 n_3 c_3] w (fun en w' => en = .returned (.bool r) ∧ Ext [] w w') := by
 obtain ⟨c10, c11, rfl, g12, g13⟩ := rdo_Timpl_Schema g0
 obtain ⟨a14, c15, rfl⟩ := rd_sl1 g12
 obtain ⟨a16, c17, rfl⟩ := rd_sl1 g13
 obtain ⟨c18, c19, rfl, g20, g21⟩ := rdo_Timpl_Tree g2
 obtain ⟨a22, c23, rfl⟩ := rd_sl1 g20
 obtain rfl := g21
 obtain rfl := rd_n g3
 unfold spec_TreeTrue at H
 refine f_enter Tryz.func7 rfl Tryz.ntmps7 rfl (St.init w []) <| sR <| ob _ rfl fun b24 => ob _ rfl fun b25 => ob _ rfl fun b26 => oP rfl <| nQ <| c_seq <| sR <| o1 rfl (rx 0 0 _ rfl ty38 rfl) <| o1 rfl (rx 0 2 _ rfl ty44 rfl) <| bE H fun y27 h28 H => oq rfl (qc rfl fn20 (fun w1 hw1 => spec_TreeOk_ok w1 h28 (rdm_Timpl_Schema (rds_bor g12 w1 hw1) (rds_bor g13 w1 hw1)) (rdm_Timpl_Tree (rds_bor g20 w1 hw1) rfl))) tt2 <| oPP rfl <| bE H fun u29 hu33 H => ow_cut [(22, .bool u29), (3, .slice a_3 p3.length c_3), (4, .pointer (some ⟨b24, 0, none⟩)), (5, .pointer (some ⟨b25, 0, none⟩)), (6, .pointer (some ⟨b26, 0, none⟩))] 4 ?_ (fun key => OW.sub (R := [(3, .slice a_3 p3.length c_3), (4, .pointer (some ⟨b24, 0, none⟩)), (5, .pointer (some ⟨b25, 0, none⟩)), (6, .pointer (some ⟨b26, 0, none⟩)), (18, .bool (!y27))]) ?_ (sb rfl))
 ·refine oP rfl <| bE H fun u34 hu38 H => ow_cut [(28, .bool u34), (3, .slice a_3 p3.length c_3), (4, .pointer (some ⟨b24, 0, none⟩)), (5, .pointer (some ⟨b25, 0, none⟩)), (6, .pointer (some ⟨b26, 0, none⟩))] 5 ?_ (fun key => OW.sub (R := [(3, .slice a_3 p3.length c_3), (4, .pointer (some ⟨b24, 0, none⟩)), (5, .pointer (some ⟨b25, 0, none⟩)), (6, .pointer (some ⟨b26, 0, none⟩)), (23, .bool u29)]) ?_ (sb rfl))
  ·refine oP rfl <| ow_cut [(35, .bool (u34 || (p2.Seen_ != (p3.length : Int)))), (3, .slice a_3 p3.length c_3), (4, .pointer (some ⟨b24, 0, none⟩)), (5, .pointer (some ⟨b25, 0, none⟩)), (6, .pointer (some ⟨b26, 0, none⟩))] 6 ?_ (fun key => OW.sub (R := [(3, .slice a_3 p3.length c_3), (4, .pointer (some ⟨b24, 0, none⟩)), (5, .pointer (some ⟨b25, 0, none⟩)), (6, .pointer (some ⟨b26, 0, none⟩)), (29, .bool u34)]) ?_ (sb rfl))
   ·refine nQ <| cI H rfl (fun H => ?_) (fun H => ?_)
    ·exact sR <| oP rfl <| nT <| x_qs_ret <| xr 8 rfl (by cases H; exact q1)
    ·refine c_skip <| x_qs <| c_seq <| sR <| oP rfl <| nQ <| c_block <| CW.at (loopI1 (fun (i139 : Int) => St w [] [Res.box b24 38 [.slice a14 p0.Attrs_.length c15, .slice a16 p0.Classes_.length c17], Res.box b25 40 [.int .i64 p1.Sure_, .int .i64 p1.Tie_, .int .i64 p1.Grace_, .int .i64 p1.Depth_, .int .i64 p1.Nodes_, .int .i64 p1.Units_, .bool p1.Two_], Res.box b26 44 [.slice a22 p2.Nodes_.length c23, .int .i64 p2.Seen_]]) (fun i139 => [(3, .slice a_3 p3.length c_3), (4, .pointer (some ⟨b24, 0, none⟩)), (5, .pointer (some ⟨b25, 0, none⟩)), (6, .pointer (some ⟨b26, 0, none⟩)), (9, .int .i64 i139)]) (fun kk => fun i139 => spec_TreeTrue_L1 p2 p0 p3 p1 kk i139 = some r) (fun _ H => ?_) (fun k1 ihk1 i139 H => ?_) Fuel (0) (H)) (fun _ h => St.sel [0, 1, 2] rfl rfl h) ⟨rfl, rfl, rfl, rfl, rfl, trivial⟩
     ·unfold spec_TreeTrue_L1 at H
      exact absurd H (by simp)
     ·unfold spec_TreeTrue_L1 at H
      refine c_seq <| sR <| ow_batch [.p, .fa 44 0 0 fa44_0] rfl <| o1 rfl (r1 0 2 rfl ty42 rfl) <| ow_batch [.lenS 42 70 sl42, .p] rfl <| nQ <| cI H rfl (fun H => ?_) (fun H => ?_)
      ·refine c_skip <| x_qs <| c_seq <| c_block <| sR <| ow_batch [.fa 44 0 0 fa44_0] rfl <| o1 rfl (r1 0 2 rfl ty42 rfl) <| oP rfl <| bE H fun e238 h239 H => ow_ixB rfl rfl rfl rfl rfl sl42 ty70 rfl g20 h239 fun q242 c243 hd240 hA241 => ?_
       obtain ⟨c244, c245, c246, c247, c248, c249, c250, c251, c252, c253, rfl, g254, g255, g256, g257, g258, g259, g260, g261, g262, g263⟩ := rdo_Timpl_Node hd240
       obtain rfl := g254
       obtain rfl := g255
       obtain ⟨a264, c265, rfl⟩ := rd_sl1 g256
       obtain rfl := g257
       obtain ⟨c266, c267, rfl, g268, g269⟩ := rdo_Timpl_Stats g258
       obtain ⟨a270, c271, rfl⟩ := rd_sl1 g268
       obtain ⟨a272, c273, rfl⟩ := rd_sl1 g269
       obtain rfl := g259
       obtain ⟨a274, c275, rfl⟩ := rd_sl1 g260
       obtain rfl := g261
       obtain rfl := g262
       obtain rfl := g263
       refine o1 rfl (ry_load (cs := [.bool e238.Leaf_, .int .i64 e238.Fork_.Attr_, .int .i64 e238.Fork_.At_, .slice a264 e238.Kids_.length c265, .int .i64 e238.Miss_, .slice a270 e238.Stats_.Totals_.length c271, .slice a272 e238.Stats_.Cells_.length c273, .int .i64 e238.Since_, .slice a274 e238.Attrs_.length c275, .int .i64 e238.Depth_, .int .i64 e238.Up_, .int .i64 e238.Born_]) rfl rfl ty70 (at_bor bor hA241) rfl) <| ow_alloc rfl rfl rfl rfl ty70 (fun _ => kp) fun b276 => sC 0 [.bool e238.Leaf_, .int .i64 e238.Fork_.Attr_, .int .i64 e238.Fork_.At_, .slice a264 e238.Kids_.length c265, .int .i64 e238.Miss_, .slice a270 e238.Stats_.Totals_.length c271, .slice a272 e238.Stats_.Cells_.length c273, .int .i64 e238.Since_, .slice a274 e238.Attrs_.length c275, .int .i64 e238.Depth_, .int .i64 e238.Up_, .int .i64 e238.Born_] [_, _, _, _, _, _, _, _, _, _, _, _] 3 rfl ty70 rfl <| nR <| o1 rfl (rx 0 0 _ rfl ty38 rfl) <| o1 rfl (rx 0 2 _ rfl ty44 rfl) <| oPP rfl <| bE H fun y277 h278 H => ow_callS rfl fn23 rfl rfl rfl rfl (fun w1 hw1 => spec_NodeTruth_ok w1 h278 (hw1.carve [] rfl rfl) (rdm_Timpl_Schema (rds_bor g12 w1 hw1) (rds_bor g13 w1 hw1)) (rdm_Timpl_Tree (rds_bor g20 w1 hw1) rfl) (rds_bor g3 w1 hw1)) fun v279 w1 w2 hw1 hR281 => ?_
       obtain ⟨a282, n283, c284, F285, a286, n287, c288, F289, rfl, hS280⟩ := hR281
       obtain rfl := own_nS (i := 0) hS280 rfl
       obtain rfl := own_nS (i := 1) hS280 rfl
       refine ⟨St w [] [_, _, _, _, _, _], hw1.comp [] rfl rfl hS280, fun _ _ => trivial, ?_⟩
       refine ow_alloc rfl rfl rfl rfl ty68 (fun _ => kp) fun b290 => sC 0 [.slice a282 y277.Totals_.length c284, .slice a286 y277.Cells_.length c288] [_, _] 6 rfl ty68 rfl <| nQ <| c_seq <| sR <| ow_batch [.fa 70 4 5 fa70_4, .fa 68 0 0 fa68_0] rfl <| o1 rfl (r1 5 3 rfl ty56 rfl) <| ow_batch [.fa 68 0 0 fa68_0] rfl <| o1 rfl (r1 0 6 rfl ty56 rfl) <| bE H fun y291 h292 H => oq rfl (qc rfl fn24 (fun w1 hw1 => spec_l5SameInts_ok w1  h292 (rds_bor g268 w1 hw1) (rds_own (e := eList eI 3) (r := 4) rfl w1 hw1))) tt2 <| oP rfl <| nQ <| cI H rfl (fun H => ?_) (fun H => ?_)
       ·exact sR <| oP rfl <| nT <| x_qs_ret <| x_qb_ret <| x_qs_ret <| x_ql_ret <| x_qb_ret <| x_qs_ret <| xr 8 rfl (by cases H; exact q1)
       ·refine c_skip <| x_qs <| sR <| ow_batch [.fa 70 0 0 fa70_0] rfl <| o1 rfl (r1 0 3 rfl ty4 rfl) <| oP rfl <| ow_cut [(68, .bool (e238.Leaf_ && (decide ((e238.Stats_.Cells_.length : Int) > 0)))), (3, .slice a_3 p3.length c_3), (4, .pointer (some ⟨b24, 0, none⟩)), (5, .pointer (some ⟨b25, 0, none⟩)), (6, .pointer (some ⟨b26, 0, none⟩)), (9, .int .i64 i139), (10, .pointer (some ⟨b276, 0, none⟩)), (11, .pointer (some ⟨b290, 0, none⟩))] 6 ?_ (fun key => OW.sub (R := [(3, .slice a_3 p3.length c_3), (4, .pointer (some ⟨b24, 0, none⟩)), (5, .pointer (some ⟨b25, 0, none⟩)), (6, .pointer (some ⟨b26, 0, none⟩)), (9, .int .i64 i139), (10, .pointer (some ⟨b276, 0, none⟩)), (11, .pointer (some ⟨b290, 0, none⟩)), (62, .bool e238.Leaf_)]) ?_ (sb rfl))
        ·refine nQ <| cI H rfl (fun H => ?_) (fun H => ?_)
         ·refine c_seq <| c_regHT 12 [(0, true), (1, true), (2, true), (3, true), (4, true), (5, true), (6, false), (7, false), (8, true), (9, true), (10, true), (11, true)] (St w [] [Res.box b24 38 [.slice a14 p0.Attrs_.length c15, .slice a16 p0.Classes_.length c17], Res.box b25 40 [.int .i64 p1.Sure_, .int .i64 p1.Tie_, .int .i64 p1.Grace_, .int .i64 p1.Depth_, .int .i64 p1.Nodes_, .int .i64 p1.Units_, .bool p1.Two_], Res.box b26 44 [.slice a22 p2.Nodes_.length c23, .int .i64 p2.Seen_], Res.box b276 70 [.bool e238.Leaf_, .int .i64 e238.Fork_.Attr_, .int .i64 e238.Fork_.At_, .slice a264 e238.Kids_.length c265, .int .i64 e238.Miss_, .slice a270 e238.Stats_.Totals_.length c271, .slice a272 e238.Stats_.Cells_.length c273, .int .i64 e238.Since_, .slice a274 e238.Attrs_.length c275, .int .i64 e238.Depth_, .int .i64 e238.Up_, .int .i64 e238.Born_], Res.own (eList eI 3) F285 y277.Totals_ [.slice a282 y277.Totals_.length c284], Res.own (eList (eList eI 3) 56) F289 y277.Cells_ [.slice a286 y277.Cells_.length c288], Res.box b290 68 [.slice a282 y277.Totals_.length c284, .slice a286 y277.Cells_.length c288]]) mixed (by kernel_rfl) (panicOk_qs (panicOk_qb (panicOk_qs (panicOk_ql (panicOk_qb (panicOk_qs panicOk_body)))))) (fun _ h => St.mask [true, true, true, true, true, true, true] rfl h) <| ow_rH rfl (dstOk_lt rfl) (rx 0 1 _ rfl ty40 rfl) <| oP rfl <| ow_rH rfl (dstOk_lt rfl) (rx 0 0 _ rfl ty38 rfl) <| ow_rH rfl (dstOk_lt rfl) (rx 0 2 _ rfl ty44 rfl) <| oPP rfl <| bE H fun y313 h314 H => ow_callS rfl fn26 rfl rfl rfl rfl (fun w1 hw1 => spec_l30Own_ok w1 h314 (hw1.carve [] rfl rfl) (rdm_Timpl_Schema (rds_bor g12 w1 hw1) (rds_bor g13 w1 hw1)) (rdm_Timpl_Tree (rds_bor g20 w1 hw1) rfl) (rds_bor g3 w1 hw1)) fun v315 w1 w2 hw1 hR317 => ?_
          obtain ⟨a318, n319, c320, F321, rfl, hS316⟩ := hR317
          obtain rfl := own_nS (i := 0) hS316 rfl
          refine ⟨St w [] [_, _, _, _, _, _, _, _], hw1.comp [] rfl rfl hS316, (fun _ h => St.mask [true, true, true, true, true, true, true] rfl h), ?_⟩
          refine bE H fun y322 h323 H => ow_callS rfl fn25 rfl rfl rfl rfl (fun w1 hw1 => spec_l30Checks_ok w1 (p0 := p1) h323 (hw1.carve [] rfl rfl) (rds_bor g3 w1 hw1) (rds_own (e := eList eI 3) (r := 7) rfl w1 hw1)) fun v324 w1 w2 hw1 hR326 => ?_
          obtain ⟨a327, n328, c329, F330, rfl, hS325⟩ := hR326
          obtain rfl := own_nS (i := 0) hS325 rfl
          refine ⟨St w [] [_, _, _, _, _, _, _, _, _], hw1.comp [] rfl rfl hS325, (fun _ h => St.mask [true, true, true, true, true, true, true] rfl h), ?_⟩
          refine ow_batch [.p, .p, .p, .p] rfl <| ow_nilH <| x_qt <| oP rfl <| nR <| ow_batch [.fa 70 4 5 fa70_4] rfl <| o1 rfl (rx 5 3 _ rfl ty68 rfl) <| o1 rfl (rx 0 6 _ rfl ty68 rfl) <| bE H fun y331 h332 H => oq rfl (qc rfl fn27 (fun w1 hw1 => spec_StatsSame_ok w1 h332 (rdm_Timpl_Stats (x := e238.Stats_) (c0 := [.slice a270 e238.Stats_.Totals_.length c271]) (c1 := [.slice a272 e238.Stats_.Cells_.length c273]) (rds_bor g268 w1 hw1) (rds_bor g269 w1 hw1)) (rdm_Timpl_Stats (x := y277) (c0 := [.slice a282 y277.Totals_.length c284]) (c1 := [.slice a286 y277.Cells_.length c288]) (rds_own (e := eList eI 3) (r := 4) rfl w1 hw1) (rds_own (e := eList (eList eI 3) 56) (r := 5) rfl w1 hw1)))) tt2 <| oPP rfl <| ow_cut [(90, .bool ((!y331) || (e238.Since_ != y322.2))), (3, .slice a_3 p3.length c_3), (4, .pointer (some ⟨b24, 0, none⟩)), (5, .pointer (some ⟨b25, 0, none⟩)), (6, .pointer (some ⟨b26, 0, none⟩)), (9, .int .i64 i139)] 5 ?_ (fun key => OW.sub (R := [(3, .slice a_3 p3.length c_3), (4, .pointer (some ⟨b24, 0, none⟩)), (5, .pointer (some ⟨b25, 0, none⟩)), (6, .pointer (some ⟨b26, 0, none⟩)), (9, .int .i64 i139), (10, .pointer (some ⟨b276, 0, none⟩)), (13, .int .i64 y322.2), (85, .bool (!y331))]) ?_ (sb rfl))
          ·refine nQ <| cI H rfl (fun H => ?_) (fun H => ?_)
           ·exact sR <| oP rfl <| nT <| x_qb_ret <| x_qs_ret <| x_ql_ret <| x_qb_ret <| x_qs_ret <| xr 8 rfl (by cases H; exact q1)
           ·exact c_skip <| x_qb <| x_qs <| c_reg <| ow_batch [.p, .p, .p] rfl <| ow_nil <| x_ql (RW.at (ihk1 (IntKind.i64.wrap (i139 + 1)) (H)) (fun _ h => St.sel [0, 1, 2] rfl rfl h) ⟨rfl, rfl, rfl, rfl, rfl, trivial⟩)
          ·generalize (!y331) = t334 at key ⊢
           cases t334
           ·exact ow_batch [.fa 70 5 7 fa70_5] rfl <| o1 rfl (r1 7 3 rfl ty3 rfl) <| oPP rfl <| oP rfl <| OW.sub key (sb rfl)
           ·exact ow_batch [.p, .p, .p, .p, .p] rfl <| OW.sub key (sb rfl)
         ·exact c_skip <| x_qb <| x_qs <| c_reg <| ow_batch [.p, .p, .p] rfl <| ow_nil <| x_ql (RW.at (ihk1 (IntKind.i64.wrap (i139 + 1)) (H)) (fun _ h => St.sel [0, 1, 2] rfl rfl h) ⟨rfl, rfl, rfl, rfl, rfl, trivial⟩)
        ·generalize e238.Leaf_ = t294 at key ⊢
         cases t294
         ·exact ow_batch [.p, .p, .p, .p, .p, .p] rfl <| OW.sub key (sb rfl)
         ·exact ow_batch [.fa 70 4 5 fa70_4, .fa 68 1 1 fa68_1] rfl <| o1 rfl (r1 6 3 rfl ty66 rfl) <| ow_batch [.lenS 66 56 sl66, .p] rfl <| oP rfl <| OW.sub key (sb rfl)
      ·exact c_exit <| x_qs_exit <| x_ql_exit <| x_qb_here <| x_qs <| sR <| oP rfl <| nT <| xr 8 rfl (by cases H; exact q1)
   ·generalize u34 = t40 at key ⊢
    cases t40
    ·exact ow_batch [.fa 44 1 1 fa44_1] rfl <| o1 rfl (r1 1 2 rfl ty3 rfl) <| ow_batch [.p, .lenS 46 83 sl46, .p] rfl <| oP rfl <| OW.sub key (sb rfl)
    ·exact ow_batch [.p, .p, .p, .p, .p, .p] rfl <| OW.sub key (sb rfl)
  ·clear H
   have H := hu38
   clear hu38
   generalize u29 = t37 at H key ⊢
   cases t37
   ·have H := of_if_f rfl H
    refine o1 rfl (rx 0 0 _ rfl ty38 rfl) <| oP rfl <| bE H fun y35 h36 H => oq rfl (qc rfl fn22 (fun w1 hw1 => spec_EntriesOk_ok w1 h36 (rdm_Timpl_Schema (rds_bor g12 w1 hw1) (rds_bor g13 w1 hw1)) (rds_bor g3 w1 hw1))) tt2 <| oP rfl <| oP rfl <| ?_
    obtain rfl := of_some H
    exact OW.sub key (sb rfl)
   ·have H := of_if_t rfl H
    refine ow_batch [.p, .p, .p, .p, .p] rfl ?_
    obtain rfl := of_some H
    exact OW.sub key (sb rfl)
 ·clear H
  have H := hu33
  clear hu33
  generalize (!y27) = t32 at H key ⊢
  cases t32
  ·have H := of_if_f rfl H
   refine o1 rfl (rx 0 1 _ rfl ty40 rfl) <| bE H fun y30 h31 H => oq rfl (qc rfl fn21 (fun w1 hw1 => spec_RuleOk_ok w1 (p0 := p1) h31)) tt2 <| oP rfl <| oP rfl <| ?_
   obtain rfl := of_some H
   exact OW.sub key (sb rfl)
  ·have H := of_if_t rfl H
   refine ow_batch [.p, .p, .p, .p] rfl ?_
   obtain rfl := of_some H
   exact OW.sub key (sb rfl)
theorem impl_within_ok (w : World) {p0 : Int} {p1 : Int} {p2 : Int}  {r : Bool} (H : impl_within p0 p1 p2 = some r)   :
    Calls Tryz.prog 60 #[.int .i64 p0, .int .i64 p1, .int .i64 p2] w (fun en w' => en = .returned (.bool r) ∧ Ext [] w w') := by
 unfold impl_within at H
 refine f_enter Tryz.func60 rfl Tryz.ntmps60 rfl (St.init w []) <| sR <| oP rfl <| nR <| ow_batch [.p, .p, .p, .p] rfl <| ow_cut [(14, .bool ((decide (p0 ≥ p1)) && (decide (p0 ≤ p2)))), (6, .bool false)] 4 ?_ (fun key => OW.sub (R := [(0, .int .i64 p0), (2, .int .i64 p2), (6, .bool false), (10, .bool (decide (p0 ≥ p1)))]) ?_ (sb rfl))
 ·exact oP rfl <| nT <| xr 6 rfl (by cases H; exact q1)
 ·generalize (decide (p0 ≥ p1)) = t11 at key ⊢
  cases t11
  ·exact ow_batch [.p, .p, .p, .p] rfl <| OW.sub key (sb rfl)
  ·exact ow_batch [.p, .p, .p] rfl <| oP rfl <| OW.sub key (sb rfl)
theorem impl_WordOk_ok (w : World) {p0 : List UInt8}  {r : Bool} (H : impl_WordOk p0 = some r)   :
    Calls Tryz.prog 113 #[vS p0] w (fun en w' => en = .returned (.bool r) ∧ Ext [] w w') := by
 unfold impl_WordOk at H
 refine f_enter Tryz.func113 rfl Tryz.ntmps113 rfl (St.init w []) <| sR <| oP rfl <| nQ <| c_seq <| sR <| ow_batch [.p, .lenT 9 st9] rfl <| bE H fun y10 h11 H => oq rfl (qc rfl fn60 (fun w1 hw1 => impl_within_ok w1  h11)) tt2 <| oP rfl <| nQ <| cI H rfl (fun H => ?_) (fun H => ?_)
 ·exact sR <| oP rfl <| nT <| x_qs_ret <| xr 2 rfl (by cases H; exact q1)
 ·refine c_skip <| x_qs <| c_seq <| sR <| ow_batch [.p, .lenT 9 st9, .p] rfl <| nQ <| c_block <| CW.at (loopI1 (fun (i20 : Int) => St w [] []) (fun i20 => [(0, vS p0), (9, .int .i64 (p0.length : Int)), (10, .int .i64 i20)]) (fun kk => fun i20 => impl_WordOk_L1 p0 kk i20 = some r) (fun _ H => ?_) (fun k1 ihk1 i20 H => ?_) Fuel (0) (H)) (fun _ h => St.sel [] rfl rfl h) ⟨rfl, rfl, rfl, trivial⟩
  ·unfold impl_WordOk_L1 at H
   exact absurd H (by simp)
  ·unfold impl_WordOk_L1 at H
   refine sR <| oP rfl <| nQ <| c_seq <| cI H rfl (fun H => ?_) (fun H => ?_)
   ·refine c_skip <| x_qs <| c_seq <| c_block <| sR <| oPP rfl <| nR <| oPP rfl <| bE H fun b29 h30 H => o1 rfl (ry_sidx (s := p0) rfl rfl rfl st9 h30) <| oPP rfl <| bE H fun u31 hu35 H => ow_cut [(22, .bool u31), (0, vS p0), (9, .int .i64 (p0.length : Int)), (10, .int .i64 i20)] 5 ?_ (fun key => OW.sub (R := [(0, vS p0), (3, .int .i64 i20), (9, .int .i64 (p0.length : Int)), (10, .int .i64 i20), (17, .bool (decide ((b29.toNat : Int) < 97)))]) ?_ (sb rfl))
    ·refine nQ <| cI H rfl (fun H => ?_) (fun H => ?_)
     ·exact sR <| oP rfl <| nT <| x_qb_ret <| x_qs_ret <| x_ql_ret <| x_qb_ret <| x_qs_ret <| xr 2 rfl (by cases H; exact q1)
     ·exact c_skip <| x_qb <| x_qs <| c_reg <| oPP rfl <| ow_nil <| x_ql (RW.at (ihk1 (IntKind.i64.wrap (i20 + 1)) (H)) (fun _ h => St.sel [] rfl rfl h) ⟨rfl, rfl, rfl, trivial⟩)
    ·clear H
     have H := hu35
     clear hu35
     generalize (decide ((b29.toNat : Int) < 97)) = t34 at H key ⊢
     cases t34
     ·have H := of_if_f rfl H
      refine oPP rfl <| bE H fun b32 h33 H => o1 rfl (ry_sidx (s := p0) rfl rfl rfl st9 h33) <| oP rfl <| oP rfl <| ?_
      obtain rfl := of_some H
      exact OW.sub key (sb rfl)
     ·have H := of_if_t rfl H
      refine ow_batch [.p, .p, .p, .p, .p] rfl ?_
      obtain rfl := of_some H
      exact OW.sub key (sb rfl)
   ·exact c_exit <| x_qs_exit <| x_ql_exit <| x_qb_here <| x_qs <| sR <| oP rfl <| nT <| xr 2 rfl (by cases H; exact q1)
theorem lib_slices_Index___string_string__ok (w : World) {p0 : List (List UInt8)} {p1 : List UInt8} {a_0 : Option Addr} {n_0 c_0 : Nat} {r : Int} (H : lib_slices_Index___string_string_ p0 p1 = some r)  (g0 : (eList (eStr) 9).rd w [] p0 [.slice a_0 n_0 c_0]) :
    Calls Tryz.prog 123 #[.slice a_0 n_0 c_0, vS p1] w (fun en w' => en = .returned (.int .i64 r) ∧ Ext [] w w') := by
 obtain rfl := rd_n g0
 unfold lib_slices_Index___string_string_ at H
 refine f_enter Tryz.func123 rfl Tryz.ntmps123 rfl (St.init w []) <| sR <| oP rfl <| nQ <| c_seq <| sR <| ow_batch [.p, .lenS 23 9 sl23, .p] rfl <| nQ <| c_block <| CW.at (loopI1 (fun (i13 : Int) => St w [] []) (fun i13 => [(0, .slice a_0 p0.length c_0), (1, vS p1), (7, .int .i64 (p0.length : Int)), (8, .int .i64 i13)]) (fun kk => fun i13 => lib_slices_Index___string_string__L1 p0 p1 kk i13 = some r) (fun _ H => ?_) (fun k1 ihk1 i13 H => ?_) Fuel (0) (H)) (fun _ h => St.sel [] rfl rfl h) ⟨rfl, rfl, rfl, rfl, trivial⟩
 ·unfold lib_slices_Index___string_string__L1 at H
  exact absurd H (by simp)
 ·unfold lib_slices_Index___string_string__L1 at H
  refine sR <| oP rfl <| nQ <| c_seq <| cI H rfl (fun H => ?_) (fun H => ?_)
  ·refine c_skip <| x_qs <| c_seq <| c_block <| sR <| oPP rfl <| nR <| ow_batch [.p, .p, .p] rfl <| bE H fun e18 h19 H => ow_ixE (e := eStr) (xs := p0) (j := i13) rfl rfl rfl rfl rfl sl23 ty9 rfl (fun w1 hw1 => rds_bor g0 w1 hw1) h19 (by rw [Nat.mul_one]) <| o1 rfl (ry_load1 rfl rfl ty9 (at_elV (fun w1 hw1 => rds_bor g0 w1 hw1) h19)) <| oP rfl <| nQ <| cI H rfl (fun H => ?_) (fun H => ?_)
   ·exact sR <| oPP rfl <| nT <| x_qb_ret <| x_qs_ret <| x_ql_ret <| x_qb_ret <| x_qs_ret <| xr 4 rfl (by cases H; exact q1)
   ·exact c_skip <| x_qb <| x_qs <| c_reg <| oPP rfl <| ow_nil <| x_ql (RW.at (ihk1 (IntKind.i64.wrap (i13 + 1)) (H)) (fun _ h => St.sel [] rfl rfl h) ⟨rfl, rfl, rfl, rfl, trivial⟩)
  ·exact c_exit <| x_qs_exit <| x_ql_exit <| x_qb_here <| x_qs <| sR <| oP rfl <| nT <| xr 4 rfl (by cases H; exact q1)
theorem lib_slices_Contains___string_string__ok (w : World) {p0 : List (List UInt8)} {p1 : List UInt8} {a_0 : Option Addr} {n_0 c_0 : Nat} {r : Bool} (H : lib_slices_Contains___string_string_ p0 p1 = some r)  (g0 : (eList (eStr) 9).rd w [] p0 [.slice a_0 n_0 c_0]) :
    Calls Tryz.prog 114 #[.slice a_0 n_0 c_0, vS p1] w (fun en w' => en = .returned (.bool r) ∧ Ext [] w w') := by
 obtain rfl := rd_n g0
 unfold lib_slices_Contains___string_string_ at H
 exact f_enter Tryz.func114 rfl Tryz.ntmps114 rfl (St.init w []) <| sR <| oP rfl <| nR <| oPP rfl <| bE H fun y10 h11 H => oq rfl (qc rfl fn123 (fun w1 hw1 => lib_slices_Index___string_string__ok w1  h11 (rds_bor g0 w1 hw1))) tt2 <| oPP rfl <| nT <| xr 4 rfl (by cases H; exact q1)
theorem impl_distinctWords_ok (w : World) {p0 : List (List UInt8)} {a_0 : Option Addr} {n_0 c_0 : Nat} {r : Bool} (H : impl_distinctWords p0 = some r)  (g0 : (eList (eStr) 9).rd w [] p0 [.slice a_0 n_0 c_0]) :
    Calls Tryz.prog 89 #[.slice a_0 n_0 c_0] w (fun en w' => en = .returned (.bool r) ∧ Ext [] w w') := by
 obtain rfl := rd_n g0
 unfold impl_distinctWords at H
 refine f_enter Tryz.func89 rfl Tryz.ntmps89 rfl (St.init w []) <| sR <| oP rfl <| nQ <| c_seq <| sR <| ow_batch [.p, .lenS 23 9 sl23, .p] rfl <| nQ <| c_block <| CW.at (loopI1 (fun (i26 : Int) => St w [] []) (fun i26 => [(0, .slice a_0 p0.length c_0), (5, .slice a_0 p0.length c_0), (6, .int .i64 (p0.length : Int)), (7, .int .i64 i26)]) (fun kk => fun i26 => impl_distinctWords_L1 p0 kk i26 = some r) (fun _ H => ?_) (fun k1 ihk1 i26 H => ?_) Fuel (0) (H)) (fun _ h => St.sel [] rfl rfl h) ⟨rfl, rfl, rfl, rfl, trivial⟩
 ·unfold impl_distinctWords_L1 at H
  exact absurd H (by simp)
 ·unfold impl_distinctWords_L1 at H
  refine sR <| oP rfl <| nQ <| c_seq <| cI H rfl (fun H => ?_) (fun H => ?_)
  ·refine c_skip <| x_qs <| c_seq <| c_block <| sR <| oP rfl <| bE H fun e43 h44 H => ow_ixE (e := eStr) (xs := p0) (j := i26) rfl rfl rfl rfl rfl sl23 ty9 rfl (fun w1 hw1 => rds_bor g0 w1 hw1) h44 (by rw [Nat.mul_one]) <| o1 rfl (ry_load1 rfl rfl ty9 (at_elV (fun w1 hw1 => rds_bor g0 w1 hw1) h44)) <| oPP rfl <| nR <| oP rfl <| bE H fun y45 h46 H => oq rfl (qc rfl fn113 (fun w1 hw1 => impl_WordOk_ok w1  h46)) tt2 <| oPP rfl <| bE H fun u47 hu57 H => ow_cut [(21, .bool u47), (0, .slice a_0 p0.length c_0), (5, .slice a_0 p0.length c_0), (6, .int .i64 (p0.length : Int)), (7, .int .i64 i26)] 6 ?_ (fun key => OW.sub (R := [(0, .slice a_0 p0.length c_0), (3, .int .i64 i26), (4, vS e43), (5, .slice a_0 p0.length c_0), (6, .int .i64 (p0.length : Int)), (7, .int .i64 i26), (15, .bool (!y45))]) ?_ (sb rfl))
   ·refine nQ <| cI H rfl (fun H => ?_) (fun H => ?_)
    ·exact sR <| oP rfl <| nT <| x_qb_ret <| x_qs_ret <| x_ql_ret <| x_qb_ret <| x_qs_ret <| xr 2 rfl (by cases H; exact q1)
    ·exact c_skip <| x_qb <| x_qs <| c_reg <| oPP rfl <| ow_nil <| x_ql (RW.at (ihk1 (IntKind.i64.wrap (i26 + 1)) (H)) (fun _ h => St.sel [] rfl rfl h) ⟨rfl, rfl, rfl, rfl, trivial⟩)
   ·clear H
    have H := hu57
    clear hu57
    generalize (!y45) = t56 at H key ⊢
    cases t56
    ·have H := of_if_f rfl H
     refine oPP rfl <| bE H fun l48 h49 H => ow_lsub rfl rfl rfl rfl sl23 ty9 rfl rfl rfl h49 g0 fun v51 h50 => ?_
     obtain ⟨a52, c53, rfl⟩ := rd_sl h50
     have h50 : (eList (eStr) 9).rd w [] l48 [.slice a52 l48.length c53] := h50
     refine oP rfl <| bE H fun y54 h55 H => oq rfl (qc rfl fn114 (fun w1 hw1 => lib_slices_Contains___string_string__ok w1  h55 (rds_bor h50 w1 hw1))) tt2 <| oP rfl <| ?_
     obtain rfl := of_some H
     exact OW.sub key (sb rfl)
    ·have H := of_if_t rfl H
     refine ow_batch [.p, .p, .p, .p, .p, .p] rfl ?_
     obtain rfl := of_some H
     exact OW.sub key (sb rfl)
  ·exact c_exit <| x_qs_exit <| x_ql_exit <| x_qb_here <| x_qs <| sR <| oP rfl <| nT <| xr 2 rfl (by cases H; exact q1)
theorem impl_ascending_ok (w : World) {p0 : List Int} {a_0 : Option Addr} {n_0 c_0 : Nat} {r : Bool} (H : impl_ascending p0 = some r)  (g0 : (eList eI 3).rd w [] p0 [.slice a_0 n_0 c_0]) :
    Calls Tryz.prog 95 #[.slice a_0 n_0 c_0] w (fun en w' => en = .returned (.bool r) ∧ Ext [] w w') := by
 obtain rfl := rd_n g0
 unfold impl_ascending at H
 refine f_enter Tryz.func95 rfl Tryz.ntmps95 rfl (St.init w []) <| sR <| oP rfl <| nQ <| c_seq <| sR <| oP rfl <| nQ <| c_block <| CW.at (loopI1 (fun (i15 : Int) => St w [] []) (fun i15 => [(0, .slice a_0 p0.length c_0), (3, .int .i64 i15)]) (fun kk => fun i15 => impl_ascending_L1 p0 kk i15 = some r) (fun _ H => ?_) (fun k1 ihk1 i15 H => ?_) Fuel (1) (H)) (fun _ h => St.sel [] rfl rfl h) ⟨rfl, rfl, trivial⟩
 ·unfold impl_ascending_L1 at H
  exact absurd H (by simp)
 ·unfold impl_ascending_L1 at H
  refine c_seq <| sR <| ow_batch [.p, .p, .lenS 56 3 sl56, .p] rfl <| nQ <| cI H rfl (fun H => ?_) (fun H => ?_)
  ·refine c_skip <| x_qs <| c_seq <| c_block <| c_seq <| c_regQ mixed (by kernel_rfl) <| oPP rfl <| bE H fun e21 h22 H => ow_ixE (e := eI) (xs := p0) (j := i15) rfl rfl rfl rfl rfl sl56 ty3 rfl (fun w1 hw1 => rds_bor g0 w1 hw1) h22 (by rw [Nat.mul_one]) <| o1 rfl (ry_load1 rfl rfl ty3 (at_elV (fun w1 hw1 => rds_bor g0 w1 hw1) h22)) <| ow_batch [.p, .p, .p] rfl <| bE H fun e23 h24 H => ow_ixE (e := eI) (xs := p0) (j := IntKind.i64.wrap (i15 - 1)) rfl rfl rfl rfl rfl sl56 ty3 rfl (fun w1 hw1 => rds_bor g0 w1 hw1) h24 (by rw [Nat.mul_one]) <| o1 rfl (ry_load1 rfl rfl ty3 (at_elV (fun w1 hw1 => rds_bor g0 w1 hw1) h24)) <| oP rfl <| ow_nilQ <| x_qs <| cI H rfl (fun H => ?_) (fun H => ?_)
   ·exact sR <| oP rfl <| nT <| x_qb_ret <| x_qs_ret <| x_ql_ret <| x_qb_ret <| x_qs_ret <| xr 2 rfl (by cases H; exact q1)
   ·exact c_skip <| x_qb <| x_qs <| c_reg <| ow_batch [.p, .p, .p] rfl <| ow_nil <| x_ql (RW.at (ihk1 (IntKind.i64.wrap (i15 + 1)) (H)) (fun _ h => St.sel [] rfl rfl h) ⟨rfl, rfl, trivial⟩)
  ·exact c_exit <| x_qs_exit <| x_ql_exit <| x_qb_here <| x_qs <| sR <| oP rfl <| nT <| xr 2 rfl (by cases H; exact q1)
theorem impl_isCut_ok (w : World) {p0 : Int}  {r : Bool} (H : impl_isCut p0 = some r)   :
    Calls Tryz.prog 125 #[.int .i64 p0] w (fun en w' => en = .returned (.bool r) ∧ Ext [] w w') := by
 unfold impl_isCut at H
 exact f_enter Tryz.func125 rfl Tryz.ntmps125 rfl (St.init w []) <| sR <| oP rfl <| nR <| oP rfl <| bE H fun y10 h11 H => oq rfl (qc rfl fn60 (fun w1 hw1 => impl_within_ok w1  h11)) tt2 <| oP rfl <| nT <| xr 2 rfl (by cases H; exact q1)
theorem impl_CutsOk_1_ok (w : World) {p0 : Int}  {r : Bool} (H : impl_CutsOk_1 p0 = some r)   :
    Calls Tryz.prog 124 #[.int .i64 p0] w (fun en w' => en = .returned (.bool r) ∧ Ext [] w w') := by
 unfold impl_CutsOk_1 at H
 exact f_enter Tryz.func124 rfl Tryz.ntmps124 rfl (St.init w []) <| sR <| oP rfl <| nR <| oP rfl <| bE H fun y10 h11 H => oq rfl (qc rfl fn125 (fun w1 hw1 => impl_isCut_ok w1  h11)) tt2 <| oPP rfl <| nT <| xr 2 rfl (by cases H; exact q1)
theorem lib_slices_IndexFunc___int_int___impl_CutsOk_1_ok (w : World) {p0 : List Int} {a_0 : Option Addr} {n_0 c_0 : Nat} {r : Int} (H : lib_slices_IndexFunc___int_int___impl_CutsOk_1 p0 = some r)  (g0 : (eList eI 3).rd w [] p0 [.slice a_0 n_0 c_0]) :
    Calls Tryz.prog 118 #[.slice a_0 n_0 c_0, .func (.func 124) #[] #[]] w (fun en w' => en = .returned (.int .i64 r) ∧ Ext [] w w') := by
 obtain rfl := rd_n g0
 unfold lib_slices_IndexFunc___int_int___impl_CutsOk_1 at H
 refine f_enter Tryz.func118 rfl Tryz.ntmps118 rfl (St.init w []) <| sR <| oP rfl <| nQ <| c_seq <| sR <| ow_batch [.p, .lenS 56 3 sl56, .p] rfl <| nQ <| c_block <| CW.at (loopI1 (fun (i15 : Int) => St w [] []) (fun i15 => [(0, .slice a_0 p0.length c_0), (1, .func (.func 124) #[] #[]), (7, .int .i64 (p0.length : Int)), (8, .int .i64 i15)]) (fun kk => fun i15 => lib_slices_IndexFunc___int_int___impl_CutsOk_1_L1 p0 kk i15 = some r) (fun _ H => ?_) (fun k1 ihk1 i15 H => ?_) Fuel (0) (H)) (fun _ h => St.sel [] rfl rfl h) ⟨rfl, rfl, rfl, rfl, trivial⟩
 ·unfold lib_slices_IndexFunc___int_int___impl_CutsOk_1_L1 at H
  exact absurd H (by simp)
 ·unfold lib_slices_IndexFunc___int_int___impl_CutsOk_1_L1 at H
  refine sR <| oP rfl <| nQ <| c_seq <| cI H rfl (fun H => ?_) (fun H => ?_)
  ·refine c_skip <| x_qs <| c_seq <| c_block <| sR <| oPP rfl <| nR <| ow_batch [.p, .p, .p] rfl <| bE H fun e21 h22 H => ow_ixE (e := eI) (xs := p0) (j := i15) rfl rfl rfl rfl rfl sl56 ty3 rfl (fun w1 hw1 => rds_bor g0 w1 hw1) h22 (by rw [Nat.mul_one]) <| o1 rfl (ry_load1 rfl rfl ty3 (at_elV (fun w1 hw1 => rds_bor g0 w1 hw1) h22)) <| bE H fun y23 h24 H => ow_q rfl rfl (dstOk_lt rfl) (qy_callV (cap := []) rfl fn124 rfl rfl (fun w1 hw1 => impl_CutsOk_1_ok w1  h24)) (fun _ _ => trivial) <| nQ <| cI H rfl (fun H => ?_) (fun H => ?_)
   ·exact sR <| oPP rfl <| nT <| x_qb_ret <| x_qs_ret <| x_ql_ret <| x_qb_ret <| x_qs_ret <| xr 4 rfl (by cases H; exact q1)
   ·exact c_skip <| x_qb <| x_qs <| c_reg <| oPP rfl <| ow_nil <| x_ql (RW.at (ihk1 (IntKind.i64.wrap (i15 + 1)) (H)) (fun _ h => St.sel [] rfl rfl h) ⟨rfl, rfl, rfl, rfl, trivial⟩)
  ·exact c_exit <| x_qs_exit <| x_ql_exit <| x_qb_here <| x_qs <| sR <| oP rfl <| nT <| xr 4 rfl (by cases H; exact q1)
theorem lib_slices_ContainsFunc___int_int___impl_CutsOk_1_ok (w : World) {p0 : List Int} {a_0 : Option Addr} {n_0 c_0 : Nat} {r : Bool} (H : lib_slices_ContainsFunc___int_int___impl_CutsOk_1 p0 = some r)  (g0 : (eList eI 3).rd w [] p0 [.slice a_0 n_0 c_0]) :
    Calls Tryz.prog 96 #[.slice a_0 n_0 c_0, .func (.func 124) #[] #[]] w (fun en w' => en = .returned (.bool r) ∧ Ext [] w w') := by
 obtain rfl := rd_n g0
 unfold lib_slices_ContainsFunc___int_int___impl_CutsOk_1 at H
 exact f_enter Tryz.func96 rfl Tryz.ntmps96 rfl (St.init w []) <| sR <| oP rfl <| nR <| oPP rfl <| bE H fun y10 h11 H => oq rfl (qc rfl fn118 (fun w1 hw1 => lib_slices_IndexFunc___int_int___impl_CutsOk_1_ok w1  h11 (rds_bor g0 w1 hw1))) tt2 <| oPP rfl <| nT <| xr 4 rfl (by cases H; exact q1)
theorem impl_CutsOk_ok (w : World) {p0 : List Int} {a_0 : Option Addr} {n_0 c_0 : Nat} {r : Bool} (H : impl_CutsOk p0 = some r)  (g0 : (eList eI 3).rd w [] p0 [.slice a_0 n_0 c_0]) :
    Calls Tryz.prog 115 #[.slice a_0 n_0 c_0] w (fun en w' => en = .returned (.bool r) ∧ Ext [] w w') := by
 obtain rfl := rd_n g0
 unfold impl_CutsOk at H
 refine f_enter Tryz.func115 rfl Tryz.ntmps115 rfl (St.init w []) <| sR <| oP rfl <| nR <| ow_batch [.p, .lenS 56 3 sl56] rfl <| bE H fun y10 h11 H => oq rfl (qc rfl fn60 (fun w1 hw1 => impl_within_ok w1  h11)) tt2 <| oP rfl <| bE H fun u12 hu16 H => ow_cut [(9, .bool u12), (0, .slice a_0 p0.length c_0), (2, .bool false)] 3 ?_ (fun key => OW.sub (R := [(0, .slice a_0 p0.length c_0), (2, .bool false), (6, .bool y10)]) ?_ (sb rfl))
 ·refine oP rfl <| bE H fun u17 hu21 H => ow_cut [(14, .bool u17), (2, .bool false)] 4 ?_ (fun key => OW.sub (R := [(0, .slice a_0 p0.length c_0), (2, .bool false), (10, .bool u12)]) ?_ (sb rfl))
  ·exact oP rfl <| nT <| xr 2 rfl (by cases H; exact q1)
  ·clear H
   have H := hu21
   clear hu21
   generalize u12 = t20 at H key ⊢
   cases t20
   ·have H := of_if_f rfl H
    refine ow_batch [.p, .p, .p, .p] rfl ?_
    obtain rfl := of_some H
    exact OW.sub key (sb rfl)
   ·have H := of_if_t rfl H
    refine oP rfl <| bE H fun y18 h19 H => oq rfl (qc rfl fn96 (fun w1 hw1 => lib_slices_ContainsFunc___int_int___impl_CutsOk_1_ok w1  h19 (rds_bor g0 w1 hw1))) tt2 <| oP rfl <| oP rfl <| ?_
    obtain rfl := of_some H
    exact OW.sub key (sb rfl)
 ·clear H
  have H := hu16
  clear hu16
  generalize y10 = t15 at H key ⊢
  cases t15
  ·have H := of_if_f rfl H
   refine ow_batch [.p, .p, .p] rfl ?_
   obtain rfl := of_some H
   exact OW.sub key (sb rfl)
  ·have H := of_if_t rfl H
   refine oP rfl <| bE H fun y13 h14 H => oq rfl (qc rfl fn95 (fun w1 hw1 => impl_ascending_ok w1  h14 (rds_bor g0 w1 hw1))) tt2 <| oP rfl <| ?_
   obtain rfl := of_some H
   exact OW.sub key (sb rfl)
theorem impl_AttrOk_ok (w : World) {p0 : Timpl_Attr} {cs0 : List Value} {r : Bool} (H : impl_AttrOk p0 = some r)  (g0 : (eTimpl_Attr).rd w [] p0 cs0) :
    Calls Tryz.prog 90 #[.agg cs0.toArray] w (fun en w' => en = .returned (.bool r) ∧ Ext [] w w') := by
 obtain ⟨c10, c11, c12, rfl, g13, g14, g15⟩ := rdo_Timpl_Attr g0
 obtain rfl := g13
 obtain ⟨a16, c17, rfl⟩ := rd_sl1 g14
 obtain ⟨a18, c19, rfl⟩ := rd_sl1 g15
 unfold impl_AttrOk at H
 refine f_enter Tryz.func90 rfl Tryz.ntmps90 rfl (St.init w []) <| sR <| ob _ rfl fun b20 => oP rfl <| nQ <| c_seq <| sR <| ow_batch [.fa 113 0 0 fa113_0] rfl <| o1 rfl (r1 0 0 rfl ty9 rfl) <| bE H fun y21 h22 H => oq rfl (qc rfl fn113 (fun w1 hw1 => impl_WordOk_ok w1  h22)) tt2 <| oP rfl <| nQ <| cI H rfl (fun H => ?_) (fun H => ?_)
 ·exact sR <| oP rfl <| nT <| x_qs_ret <| xr 2 rfl (by cases H; exact q1)
 ·refine c_skip <| x_qs <| c_seq <| sR <| ow_batch [.fa 113 1 1 fa113_1] rfl <| o1 rfl (r1 1 0 rfl ty56 rfl) <| ow_batch [.lenS 56 3 sl56, .p] rfl <| nQ <| cI H rfl (fun H => ?_) (fun H => ?_)
  ·refine sR <| ow_batch [.fa 113 2 2 fa113_2] rfl <| o1 rfl (r1 2 0 rfl ty23 rfl) <| ow_batch [.lenS 23 9 sl23] rfl <| bE H fun y23 h24 H => oq rfl (qc rfl fn60 (fun w1 hw1 => impl_within_ok w1  h24)) tt2 <| oP rfl <| bE H fun u25 hu29 H => ow_cut [(19, .bool u25), (2, .bool false)] 4 ?_ (fun key => OW.sub (R := [(1, .pointer (some ⟨b20, 0, none⟩)), (2, .bool false), (15, .bool y23)]) ?_ (sb rfl))
   ·exact oP rfl <| nT <| x_qs_ret <| xr 2 rfl (by cases H; exact q1)
   ·clear H
    have H := hu29
    clear hu29
    generalize y23 = t28 at H key ⊢
    cases t28
    ·have H := of_if_f rfl H
     refine ow_batch [.p, .p, .p, .p] rfl ?_
     obtain rfl := of_some H
     exact OW.sub key (sb rfl)
    ·have H := of_if_t rfl H
     refine ow_batch [.fa 113 2 2 fa113_2] rfl <| o1 rfl (r1 2 0 rfl ty23 rfl) <| bE H fun y26 h27 H => oq rfl (qc rfl fn89 (fun w1 hw1 => impl_distinctWords_ok w1  h27 (rds_bor g15 w1 hw1))) tt2 <| oP rfl <| ?_
     obtain rfl := of_some H
     exact OW.sub key (sb rfl)
  ·refine c_skip <| x_qs <| sR <| ow_batch [.fa 113 2 2 fa113_2] rfl <| o1 rfl (r1 2 0 rfl ty23 rfl) <| ow_batch [.lenS 23 9 sl23, .p, .p] rfl <| bE H fun u30 hu34 H => ow_cut [(28, .bool u30), (2, .bool false)] 4 ?_ (fun key => OW.sub (R := [(1, .pointer (some ⟨b20, 0, none⟩)), (2, .bool false), (24, .bool ((p0.Values_.length : Int) == 0))]) ?_ (sb rfl))
   ·exact oP rfl <| nT <| xr 2 rfl (by cases H; exact q1)
   ·clear H
    have H := hu34
    clear hu34
    generalize ((p0.Values_.length : Int) == 0) = t33 at H key ⊢
    cases t33
    ·have H := of_if_f rfl H
     refine ow_batch [.p, .p, .p, .p] rfl ?_
     obtain rfl := of_some H
     exact OW.sub key (sb rfl)
    ·have H := of_if_t rfl H
     refine ow_batch [.fa 113 1 1 fa113_1] rfl <| o1 rfl (r1 1 0 rfl ty56 rfl) <| bE H fun y31 h32 H => oq rfl (qc rfl fn115 (fun w1 hw1 => impl_CutsOk_ok w1  h32 (rds_bor g14 w1 hw1))) tt2 <| oP rfl <| ?_
     obtain rfl := of_some H
     exact OW.sub key (sb rfl)
theorem impl_SchemaOk_ok (w : World) {p0 : Timpl_Schema} {cs0 : List Value} {r : Bool} (H : impl_SchemaOk p0 = some r)  (g0 : (eTimpl_Schema).rd w [] p0 cs0) :
    Calls Tryz.prog 59 #[.agg cs0.toArray] w (fun en w' => en = .returned (.bool r) ∧ Ext [] w w') := by
 obtain ⟨c10, c11, rfl, g12, g13⟩ := rdo_Timpl_Schema g0
 obtain ⟨a14, c15, rfl⟩ := rd_sl1 g12
 obtain ⟨a16, c17, rfl⟩ := rd_sl1 g13
 unfold impl_SchemaOk at H
 refine f_enter Tryz.func59 rfl Tryz.ntmps59 rfl (St.init w []) <| sR <| ob _ rfl fun b18 => oP rfl <| nQ <| c_seq <| sR <| ow_batch [.fa 38 0 0 fa38_0] rfl <| o1 rfl (r1 0 0 rfl ty36 rfl) <| ow_batch [.lenS 36 113 sl36] rfl <| bE H fun y19 h20 H => oq rfl (qc rfl fn60 (fun w1 hw1 => impl_within_ok w1  h20)) tt2 <| oPP rfl <| bE H fun u21 hu25 H => ow_cut [(17, .bool u21), (1, .pointer (some ⟨b18, 0, none⟩))] 6 ?_ (fun key => OW.sub (R := [(1, .pointer (some ⟨b18, 0, none⟩)), (11, .bool (!y19))]) ?_ (sb rfl))
 ·refine oP rfl <| bE H fun u26 hu30 H => ow_cut [(23, .bool u26), (1, .pointer (some ⟨b18, 0, none⟩))] 5 ?_ (fun key => OW.sub (R := [(1, .pointer (some ⟨b18, 0, none⟩)), (18, .bool u21)]) ?_ (sb rfl))
  ·refine nQ <| cI H rfl (fun H => ?_) (fun H => ?_)
   ·exact sR <| oP rfl <| nT <| x_qs_ret <| xr 2 rfl (by cases H; exact q1)
   ·refine c_skip <| x_qs <| sR <| ow_blit0 (e := eStr) rfl rfl rfl rfl sl23 ty9 (fun _ => kp) fun b31 => oP rfl <| nQ <| c_seq <| sR <| ow_batch [.fa 38 0 0 fa38_0] rfl <| o1 rfl (r1 0 0 rfl ty36 rfl) <| ow_batch [.lenS 36 113 sl36, .p] rfl <| nQ <| c_block <| CW.at (loopI5 (fun (i65 : Int) (l66 : List (List UInt8)) (a67 : Option Addr) (c68 : Nat) (F69 : List Nat) => St w [] [Res.own (eList (eStr) 9) F69 l66 [.slice a67 l66.length c68]]) (fun i65 l66 a67 c68 F69 => [(3, .slice a67 l66.length c68), (26, .slice a14 p0.Attrs_.length c15), (27, .int .i64 (p0.Attrs_.length : Int)), (28, .int .i64 i65)]) (fun kk => fun i65 l66 a67 c68 F69 => a67.isNone = false ∧ impl_SchemaOk_L1 p0 kk i65 l66 = some r) (fun _ _ _ _ _ H => ?_) (fun k1 ihk1 i65 l66 a67 c68 F69 ⟨hz70, H⟩ => ?_) Fuel (0) (([] : List (List UInt8))) ((some ⟨b31, 0, none⟩)) (0) ([b31]) (⟨rfl, H⟩)) (fun _ h => by have h2 : St w [] [Res.own (eList (eStr) 9) [b31] ([] : List (List UInt8)) [.slice (some ⟨b31, 0, none⟩) 0 0]] _ := St.sel [1] rfl rfl h; simpa only [List.length_set, List.length_cons, List.length_nil] using h2) (by simp only [Sub, List.length_set, List.length_cons, List.length_nil]; exact ⟨rfl, rfl, rfl, rfl,  trivial⟩)
    ·unfold impl_SchemaOk_L1 at H
     exact absurd H (by simp)
    ·unfold impl_SchemaOk_L1 at H
     refine sR <| oP rfl <| nQ <| c_seq <| cI H rfl (fun H => ?_) (fun H => ?_)
     ·refine c_skip <| x_qs <| c_seq <| c_block <| sR <| bE H fun e103 h104 H => ow_ixB rfl rfl rfl rfl rfl sl36 ty113 rfl g12 h104 fun q107 c108 hd105 hA106 => ?_
      obtain ⟨c109, c110, c111, rfl, g112, g113, g114⟩ := rdo_Timpl_Attr hd105
      obtain rfl := g112
      obtain ⟨a115, c116, rfl⟩ := rd_sl1 g113
      obtain ⟨a117, c118, rfl⟩ := rd_sl1 g114
      refine o1 rfl (ry_load (cs := [vS e103.Name_, .slice a115 e103.Cuts_.length c116, .slice a117 e103.Values_.length c118]) rfl rfl ty113 (at_bor bor hA106) rfl) <| ow_alloc rfl rfl rfl rfl ty113 (fun _ => kp) fun b119 => sC 0 [vS e103.Name_, .slice a115 e103.Cuts_.length c116, .slice a117 e103.Values_.length c118] [_, _, _] 1 rfl ty113 rfl <| nQ <| c_seq <| sR <| o1 rfl (rx 0 1 _ rfl ty113 rfl) <| bE H fun y120 h121 H => oq rfl (qc rfl fn90 (fun w1 hw1 => impl_AttrOk_ok w1 h121 (rdm_Timpl_Attr rfl (rds_bor g113 w1 hw1) (rds_bor g114 w1 hw1)))) tt2 <| oP rfl <| nQ <| cI H rfl (fun H => ?_) (fun H => ?_)
      ·exact sR <| oP rfl <| nT <| x_qs_ret <| x_qb_ret <| x_qs_ret <| x_ql_ret <| x_qb_ret <| x_qs_ret <| xr 2 rfl (by cases H; exact q1)
      ·exact c_skip <| x_qs <| c_reg <| ow_batch [.p, .fa 113 0 0 fa113_0] rfl <| o1 rfl (r1 0 1 rfl ty9 rfl) <| ow_blit (val := vS) (h1 := fun _ => rfl) [e103.Name_] [(0, [vS e103.Name_])] rfl rfl rfl rfl rfl sl23 ty9 rfl rfl rfl ⟨rfl, rfl, Nat.le_of_ble_eq_true rfl,  trivial⟩ rfl rfl (fun _ => kp) fun b122 => bE H fun l123 h124 H => ow_appR (r := 0) (ys := ([e103.Name_] : List (List UInt8))) rfl rfl rfl rfl rfl rfl sl23 ty9 rfl rfl rfl (fun w1 hw1 => rds_own (e := eList (eStr) 9) (r := 2) rfl w1 hw1) h124 (fun _ _ _ => kp) fun a125 c126 F127 => ow_fact rfl (fun w1 hw1 => own_nn (i := 0) hw1 rfl (app_ne h124)) fun hz128 => oP rfl <| ow_nil <| x_qb <| x_qs <| c_reg <| oPP rfl <| ow_nil <| x_ql (RW.at (ihk1 (IntKind.i64.wrap (i65 + 1)) (l123) (a125) (c126) (F127) (⟨hz128, H⟩)) (fun _ h => St.sel [0] rfl rfl h) ⟨rfl, rfl, rfl, rfl, trivial⟩)
     ·exact c_exit <| x_qs_exit <| x_ql_exit <| x_qb_here <| x_qs <| sR <| oP rfl <| bE H fun y129 h130 H => oq rfl (qc rfl fn89 (fun w1 hw1 => impl_distinctWords_ok w1  h130 (rds_own (e := eList (eStr) 9) (r := 0) rfl w1 hw1))) tt2 <| oP rfl <| nT <| xr 2 rfl (by cases H; exact q1)
  ·clear H
   have H := hu30
   clear hu30
   generalize u21 = t29 at H key ⊢
   cases t29
   ·have H := of_if_f rfl H
    refine ow_batch [.fa 38 1 1 fa38_1] rfl <| o1 rfl (r1 1 0 rfl ty23 rfl) <| bE H fun y27 h28 H => oq rfl (qc rfl fn89 (fun w1 hw1 => impl_distinctWords_ok w1  h28 (rds_bor g13 w1 hw1))) tt2 <| oP rfl <| oP rfl <| ?_
    obtain rfl := of_some H
    exact OW.sub key (sb rfl)
   ·have H := of_if_t rfl H
    refine ow_batch [.p, .p, .p, .p, .p] rfl ?_
    obtain rfl := of_some H
    exact OW.sub key (sb rfl)
 ·clear H
  have H := hu25
  clear hu25
  generalize (!y19) = t24 at H key ⊢
  cases t24
  ·have H := of_if_f rfl H
   refine ow_batch [.fa 38 1 1 fa38_1] rfl <| o1 rfl (r1 1 0 rfl ty23 rfl) <| ow_batch [.lenS 23 9 sl23] rfl <| bE H fun y22 h23 H => oq rfl (qc rfl fn60 (fun w1 hw1 => impl_within_ok w1  h23)) tt2 <| oP rfl <| oP rfl <| ?_
   obtain rfl := of_some H
   exact OW.sub key (sb rfl)
  ·have H := of_if_t rfl H
   refine ow_batch [.p, .p, .p, .p, .p, .p] rfl ?_
   obtain rfl := of_some H
   exact OW.sub key (sb rfl)
theorem impl_weights_1_ok (w : World) {p0 : Int}  {r : Bool} (H : impl_weights_1 p0 = some r)   :
    Calls Tryz.prog 126 #[.int .i64 p0] w (fun en w' => en = .returned (.bool r) ∧ Ext [] w w') := by
 unfold impl_weights_1 at H
 exact f_enter Tryz.func126 rfl Tryz.ntmps126 rfl (St.init w []) <| sR <| oP rfl <| nR <| oP rfl <| bE H fun y10 h11 H => oq rfl (qc rfl fn60 (fun w1 hw1 => impl_within_ok w1  h11)) tt2 <| oPP rfl <| nT <| xr 2 rfl (by cases H; exact q1)
theorem lib_slices_IndexFunc___int_int___impl_weights_1_ok (w : World) {p0 : List Int} {a_0 : Option Addr} {n_0 c_0 : Nat} {r : Int} (H : lib_slices_IndexFunc___int_int___impl_weights_1 p0 = some r)  (g0 : (eList eI 3).rd w [] p0 [.slice a_0 n_0 c_0]) :
    Calls Tryz.prog 118 #[.slice a_0 n_0 c_0, .func (.func 126) #[] #[]] w (fun en w' => en = .returned (.int .i64 r) ∧ Ext [] w w') := by
 obtain rfl := rd_n g0
 unfold lib_slices_IndexFunc___int_int___impl_weights_1 at H
 refine f_enter Tryz.func118 rfl Tryz.ntmps118 rfl (St.init w []) <| sR <| oP rfl <| nQ <| c_seq <| sR <| ow_batch [.p, .lenS 56 3 sl56, .p] rfl <| nQ <| c_block <| CW.at (loopI1 (fun (i15 : Int) => St w [] []) (fun i15 => [(0, .slice a_0 p0.length c_0), (1, .func (.func 126) #[] #[]), (7, .int .i64 (p0.length : Int)), (8, .int .i64 i15)]) (fun kk => fun i15 => lib_slices_IndexFunc___int_int___impl_weights_1_L1 p0 kk i15 = some r) (fun _ H => ?_) (fun k1 ihk1 i15 H => ?_) Fuel (0) (H)) (fun _ h => St.sel [] rfl rfl h) ⟨rfl, rfl, rfl, rfl, trivial⟩
 ·unfold lib_slices_IndexFunc___int_int___impl_weights_1_L1 at H
  exact absurd H (by simp)
 ·unfold lib_slices_IndexFunc___int_int___impl_weights_1_L1 at H
  refine sR <| oP rfl <| nQ <| c_seq <| cI H rfl (fun H => ?_) (fun H => ?_)
  ·refine c_skip <| x_qs <| c_seq <| c_block <| sR <| oPP rfl <| nR <| ow_batch [.p, .p, .p] rfl <| bE H fun e21 h22 H => ow_ixE (e := eI) (xs := p0) (j := i15) rfl rfl rfl rfl rfl sl56 ty3 rfl (fun w1 hw1 => rds_bor g0 w1 hw1) h22 (by rw [Nat.mul_one]) <| o1 rfl (ry_load1 rfl rfl ty3 (at_elV (fun w1 hw1 => rds_bor g0 w1 hw1) h22)) <| bE H fun y23 h24 H => ow_q rfl rfl (dstOk_lt rfl) (qy_callV (cap := []) rfl fn126 rfl rfl (fun w1 hw1 => impl_weights_1_ok w1  h24)) (fun _ _ => trivial) <| nQ <| cI H rfl (fun H => ?_) (fun H => ?_)
   ·exact sR <| oPP rfl <| nT <| x_qb_ret <| x_qs_ret <| x_ql_ret <| x_qb_ret <| x_qs_ret <| xr 4 rfl (by cases H; exact q1)
   ·exact c_skip <| x_qb <| x_qs <| c_reg <| oPP rfl <| ow_nil <| x_ql (RW.at (ihk1 (IntKind.i64.wrap (i15 + 1)) (H)) (fun _ h => St.sel [] rfl rfl h) ⟨rfl, rfl, rfl, rfl, trivial⟩)
  ·exact c_exit <| x_qs_exit <| x_ql_exit <| x_qb_here <| x_qs <| sR <| oP rfl <| nT <| xr 4 rfl (by cases H; exact q1)
theorem lib_slices_ContainsFunc___int_int___impl_weights_1_ok (w : World) {p0 : List Int} {a_0 : Option Addr} {n_0 c_0 : Nat} {r : Bool} (H : lib_slices_ContainsFunc___int_int___impl_weights_1 p0 = some r)  (g0 : (eList eI 3).rd w [] p0 [.slice a_0 n_0 c_0]) :
    Calls Tryz.prog 96 #[.slice a_0 n_0 c_0, .func (.func 126) #[] #[]] w (fun en w' => en = .returned (.bool r) ∧ Ext [] w w') := by
 obtain rfl := rd_n g0
 unfold lib_slices_ContainsFunc___int_int___impl_weights_1 at H
 exact f_enter Tryz.func96 rfl Tryz.ntmps96 rfl (St.init w []) <| sR <| oP rfl <| nR <| oPP rfl <| bE H fun y10 h11 H => oq rfl (qc rfl fn118 (fun w1 hw1 => lib_slices_IndexFunc___int_int___impl_weights_1_ok w1  h11 (rds_bor g0 w1 hw1))) tt2 <| oPP rfl <| nT <| xr 4 rfl (by cases H; exact q1)
theorem impl_weights_ok (w : World) {p0 : List Int} {p1 : Int} {a_0 : Option Addr} {n_0 c_0 : Nat} {r : Bool} (H : impl_weights p0 p1 = some r)  (g0 : (eList eI 3).rd w [] p0 [.slice a_0 n_0 c_0]) :
    Calls Tryz.prog 116 #[.slice a_0 n_0 c_0, .int .i64 p1] w (fun en w' => en = .returned (.bool r) ∧ Ext [] w w') := by
 obtain rfl := rd_n g0
 unfold impl_weights at H
 refine f_enter Tryz.func116 rfl Tryz.ntmps116 rfl (St.init w []) <| sR <| oP rfl <| nR <| ow_batch [.p, .lenS 56 3 sl56, .p, .p, .p] rfl <| bE H fun u10 hu14 H => ow_cut [(13, .bool u10), (4, .bool false)] 4 ?_ (fun key => OW.sub (R := [(0, .slice a_0 p0.length c_0), (4, .bool false), (9, .bool ((p0.length : Int) == p1))]) ?_ (sb rfl))
 ·exact oP rfl <| nT <| xr 4 rfl (by cases H; exact q1)
 ·clear H
  have H := hu14
  clear hu14
  generalize ((p0.length : Int) == p1) = t13 at H key ⊢
  cases t13
  ·have H := of_if_f rfl H
   refine ow_batch [.p, .p, .p, .p] rfl ?_
   obtain rfl := of_some H
   exact OW.sub key (sb rfl)
  ·have H := of_if_t rfl H
   refine oP rfl <| bE H fun y11 h12 H => oq rfl (qc rfl fn96 (fun w1 hw1 => lib_slices_ContainsFunc___int_int___impl_weights_1_ok w1  h12 (rds_bor g0 w1 hw1))) tt2 <| oP rfl <| oP rfl <| ?_
   obtain rfl := of_some H
   exact OW.sub key (sb rfl)
theorem impl_total_ok (w : World) {p0 : List Int} {a_0 : Option Addr} {n_0 c_0 : Nat} {r : Int} (H : impl_total p0 = some r)  (g0 : (eList eI 3).rd w [] p0 [.slice a_0 n_0 c_0]) :
    Calls Tryz.prog 93 #[.slice a_0 n_0 c_0] w (fun en w' => en = .returned (.int .i64 r) ∧ Ext [] w w') := by
 obtain rfl := rd_n g0
 unfold impl_total at H
 refine f_enter Tryz.func93 rfl Tryz.ntmps93 rfl (St.init w []) <| sR <| oP rfl <| nR <| oP rfl <| nQ <| c_seq <| sR <| ow_batch [.p, .lenS 56 3 sl56, .p] rfl <| nQ <| c_block <| CW.at (loopI2 (fun (i14 : Int) (i15 : Int) => St w [] []) (fun i14 i15 => [(3, .int .i64 i14), (6, .slice a_0 p0.length c_0), (7, .int .i64 (p0.length : Int)), (8, .int .i64 i15)]) (fun kk => fun i14 i15 => impl_total_L1 p0 kk i14 i15 = some r) (fun _ _ H => ?_) (fun k1 ihk1 i14 i15 H => ?_) Fuel (0) (0) (H)) (fun _ h => St.sel [] rfl rfl h) ⟨rfl, rfl, rfl, rfl, trivial⟩
 ·unfold impl_total_L1 at H
  exact absurd H (by simp)
 ·unfold impl_total_L1 at H
  refine sR <| oP rfl <| nQ <| c_seq <| cI H rfl (fun H => ?_) (fun H => ?_)
  ·exact c_skip <| x_qs <| c_seq <| c_block <| sR <| bE H fun e20 h21 H => ow_ixE (e := eI) (xs := p0) (j := i15) rfl rfl rfl rfl rfl sl56 ty3 rfl (fun w1 hw1 => rds_bor g0 w1 hw1) h21 (by rw [Nat.mul_one]) <| o1 rfl (ry_load1 rfl rfl ty3 (at_elV (fun w1 hw1 => rds_bor g0 w1 hw1) h21)) <| oP rfl <| nQ <| c_reg <| ow_batch [.p, .p, .p, .p] rfl <| ow_nil <| x_qb <| x_qs <| c_reg <| oPP rfl <| ow_nil <| x_ql (RW.at (ihk1 (IntKind.i64.wrap (i14 + e20)) (IntKind.i64.wrap (i15 + 1)) (H)) (fun _ h => St.sel [] rfl rfl h) ⟨rfl, rfl, rfl, rfl, trivial⟩)
  ·exact c_exit <| x_qs_exit <| x_ql_exit <| x_qb_here <| x_qs <| sR <| oPP rfl <| nT <| xr 2 rfl (by cases H; exact q1)
theorem impl_bins_ok (w : World) {p0 : Timpl_Attr} {cs0 : List Value} {r : Int} (H : impl_bins p0 = some r)  (g0 : (eTimpl_Attr).rd w [] p0 cs0) :
    Calls Tryz.prog 100 #[.agg cs0.toArray] w (fun en w' => en = .returned (.int .i64 r) ∧ Ext [] w w') := by
 obtain ⟨c10, c11, c12, rfl, g13, g14, g15⟩ := rdo_Timpl_Attr g0
 obtain rfl := g13
 obtain ⟨a16, c17, rfl⟩ := rd_sl1 g14
 obtain ⟨a18, c19, rfl⟩ := rd_sl1 g15
 unfold impl_bins at H
 refine f_enter Tryz.func100 rfl Tryz.ntmps100 rfl (St.init w []) <| sR <| ob _ rfl fun b20 => oP rfl <| nQ <| c_seq <| sR <| ow_batch [.fa 113 1 1 fa113_1] rfl <| o1 rfl (r1 1 0 rfl ty56 rfl) <| ow_batch [.lenS 56 3 sl56, .p] rfl <| nQ <| cI H rfl (fun H => ?_) (fun H => ?_)
 ·exact sR <| ow_batch [.fa 113 1 1 fa113_1] rfl <| o1 rfl (r1 1 0 rfl ty56 rfl) <| ow_batch [.lenS 56 3 sl56, .p, .p] rfl <| nT <| x_qs_ret <| xr 2 rfl (by cases H; exact q1)
 ·exact c_skip <| x_qs <| sR <| ow_batch [.fa 113 2 2 fa113_2] rfl <| o1 rfl (r1 2 0 rfl ty23 rfl) <| ow_batch [.lenS 23 9 sl23, .p] rfl <| nT <| xr 2 rfl (by cases H; exact q1)
theorem impl_zeros_ok (w : World) {M0 : List Nat} {p0 : Int}  {r : List Int} (H : impl_zeros p0 = some r) (HS : St w M0 [] w)  :
    Calls Tryz.prog 101 #[.int .i64 p0] w (fun en w' => ∃ v, en = .returned v ∧ ∃ (a0 : Option Addr), ∃ (n0 : Nat), ∃ (c0 : Nat), ∃ (F0 : List Nat), v = .slice a0 n0 c0 ∧ St w M0 [Res.own (eList eI 3) F0 r [.slice a0 n0 c0]] w') := by
 unfold impl_zeros at H
 exact f_enter Tryz.func101 rfl Tryz.ntmps101 rfl (HS) <| sR <| oP rfl <| nR <| oP rfl <| bE H fun l10 h11 H => ow_make (e := eI) (zero := (0 : Int)) rfl rfl rfl rfl rfl rfl sl56 ty3 rfl rfl rfl rfl (fun _ => ⟨rfl, rfl⟩) h11 (fun _ => kp) fun b12 => oP rfl <| nT <| x_retR (rs := [.tmp 2]) (vs := [.slice (some ⟨b12, 0, none⟩) l10.length l10.length]) rfl ⟨rfl, trivial⟩ (fun w' hw' => by
  obtain rfl := of_some H
  exact ⟨_, rfl, (some ⟨b12, 0, none⟩), l10.length, l10.length, [b12], rfl, hw'.sel [0] rfl rfl⟩)
theorem impl_StatsOk_ok (w : World) {p0 : Timpl_Schema} {p1 : Timpl_Stats} {cs0 : List Value} {cs1 : List Value} {r : Bool} (H : impl_StatsOk p0 p1 = some r)  (g0 : (eTimpl_Schema).rd w [] p0 cs0) (g1 : (eTimpl_Stats).rd w [] p1 cs1) :
    Calls Tryz.prog 91 #[.agg cs0.toArray, .agg cs1.toArray] w (fun en w' => en = .returned (.bool r) ∧ Ext [] w w') := by
 obtain ⟨c10, c11, rfl, g12, g13⟩ := rdo_Timpl_Schema g0
 obtain ⟨a14, c15, rfl⟩ := rd_sl1 g12
 obtain ⟨a16, c17, rfl⟩ := rd_sl1 g13
 obtain ⟨c18, c19, rfl, g20, g21⟩ := rdo_Timpl_Stats g1
 obtain ⟨a22, c23, rfl⟩ := rd_sl1 g20
 obtain ⟨a24, c25, rfl⟩ := rd_sl1 g21
 unfold impl_StatsOk at H
 refine f_enter Tryz.func91 rfl Tryz.ntmps91 rfl (St.init w []) <| sR <| ob _ rfl fun b26 => ob _ rfl fun b27 => oP rfl <| nR <| ow_batch [.fa 38 1 1 fa38_1] rfl <| o1 rfl (r1 1 0 rfl ty23 rfl) <| ow_batch [.lenS 23 9 sl23, .p] rfl <| nQ <| c_seq <| sR <| o1 rfl (rx 0 0 _ rfl ty38 rfl) <| bE H fun y28 h29 H => oq rfl (qc rfl fn59 (fun w1 hw1 => impl_SchemaOk_ok w1 h29 (rdm_Timpl_Schema (rds_bor g12 w1 hw1) (rds_bor g13 w1 hw1)))) tt2 <| oPP rfl <| bE H fun u30 hu34 H => ow_cut [(23, .bool u30), (2, .pointer (some ⟨b26, 0, none⟩)), (3, .pointer (some ⟨b27, 0, none⟩)), (5, .int .i64 (p0.Classes_.length : Int))] 6 ?_ (fun key => OW.sub (R := [(2, .pointer (some ⟨b26, 0, none⟩)), (3, .pointer (some ⟨b27, 0, none⟩)), (5, .int .i64 (p0.Classes_.length : Int)), (17, .bool (!y28))]) ?_ (sb rfl))
 ·refine oP rfl <| bE H fun u35 hu39 H => ow_cut [(29, .bool u35), (2, .pointer (some ⟨b26, 0, none⟩)), (3, .pointer (some ⟨b27, 0, none⟩)), (5, .int .i64 (p0.Classes_.length : Int))] 5 ?_ (fun key => OW.sub (R := [(2, .pointer (some ⟨b26, 0, none⟩)), (3, .pointer (some ⟨b27, 0, none⟩)), (5, .int .i64 (p0.Classes_.length : Int)), (24, .bool u30)]) ?_ (sb rfl))
  ·refine nQ <| cI H rfl (fun H => ?_) (fun H => ?_)
   ·exact sR <| oP rfl <| nT <| x_qs_ret <| xr 4 rfl (by cases H; exact q1)
   ·refine c_skip <| x_qs <| c_seq <| sR <| ow_batch [.fa 68 1 1 fa68_1] rfl <| o1 rfl (r1 1 1 rfl ty66 rfl) <| ow_batch [.lenS 66 56 sl66, .p] rfl <| nQ <| cI H rfl (fun H => ?_) (fun H => ?_)
    ·exact sR <| oP rfl <| nT <| x_qs_ret <| xr 4 rfl (by cases H; exact q1)
    ·refine c_skip <| x_qs <| c_seq <| sR <| ow_batch [.fa 68 1 1 fa68_1] rfl <| o1 rfl (r1 1 1 rfl ty66 rfl) <| ow_batch [.lenS 66 56 sl66, .fa 38 0 0 fa38_0] rfl <| o1 rfl (r1 0 0 rfl ty36 rfl) <| ow_batch [.lenS 36 113 sl36, .p] rfl <| nQ <| cI H rfl (fun H => ?_) (fun H => ?_)
     ·exact sR <| oP rfl <| nT <| x_qs_ret <| xr 4 rfl (by cases H; exact q1)
     ·refine c_skip <| x_qs <| c_seq <| sR <| ow_batch [.fa 68 1 1 fa68_1] rfl <| o1 rfl (r1 1 1 rfl ty66 rfl) <| ow_batch [.lenS 66 56 sl66, .p] rfl <| nQ <| c_block <| CW.at (loopI1 (fun (i132 : Int) => St w [] [Res.box b26 38 [.slice a14 p0.Attrs_.length c15, .slice a16 p0.Classes_.length c17], Res.box b27 68 [.slice a22 p1.Totals_.length c23, .slice a24 p1.Cells_.length c25]]) (fun i132 => [(2, .pointer (some ⟨b26, 0, none⟩)), (3, .pointer (some ⟨b27, 0, none⟩)), (5, .int .i64 (p0.Classes_.length : Int)), (42, .slice a24 p1.Cells_.length c25), (43, .int .i64 (p1.Cells_.length : Int)), (44, .int .i64 i132)]) (fun kk => fun i132 => impl_StatsOk_L1 p1 p0 kk i132 = some r) (fun _ H => ?_) (fun k1 ihk1 i132 H => ?_) Fuel (0) (H)) (fun _ h => St.sel [0, 1] rfl rfl h) ⟨rfl, rfl, rfl, rfl, rfl, rfl, trivial⟩
      ·unfold impl_StatsOk_L1 at H
       exact absurd H (by simp)
      ·unfold impl_StatsOk_L1 at H
       refine sR <| oP rfl <| nQ <| c_seq <| cI H rfl (fun H => ?_) (fun H => ?_)
       ·refine c_skip <| x_qs <| c_seq <| c_block <| sR <| oP rfl <| bE H fun e225 h226 H => ow_ixB rfl rfl rfl rfl rfl sl66 ty56 rfl g21 h226 fun q229 c230 hd227 hA228 => ?_
        obtain ⟨a231, c232, rfl⟩ := rd_sl1 hd227
        refine o1 rfl (ry_load1 rfl rfl ty56 (at_bor bor hA228)) <| oPP rfl <| nQ <| c_seq <| sR <| ow_batch [.p, .fa 38 0 0 fa38_0] rfl <| o1 rfl (r1 0 0 rfl ty36 rfl) <| oP rfl <| bE H fun e233 h234 H => ow_ixB rfl rfl rfl rfl rfl sl36 ty113 rfl g12 h234 fun q237 c238 hd235 hA236 => ?_
        obtain ⟨c239, c240, c241, rfl, g242, g243, g244⟩ := rdo_Timpl_Attr hd235
        obtain rfl := g242
        obtain ⟨a245, c246, rfl⟩ := rd_sl1 g243
        obtain ⟨a247, c248, rfl⟩ := rd_sl1 g244
        refine o1 rfl (ry_load (cs := [vS e233.Name_, .slice a245 e233.Cuts_.length c246, .slice a247 e233.Values_.length c248]) rfl rfl ty113 (at_bor bor hA236) rfl) <| bE H fun y249 h250 H => oq rfl (qc rfl fn100 (fun w1 hw1 => impl_bins_ok w1 h250 (rdm_Timpl_Attr rfl (rds_bor g243 w1 hw1) (rds_bor g244 w1 hw1)))) tt2 <| oPP rfl <| bE H fun y251 h252 H => oq rfl (qc rfl fn116 (fun w1 hw1 => impl_weights_ok w1  h252 (rds_bor hd227 w1 hw1))) tt2 <| oP rfl <| nQ <| cI H rfl (fun H => ?_) (fun H => ?_)
        ·exact sR <| oP rfl <| nT <| x_qs_ret <| x_qb_ret <| x_qs_ret <| x_ql_ret <| x_qb_ret <| x_qs_ret <| xr 4 rfl (by cases H; exact q1)
        ·refine c_skip <| x_qs <| sR <| oP rfl <| bE H fun y253 h254 H => ow_callS rfl fn101 rfl rfl rfl rfl (fun w1 hw1 => impl_zeros_ok w1  h254 (hw1.carve [] rfl rfl)) fun v255 w1 w2 hw1 hR257 => ?_
         obtain ⟨a258, n259, c260, F261, rfl, hS256⟩ := hR257
         obtain rfl := own_nS (i := 0) hS256 rfl
         refine ⟨St w [] [_, _, _], hw1.comp [] rfl rfl hS256, fun _ _ => trivial, ?_⟩
         refine oP rfl <| nR <| ow_batch [.p, .lenS 56 3 sl56, .p] rfl <| nQ <| c_block <| CW.at (loopI2 (fun (i280 : Int) (l281 : List Int) => St w [] [Res.box b26 38 [.slice a14 p0.Attrs_.length c15, .slice a16 p0.Classes_.length c17], Res.box b27 68 [.slice a22 p1.Totals_.length c23, .slice a24 p1.Cells_.length c25], Res.own (eList eI 3) F261 l281 [.slice a258 y253.length c260]]) (fun i280 l281 => [(2, .pointer (some ⟨b26, 0, none⟩)), (3, .pointer (some ⟨b27, 0, none⟩)), (5, .int .i64 (p0.Classes_.length : Int)), (8, .slice a258 y253.length c260), (42, .slice a24 p1.Cells_.length c25), (43, .int .i64 (p1.Cells_.length : Int)), (44, .int .i64 i132), (62, .slice a231 e225.length c232), (63, .int .i64 (e225.length : Int)), (64, .int .i64 i280)]) (fun kk => fun i280 l281 => impl_StatsOk_L2 e225 p0 p1 (impl_StatsOk_L1 p1 p0 k1) i132 kk i280 l281 = some r) (fun _ _ H => ?_) (fun k2 ihk2 i280 l281 H => ?_) Fuel (0) (y253) (H)) (fun _ h => St.sel [0, 1, 2] rfl rfl h) ⟨rfl, rfl, rfl, rfl, rfl, rfl, rfl, rfl, rfl, rfl, trivial⟩
         ·unfold impl_StatsOk_L2 at H
          exact absurd H (by simp)
         ·unfold impl_StatsOk_L2 at H
          refine sR <| oP rfl <| nQ <| c_seq <| cI H rfl (fun H => ?_) (fun H => ?_)
          ·refine c_skip <| x_qs <| c_seq <| c_block <| sR <| oP rfl <| bE H fun e300 h301 H => ow_ixE (e := eI) (xs := e225) (j := i280) rfl rfl rfl rfl rfl sl56 ty3 rfl (fun w1 hw1 => rds_bor hd227 w1 hw1) h301 (by rw [Nat.mul_one]) <| o1 rfl (ry_load1 rfl rfl ty3 (at_elV (fun w1 hw1 => rds_bor hd227 w1 hw1) h301)) <| oPP rfl <| nR <| ow_batch [.p, .p, .p] rfl <| bE H fun x302 h303 H => o1 rfl (ry_rem rfl rfl rfl h303) <| bE H fun e304 h305 H => ow_ixE (e := eI) (xs := l281) (j := x302) rfl rfl rfl rfl rfl sl56 ty3 rfl (fun w1 hw1 => rds_own (e := eList eI 3) (r := 2) rfl w1 hw1) h305 (by rw [Nat.mul_one]) <| o1 rfl (ry_load1 rfl rfl ty3 (at_elV (fun w1 hw1 => rds_own (e := eList eI 3) (r := 2) rfl w1 hw1) h305)) <| oPP rfl <| bE H fun e306 h307 H => ow_ixE (e := eI) (xs := l281) (j := x302) rfl rfl rfl rfl rfl sl56 ty3 rfl (fun w1 hw1 => rds_own (e := eList eI 3) (r := 2) rfl w1 hw1) h307 (by rw [Nat.mul_one]) <| ow_storeV (i := 2) (j := x302) rfl rfl rfl rfl rfl rfl ty3 rfl h307 (fun _ => rfl) kp <| nQ <| c_seq <| c_regQ mixed (by kernel_rfl) <| ow_batch [.p, .p, .p] rfl <| bE H fun x308 h309 H => o1 rfl (ry_rem rfl rfl rfl h309) <| bE H fun e310 h311 H => ow_ixE (e := eI) (xs := (l281.set x302.toNat (IntKind.i64.wrap (e304 + e300)))) (j := x308) rfl rfl rfl rfl rfl sl56 ty3 rfl (fun w1 hw1 => rds_own (e := eList eI 3) (r := 2) rfl w1 hw1) h311 (by rw [Nat.mul_one]) <| o1 rfl (ry_load1 rfl rfl ty3 (at_elV (fun w1 hw1 => rds_own (e := eList eI 3) (r := 2) rfl w1 hw1) h311)) <| ow_batch [.fa 68 0 0 fa68_0] rfl <| o1 rfl (r1 0 1 rfl ty56 rfl) <| oPP rfl <| bE H fun x312 h313 H => o1 rfl (ry_rem rfl rfl rfl h313) <| ?_
           refine bE H fun e314 h315 H => ow_ixE (e := eI) (xs := p1.Totals_) (j := x312) rfl rfl rfl rfl rfl sl56 ty3 rfl (fun w1 hw1 => rds_bor g20 w1 hw1) h315 (by rw [Nat.mul_one]) <| o1 rfl (ry_load1 rfl rfl ty3 (at_elV (fun w1 hw1 => rds_bor g20 w1 hw1) h315)) <| oP rfl <| ow_nilQ <| x_qs <| cI H rfl (fun H => ?_) (fun H => ?_)
           ·exact sR <| oP rfl <| nT <| x_qb_ret <| x_qs_ret <| x_ql_ret <| x_qb_ret <| x_qb_ret <| x_qs_ret <| x_ql_ret <| x_qb_ret <| x_qs_ret <| xr 4 rfl (by cases H; exact q1)
           ·exact c_skip <| x_qb <| x_qs <| c_reg <| oPP rfl <| ow_nil <| x_ql (RW.at (ihk2 (IntKind.i64.wrap (i280 + 1)) ((l281.set x302.toNat (IntKind.i64.wrap (e304 + e300)))) (H)) (fun _ h => St.sel [0, 1, 2] rfl rfl h) ⟨rfl, rfl, rfl, rfl, rfl, rfl, rfl, rfl, rfl, rfl, trivial⟩)
          ·exact c_exit <| x_qs_exit <| x_ql_exit <| x_qb_here <| x_qb <| x_qs <| c_reg <| oPP rfl <| ow_nil <| x_ql (RW.at (ihk1 (IntKind.i64.wrap (i132 + 1)) (H)) (fun _ h => St.sel [0, 1] rfl rfl h) ⟨rfl, rfl, rfl, rfl, rfl, rfl, trivial⟩)
       ·exact c_exit <| x_qs_exit <| x_ql_exit <| x_qb_here <| x_qs <| sR <| oP rfl <| nT <| xr 4 rfl (by cases H; exact q1)
  ·clear H
   have H := hu39
   clear hu39
   generalize u30 = t38 at H key ⊢
   cases t38
   ·have H := of_if_f rfl H
    refine ow_batch [.fa 68 0 0 fa68_0] rfl <| o1 rfl (r1 0 1 rfl ty56 rfl) <| bE H fun y36 h37 H => oq rfl (qc rfl fn93 (fun w1 hw1 => impl_total_ok w1  h37 (rds_bor g20 w1 hw1))) tt2 <| oP rfl <| oP rfl <| ?_
    obtain rfl := of_some H
    exact OW.sub key (sb rfl)
   ·have H := of_if_t rfl H
    refine ow_batch [.p, .p, .p, .p, .p] rfl ?_
    obtain rfl := of_some H
    exact OW.sub key (sb rfl)
 ·clear H
  have H := hu34
  clear hu34
  generalize (!y28) = t33 at H key ⊢
  cases t33
  ·have H := of_if_f rfl H
   refine ow_batch [.fa 68 0 0 fa68_0] rfl <| o1 rfl (r1 0 1 rfl ty56 rfl) <| oP rfl <| bE H fun y31 h32 H => oq rfl (qc rfl fn116 (fun w1 hw1 => impl_weights_ok w1  h32 (rds_bor g20 w1 hw1))) tt2 <| oP rfl <| oP rfl <| ?_
   obtain rfl := of_some H
   exact OW.sub key (sb rfl)
  ·have H := of_if_t rfl H
   refine ow_batch [.p, .p, .p, .p, .p, .p] rfl ?_
   obtain rfl := of_some H
   exact OW.sub key (sb rfl)
theorem impl_AttrsOk_ok (w : World) {p0 : Timpl_Schema} {p1 : List Int} {cs0 : List Value} {a_1 : Option Addr} {n_1 c_1 : Nat} {r : Bool} (H : impl_AttrsOk p0 p1 = some r)  (g0 : (eTimpl_Schema).rd w [] p0 cs0) (g1 : (eList eI 3).rd w [] p1 [.slice a_1 n_1 c_1]) :
    Calls Tryz.prog 92 #[.agg cs0.toArray, .slice a_1 n_1 c_1] w (fun en w' => en = .returned (.bool r) ∧ Ext [] w w') := by
 obtain ⟨c10, c11, rfl, g12, g13⟩ := rdo_Timpl_Schema g0
 obtain ⟨a14, c15, rfl⟩ := rd_sl1 g12
 obtain ⟨a16, c17, rfl⟩ := rd_sl1 g13
 obtain rfl := rd_n g1
 unfold impl_AttrsOk at H
 refine f_enter Tryz.func92 rfl Tryz.ntmps92 rfl (St.init w []) <| sR <| ob _ rfl fun b18 => oP rfl <| nQ <| c_seq <| c_regQ mixed (by kernel_rfl) <| o1 rfl (rx 0 0 _ rfl ty38 rfl) <| bE H fun y19 h20 H => oq rfl (qc rfl fn59 (fun w1 hw1 => impl_SchemaOk_ok w1 h20 (rdm_Timpl_Schema (rds_bor g12 w1 hw1) (rds_bor g13 w1 hw1)))) tt2 <| oP rfl <| ow_cut [(11, .bool (y19 && (decide ((p1.length : Int) > 0)))), (1, .slice a_1 p1.length c_1), (2, .pointer (some ⟨b18, 0, none⟩)), (4, .bool false)] 4 ?_ (fun key => OW.sub (R := [(1, .slice a_1 p1.length c_1), (2, .pointer (some ⟨b18, 0, none⟩)), (4, .bool false), (7, .bool y19)]) ?_ (sb rfl))
 ·refine oP rfl <| bE H fun u23 hu27 H => ow_cut [(15, .bool u23), (1, .slice a_1 p1.length c_1), (2, .pointer (some ⟨b18, 0, none⟩)), (4, .bool false)] 3 ?_ (fun key => OW.sub (R := [(1, .slice a_1 p1.length c_1), (2, .pointer (some ⟨b18, 0, none⟩)), (4, .bool false), (12, .bool (y19 && (decide ((p1.length : Int) > 0))))]) ?_ (sb rfl))
  ·refine oP rfl <| bE H fun u28 hu32 H => ow_cut [(21, .bool u28), (1, .slice a_1 p1.length c_1), (2, .pointer (some ⟨b18, 0, none⟩)), (4, .bool false)] 5 ?_ (fun key => OW.sub (R := [(1, .slice a_1 p1.length c_1), (2, .pointer (some ⟨b18, 0, none⟩)), (4, .bool false), (16, .bool u23)]) ?_ (sb rfl))
   ·refine oP rfl <| bE H fun u33 hu37 H => ow_cut [(33, .bool u33), (4, .bool false)] 11 ?_ (fun key => OW.sub (R := [(1, .slice a_1 p1.length c_1), (2, .pointer (some ⟨b18, 0, none⟩)), (4, .bool false), (22, .bool u28)]) ?_ (sb rfl))
    ·exact oP rfl <| ow_nilQ <| x_qs <| c_ret <| xr 4 rfl (by cases H; exact q1)
    ·clear H
     have H := hu37
     clear hu37
     generalize u28 = t36 at H key ⊢
     cases t36
     ·have H := of_if_f rfl H
      refine ow_batch [.p, .p, .p, .p, .p, .p, .p, .p, .p, .p, .p] rfl ?_
      obtain rfl := of_some H
      exact OW.sub key (sb rfl)
     ·have H := of_if_t rfl H
      refine ow_batch [.p, .p, .lenS 56 3 sl56, .p] rfl <| bE H fun e34 h35 H => ow_ixE (e := eI) (xs := p1) (j := IntKind.i64.wrap ((p1.length : Int) - 1)) rfl rfl rfl rfl rfl sl56 ty3 rfl (fun w1 hw1 => rds_bor g1 w1 hw1) h35 (by rw [Nat.mul_one]) <| o1 rfl (ry_load1 rfl rfl ty3 (at_elV (fun w1 hw1 => rds_bor g1 w1 hw1) h35)) <| ow_batch [.fa 38 0 0 fa38_0] rfl <| o1 rfl (r1 0 0 rfl ty36 rfl) <| ow_batch [.lenS 36 113 sl36, .p] rfl <| oP rfl <| ?_
      obtain rfl := of_some H
      exact OW.sub key (sb rfl)
   ·clear H
    have H := hu32
    clear hu32
    generalize u23 = t31 at H key ⊢
    cases t31
    ·have H := of_if_f rfl H
     refine ow_batch [.p, .p, .p, .p, .p] rfl ?_
     obtain rfl := of_some H
     exact OW.sub key (sb rfl)
    ·have H := of_if_t rfl H
     refine oP rfl <| bE H fun e29 h30 H => ow_ixE (e := eI) (xs := p1) (j := 0) rfl rfl rfl rfl rfl sl56 ty3 rfl (fun w1 hw1 => rds_bor g1 w1 hw1) h30 (by rw [Nat.mul_one]) <| o1 rfl (ry_load1 rfl rfl ty3 (at_elV (fun w1 hw1 => rds_bor g1 w1 hw1) h30)) <| oP rfl <| oP rfl <| ?_
     obtain rfl := of_some H
     exact OW.sub key (sb rfl)
  ·clear H
   have H := hu27
   clear hu27
   generalize (y19 && (decide ((p1.length : Int) > 0))) = t26 at H key ⊢
   cases t26
   ·have H := of_if_f rfl H
    refine ow_batch [.p, .p, .p] rfl ?_
    obtain rfl := of_some H
    exact OW.sub key (sb rfl)
   ·have H := of_if_t rfl H
    refine oP rfl <| bE H fun y24 h25 H => oq rfl (qc rfl fn95 (fun w1 hw1 => impl_ascending_ok w1  h25 (rds_bor g1 w1 hw1))) tt2 <| oP rfl <| ?_
    obtain rfl := of_some H
    exact OW.sub key (sb rfl)
 ·generalize y19 = t22 at key ⊢
  cases t22
  ·exact ow_batch [.p, .p, .p, .p] rfl <| OW.sub key (sb rfl)
  ·exact ow_batch [.p, .lenS 56 3 sl56, .p] rfl <| oP rfl <| OW.sub key (sb rfl)
end Go.Vk
