/- The code does what the functions of data say. Printed by program. -/

import Derived.Test.YtgpfgjlmjodcaaaRWC

namespace Go.Vk

open Go.Proofs Go.RowKit



set_option maxHeartbeats 4000000 in
set_option maxRecDepth 100000 in
theorem impl_writer_tree_ok (w : World) {M0 : List Nat} {p0 : Timpl_writer} {p1 : Timpl_Tree} {b_0 : Nat} {a_0_1 : Option Addr} {n_0_1 c_0_1 : Nat} {F_0_1 : List Nat} {cs1 : List Value} {r : Timpl_writer} (H : impl_writer_tree p0 p1 = some r) (HS : St w M0 [Res.box b_0 69 [.slice a_0_1 n_0_1 c_0_1, .bool p0.bad_], Res.own (eList (eVal (Value.int .u8) (fun _ => rfl)) 5) F_0_1 p0.out_ [.slice a_0_1 n_0_1 c_0_1]] w) (g1 : (eTimpl_Tree).rd w M0 p1 cs1) :
    Calls Try.prog 65 #[.pointer (some ⟨b_0, 0, none⟩), .agg cs1.toArray] w (fun en w' => ∃ v, en = .returned v ∧ ∃ (a0 : Option Addr), ∃ (n0 : Nat), ∃ (c0 : Nat), ∃ (F0 : List Nat), v = .tuple #[] ∧ St w M0 [Res.box b_0 69 [.slice a0 n0 c0, .bool r.bad_], Res.own (eList (eVal (Value.int .u8) (fun _ => rfl)) 5) F0 r.out_ [.slice a0 n0 c0]] w') := by
  obtain rfl := own_nS (i := 1) HS rfl
  obtain ⟨c1, c2, rfl, g3, g4⟩ := rdo_Timpl_Tree g1
  obtain ⟨a5, c6, rfl⟩ := rd_sl1 g3
  obtain rfl : c2 = [.int .i64 p1.Seen_] := g4
  unfold impl_writer_tree at H
  refine f_enter (vs := [.pointer (some ⟨b_0, 0, none⟩), .agg #[.slice a5 p1.Nodes_.length c6, .int .i64 p1.Seen_]]) Try.func65 rfl Try.ntmps65 rfl (HS) ?_
  refine c_seq ?_
  refine c_reg ?_
  refine ow_box (cs := [.slice a5 p1.Nodes_.length c6, .int .i64 p1.Seen_]) rfl rfl rfl rfl rfl rfl (fun _ => kp) (fun b7 => ?_)
  refine ow_nil ?_
  refine x_qs ?_
  refine c_seq ?_
  refine c_reg ?_
  refine ow_batch [.p, .fa 54 1 1 fa54_1] rfl ?_
  refine ow_r rfl (dstOk_lt rfl) (ry_box1 (off := 1) rfl rfl ty3 (boxIn (i := 2) rfl) rfl) ?_
  refine ow_batch [.fa 54 0 0 fa54_0] rfl ?_
  refine ow_r rfl (dstOk_lt rfl) (ry_box1 (off := 0) rfl rfl ty52 (boxIn (i := 2) rfl) rfl) ?_
  refine ow_batch [.lenS 52 91 sl52] rfl ?_
  refine ow_blit (val := Value.int .i64) (h1 := fun _ => rfl) [p1.Seen_, (p1.Nodes_.length : Int)] [(0, [.int .i64 p1.Seen_]), (1, [.int .i64 (p1.Nodes_.length : Int)])] rfl rfl rfl rfl rfl sl22 ty3 rfl rfl rfl ⟨rfl, rfl, Nat.le_of_ble_eq_true rfl, rfl, rfl, Nat.le_of_ble_eq_true rfl,  trivial⟩ rfl rfl (fun _ => kp) (fun b8 => ?_)
  obtain ⟨y9, h10, H⟩ := of_bind H
  refine ow_callS rfl fn82 rfl rfl rfl rfl (fun w1 hw1 => impl_writer_ints_ok w1  h10 (hw1.carve [0, 1] rfl rfl) (rdO 3 [0, 1] rfl hw1 rfl rfl)) (fun v11 w1 w2 hw1 hR13 => ?_)
  obtain ⟨a14, n15, c16, F17, rfl, hS12⟩ := hR13
  obtain rfl := own_nS (i := 1) hS12 rfl
  refine ⟨St w M0 [_, _, _, _, _, _], hw1.comp [0, 1] rfl rfl hS12, fun _ _ => trivial, ?_⟩
  refine ow_nil ?_
  refine x_qs ?_
  refine c_seq ?_
  refine CW.weak (C' := St w M0 [_, _, _, _]) ?_ (fun _ h => St.sel [2, 3, 4, 5] rfl rfl h)
  refine c_reg ?_
  refine ow_batch [.fa 54 0 0 fa54_0] rfl ?_
  refine ow_r rfl (dstOk_lt rfl) (ry_box1 (off := 0) rfl rfl ty52 (boxIn (i := 0) rfl) rfl) ?_
  refine ow_batch [.lenS 52 91 sl52, .p] rfl ?_
  refine ow_nil ?_
  refine x_qs ?_
  refine c_block ?_
  refine CW.at (loopI6 (fun (l214 : List Int) (a215 : Option Addr) (c216 : Nat) (F217 : List Nat) (q218 : Bool) (i219 : Int) => St w M0 [Res.box b_0 69 [.slice a215 l214.length c216, .bool q218], Res.own (eList (eVal (Value.int .u8) (fun _ => rfl)) 5) F217 l214 [.slice a215 l214.length c216]]) (fun (l214 : List Int) (a215 : Option Addr) (c216 : Nat) (F217 : List Nat) (q218 : Bool) (i219 : Int) => [(0, .pointer (some ⟨b_0, 0, none⟩)), (17, .slice a5 p1.Nodes_.length c6), (18, .int .i64 (p1.Nodes_.length : Int)), (19, .int .i64 i219)]) (fun kk => fun (l214 : List Int) (a215 : Option Addr) (c216 : Nat) (F217 : List Nat) (q218 : Bool) (i219 : Int) => impl_writer_tree_L1 p1 kk l214 q218 i219 = some r) (fun _ _ _ _ _ _ H => ?_) (fun k1 ihk1 l214 a215 c216 F217 q218 i219 H => ?_) Fuel (y9.out_) (a14) (c16) (F17) (y9.bad_) (0) (H)) (fun _ h => St.sel [2, 3] rfl rfl h) ⟨rfl, rfl, rfl, rfl,  trivial⟩
  · unfold impl_writer_tree_L1 at H
    exact absurd H (by simp)
  · unfold impl_writer_tree_L1 at H
    refine c_seq ?_
    refine c_reg ?_
    refine ow_batch [.p] rfl ?_
    refine ow_nil ?_
    refine x_qs ?_
    refine c_seq ?_
    refine c_if rfl (fun hb => ?_) (fun hb => ?_)
    · have H := of_if_t hb H
      refine c_skip ?_
      refine x_qs ?_
      refine c_seq ?_
      refine c_block ?_
      refine c_seq ?_
      refine c_reg ?_
      obtain ⟨e416, h417, H⟩ := of_bind H
      refine ow_ixB rfl rfl rfl rfl rfl sl52 ty91 rfl g3 h417 (fun q420 c421 hd418 hA419 => ?_)
      obtain ⟨c422, c423, c424, c425, c426, c427, c428, c429, c430, c431, rfl, g432, g433, g434, g435, g436, g437, g438, g439, g440, g441⟩ := rdo_Timpl_Node hd418
      obtain rfl : c422 = [.bool e416.Leaf_] := g432
      obtain rfl : c423 = [.int .i64 e416.Fork_.Attr_, .int .i64 e416.Fork_.At_] := g433
      obtain ⟨a442, c443, rfl⟩ := rd_sl1 g434
      obtain rfl : c425 = [.int .i64 e416.Miss_] := g435
      obtain ⟨c444, c445, rfl, g446, g447⟩ := rdo_Timpl_Stats g436
      obtain ⟨a448, c449, rfl⟩ := rd_sl1 g446
      obtain ⟨a450, c451, rfl⟩ := rd_sl1 g447
      obtain rfl : c427 = [.int .i64 e416.Since_] := g437
      obtain ⟨a452, c453, rfl⟩ := rd_sl1 g438
      obtain rfl : c429 = [.int .i64 e416.Depth_] := g439
      obtain rfl : c430 = [.int .i64 e416.Up_] := g440
      obtain rfl : c431 = [.int .i64 e416.Born_] := g441
      refine ow_r rfl (dstOk_lt rfl) (ry_load (cs := [.bool e416.Leaf_, .int .i64 e416.Fork_.Attr_, .int .i64 e416.Fork_.At_, .slice a442 e416.Kids_.length c443, .int .i64 e416.Miss_, .slice a448 e416.Stats_.Totals_.length c449, .slice a450 e416.Stats_.Cells_.length c451, .int .i64 e416.Since_, .slice a452 e416.Attrs_.length c453, .int .i64 e416.Depth_, .int .i64 e416.Up_, .int .i64 e416.Born_]) rfl rfl ty91 (at_bor bor hA419) rfl) ?_
      refine ow_alloc rfl rfl rfl rfl ty91 (fun _ => kp) (fun b454 => ?_)
      refine ow_storeC (off := 0) [.bool e416.Leaf_, .int .i64 e416.Fork_.Attr_, .int .i64 e416.Fork_.At_, .slice a442 e416.Kids_.length c443, .int .i64 e416.Miss_, .slice a448 e416.Stats_.Totals_.length c449, .slice a450 e416.Stats_.Cells_.length c451, .int .i64 e416.Since_, .slice a452 e416.Attrs_.length c453, .int .i64 e416.Depth_, .int .i64 e416.Up_, .int .i64 e416.Born_] [_, _, _, _, _, _, _, _, _, _, _, _] (i := 2) rfl rfl rfl rfl rfl rfl ty91 rfl rfl (by intro u hu; simp only [List.mem_cons, List.not_mem_nil, or_false] at hu; rcases hu with rfl | rfl | rfl | rfl | rfl | rfl | rfl | rfl | rfl | rfl | rfl | rfl <;> rfl) rfl rfl rfl kp ?_
      refine ow_nil ?_
      refine x_qs ?_
      refine c_seq ?_
      refine c_regHT 11 [(0, true), (1, true), (2, true), (4, true), (5, true), (6, true), (7, true), (8, true), (9, true), (3, false), (10, false)] (St w M0 [Res.box b_0 69 [.slice a215 l214.length c216, .bool q218], Res.own (eList (eVal (Value.int .u8) (fun _ => rfl)) 5) F217 l214 [.slice a215 l214.length c216], Res.box b454 91 [.bool e416.Leaf_, .int .i64 e416.Fork_.Attr_, .int .i64 e416.Fork_.At_, .slice a442 e416.Kids_.length c443, .int .i64 e416.Miss_, .slice a448 e416.Stats_.Totals_.length c449, .slice a450 e416.Stats_.Cells_.length c451, .int .i64 e416.Since_, .slice a452 e416.Attrs_.length c453, .int .i64 e416.Depth_, .int .i64 e416.Up_, .int .i64 e416.Born_]]) mixed (by kernel_rfl) (panicOk_qs (panicOk_qb (panicOk_qs (panicOk_ql (panicOk_qb panicOk_body))))) (fun _ h => St.mask [true, true, true] rfl h) ?_
      refine ow_batch [.p, .fa 91 0 0 fa91_0] rfl ?_
      refine ow_rH rfl (dstOk_lt rfl) (ry_box1 (off := 0) rfl rfl ty4 (boxIn (i := 2) rfl) rfl) ?_
      refine ow_batch [.fa 91 1 1 fa91_1, .fa 87 0 0 fa87_0] rfl ?_
      refine ow_rH rfl (dstOk_lt rfl) (ry_box1 (off := 1) rfl rfl ty3 (boxIn (i := 2) rfl) rfl) ?_
      refine ow_batch [.fa 91 1 1 fa91_1, .fa 87 1 1 fa87_1] rfl ?_
      refine ow_rH rfl (dstOk_lt rfl) (ry_box1 (off := 2) rfl rfl ty3 (boxIn (i := 2) rfl) rfl) ?_
      obtain ⟨y458, h459, H⟩ := of_bind H
      refine ow_q rfl rfl (dstOk_lt rfl) (qy_call rfl fn90 rfl (fun w1 hw1 => impl_flag_ok w1  h459)) (fun _ h => St.mask [true, true, true] rfl h) ?_
      refine ow_blit (val := Value.int .i64) (h1 := fun _ => rfl) [y458, e416.Fork_.Attr_, e416.Fork_.At_] [(0, [.int .i64 y458]), (1, [.int .i64 e416.Fork_.Attr_]), (2, [.int .i64 e416.Fork_.At_])] rfl rfl rfl rfl rfl sl22 ty3 rfl rfl rfl ⟨rfl, rfl, Nat.le_of_ble_eq_true rfl, rfl, rfl, Nat.le_of_ble_eq_true rfl, rfl, rfl, Nat.le_of_ble_eq_true rfl,  trivial⟩ rfl rfl (fun _ => (fun _ h => St.mask [true, true, true] rfl h)) (fun b460 => ?_)
      refine ow_nilH ?_
      refine x_qt ?_
      obtain ⟨y461, h462, H⟩ := of_bind H
      refine ow_callS rfl fn82 rfl rfl rfl rfl (fun w1 hw1 => impl_writer_ints_ok w1  h462 (hw1.carve [0, 1] rfl rfl) (rdO 3 [0, 1] rfl hw1 rfl rfl)) (fun v463 w1 w2 hw1 hR465 => ?_)
      obtain ⟨a466, n467, c468, F469, rfl, hS464⟩ := hR465
      obtain rfl := own_nS (i := 1) hS464 rfl
      refine ⟨St w M0 [_, _, _, _, _, _], hw1.comp [0, 1] rfl rfl hS464, fun _ _ => trivial, ?_⟩
      refine ow_nil ?_
      refine x_qs ?_
      refine c_seq ?_
      refine CW.weak (C' := St w M0 [_, _, _, _]) ?_ (fun _ h => St.sel [2, 3, 4, 5] rfl rfl h)
      refine c_reg ?_
      refine ow_batch [.p, .fa 91 2 3 fa91_2] rfl ?_
      refine ow_r rfl (dstOk_lt rfl) (ry_box1 (off := 3) rfl rfl ty22 (boxIn (i := 0) rfl) rfl) ?_
      obtain ⟨y470, h471, H⟩ := of_bind H
      refine ow_callS rfl fn48 rfl rfl rfl rfl (fun w1 hw1 => impl_writer_list_ok w1  h471 (hw1.carve [2, 3] rfl rfl) (rdB [2, 3] rfl rfl hw1 g434)) (fun v472 w1 w2 hw1 hR474 => ?_)
      obtain ⟨a475, n476, c477, F478, rfl, hS473⟩ := hR474
      obtain rfl := own_nS (i := 1) hS473 rfl
      refine ⟨St w M0 [_, _, _, _, _, _], hw1.comp [2, 3] rfl rfl hS473, fun _ _ => trivial, ?_⟩
      refine ow_nil ?_
      refine x_qs ?_
      refine c_seq ?_
      refine CW.weak (C' := St w M0 [_, _, _, _]) ?_ (fun _ h => St.sel [0, 1, 4, 5] rfl rfl h)
      refine c_reg ?_
      refine ow_batch [.p, .fa 91 3 4 fa91_3] rfl ?_
      refine ow_r rfl (dstOk_lt rfl) (ry_box1 (off := 4) rfl rfl ty3 (boxIn (i := 0) rfl) rfl) ?_
      refine ow_blit (val := Value.int .i64) (h1 := fun _ => rfl) [e416.Miss_] [(0, [.int .i64 e416.Miss_])] rfl rfl rfl rfl rfl sl22 ty3 rfl rfl rfl ⟨rfl, rfl, Nat.le_of_ble_eq_true rfl,  trivial⟩ rfl rfl (fun _ => kp) (fun b479 => ?_)
      obtain ⟨y480, h481, H⟩ := of_bind H
      refine ow_callS rfl fn82 rfl rfl rfl rfl (fun w1 hw1 => impl_writer_ints_ok w1  h481 (hw1.carve [2, 3] rfl rfl) (rdO 4 [2, 3] rfl hw1 rfl rfl)) (fun v482 w1 w2 hw1 hR484 => ?_)
      obtain ⟨a485, n486, c487, F488, rfl, hS483⟩ := hR484
      obtain rfl := own_nS (i := 1) hS483 rfl
      refine ⟨St w M0 [_, _, _, _, _, _, _], hw1.comp [2, 3] rfl rfl hS483, fun _ _ => trivial, ?_⟩
      refine ow_nil ?_
      refine x_qs ?_
      refine c_seq ?_
      refine CW.weak (C' := St w M0 [_, _, _, _, _]) ?_ (fun _ h => St.sel [0, 1, 4, 5, 6] rfl rfl h)
      refine c_reg ?_
      refine ow_batch [.p, .fa 91 4 5 fa91_4, .fa 89 0 0 fa89_0] rfl ?_
      refine ow_r rfl (dstOk_lt rfl) (ry_box1 (off := 5) rfl rfl ty22 (boxIn (i := 0) rfl) rfl) ?_
      obtain ⟨y489, h490, H⟩ := of_bind H
      refine ow_callS rfl fn48 rfl rfl rfl rfl (fun w1 hw1 => impl_writer_list_ok w1  h490 (hw1.carve [3, 4] rfl rfl) (rdB [3, 4] rfl rfl hw1 g446)) (fun v491 w1 w2 hw1 hR493 => ?_)
      obtain ⟨a494, n495, c496, F497, rfl, hS492⟩ := hR493
      obtain rfl := own_nS (i := 1) hS492 rfl
      refine ⟨St w M0 [_, _, _, _, _, _, _], hw1.comp [3, 4] rfl rfl hS492, fun _ _ => trivial, ?_⟩
      refine ow_nil ?_
      refine x_qs ?_
      refine c_seq ?_
      refine CW.weak (C' := St w M0 [_, _, _, _, _]) ?_ (fun _ h => St.sel [0, 1, 2, 5, 6] rfl rfl h)
      refine c_reg ?_
      refine ow_batch [.p, .fa 91 4 5 fa91_4, .fa 89 1 1 fa89_1] rfl ?_
      refine ow_r rfl (dstOk_lt rfl) (ry_box1 (off := 6) rfl rfl ty35 (boxIn (i := 0) rfl) rfl) ?_
      refine ow_batch [.lenS 35 22 sl35] rfl ?_
      refine ow_blit (val := Value.int .i64) (h1 := fun _ => rfl) [(e416.Stats_.Cells_.length : Int)] [(0, [.int .i64 (e416.Stats_.Cells_.length : Int)])] rfl rfl rfl rfl rfl sl22 ty3 rfl rfl rfl ⟨rfl, rfl, Nat.le_of_ble_eq_true rfl,  trivial⟩ rfl rfl (fun _ => kp) (fun b498 => ?_)
      obtain ⟨y499, h500, H⟩ := of_bind H
      refine ow_callS rfl fn82 rfl rfl rfl rfl (fun w1 hw1 => impl_writer_ints_ok w1  h500 (hw1.carve [3, 4] rfl rfl) (rdO 5 [3, 4] rfl hw1 rfl rfl)) (fun v501 w1 w2 hw1 hR503 => ?_)
      obtain ⟨a504, n505, c506, F507, rfl, hS502⟩ := hR503
      obtain rfl := own_nS (i := 1) hS502 rfl
      refine ⟨St w M0 [_, _, _, _, _, _, _, _], hw1.comp [3, 4] rfl rfl hS502, fun _ _ => trivial, ?_⟩
      refine ow_nil ?_
      refine x_qs ?_
      refine c_seq ?_
      refine c_seq ?_
      refine CW.weak (C' := St w M0 [_, _, _, _, _, _]) ?_ (fun _ h => St.sel [0, 1, 2, 5, 6, 7] rfl rfl h)
      refine c_reg ?_
      refine ow_batch [.fa 91 4 5 fa91_4, .fa 89 1 1 fa89_1] rfl ?_
      refine ow_r rfl (dstOk_lt rfl) (ry_box1 (off := 6) rfl rfl ty35 (boxIn (i := 0) rfl) rfl) ?_
      refine ow_batch [.lenS 35 22 sl35, .p] rfl ?_
      refine ow_nil ?_
      refine x_qs ?_
      refine c_block ?_
      refine CW.at (loopI6 (fun (l531 : List Int) (a532 : Option Addr) (c533 : Nat) (F534 : List Nat) (q535 : Bool) (i536 : Int) => St w M0 [Res.box b_0 69 [.slice a532 l531.length c533, .bool q535], Res.own (eList (eVal (Value.int .u8) (fun _ => rfl)) 5) F534 l531 [.slice a532 l531.length c533], Res.box b454 91 [.bool e416.Leaf_, .int .i64 e416.Fork_.Attr_, .int .i64 e416.Fork_.At_, .slice a442 e416.Kids_.length c443, .int .i64 e416.Miss_, .slice a448 e416.Stats_.Totals_.length c449, .slice a450 e416.Stats_.Cells_.length c451, .int .i64 e416.Since_, .slice a452 e416.Attrs_.length c453, .int .i64 e416.Depth_, .int .i64 e416.Up_, .int .i64 e416.Born_]]) (fun (l531 : List Int) (a532 : Option Addr) (c533 : Nat) (F534 : List Nat) (q535 : Bool) (i536 : Int) => [(0, .pointer (some ⟨b_0, 0, none⟩)), (5, .pointer (some ⟨b454, 0, none⟩)), (17, .slice a5 p1.Nodes_.length c6), (18, .int .i64 (p1.Nodes_.length : Int)), (19, .int .i64 i219), (58, .slice a450 e416.Stats_.Cells_.length c451), (59, .int .i64 (e416.Stats_.Cells_.length : Int)), (60, .int .i64 i536)]) (fun kk => fun (l531 : List Int) (a532 : Option Addr) (c533 : Nat) (F534 : List Nat) (q535 : Bool) (i536 : Int) => impl_writer_tree_L2 e416 (impl_writer_tree_L1 p1 k1) i219 kk l531 q535 i536 = some r) (fun _ _ _ _ _ _ H => ?_) (fun k2 ihk2 l531 a532 c533 F534 q535 i536 H => ?_) Fuel (y499.out_) (a504) (c506) (F507) (y499.bad_) (0) (H)) (fun _ h => St.sel [4, 5, 0] rfl rfl h) ⟨rfl, rfl, rfl, rfl, rfl, rfl, rfl, rfl,  trivial⟩
      · unfold impl_writer_tree_L2 at H
        exact absurd H (by simp)
      · unfold impl_writer_tree_L2 at H
        refine c_seq ?_
        refine c_reg ?_
        refine ow_batch [.p] rfl ?_
        refine ow_nil ?_
        refine x_qs ?_
        refine c_seq ?_
        refine c_if rfl (fun hb => ?_) (fun hb => ?_)
        · have H := of_if_t hb H
          refine c_skip ?_
          refine x_qs ?_
          refine c_seq ?_
          refine c_block ?_
          refine c_seq ?_
          refine c_reg ?_
          obtain ⟨e560, h561, H⟩ := of_bind H
          refine ow_ixB rfl rfl rfl rfl rfl sl35 ty22 rfl g447 h561 (fun q564 c565 hd562 hA563 => ?_)
          obtain ⟨a566, c567, rfl⟩ := rd_sl1 hd562
          refine ow_r rfl (dstOk_lt rfl) (ry_load1 rfl rfl ty22 (at_bor bor hA563)) ?_
          refine ow_batch [.p] rfl ?_
          refine ow_nil ?_
          refine x_qs ?_
          refine c_reg ?_
          refine ow_batch [.p, .p] rfl ?_
          obtain ⟨y568, h569, H⟩ := of_bind H
          refine ow_callS rfl fn48 rfl rfl rfl rfl (fun w1 hw1 => impl_writer_list_ok w1  h569 (hw1.carve [0, 1] rfl rfl) (rdB [0, 1] rfl rfl hw1 hd562)) (fun v570 w1 w2 hw1 hR572 => ?_)
          obtain ⟨a573, n574, c575, F576, rfl, hS571⟩ := hR572
          obtain rfl := own_nS (i := 1) hS571 rfl
          refine ⟨St w M0 [_, _, _, _, _], hw1.comp [0, 1] rfl rfl hS571, fun _ _ => trivial, ?_⟩
          refine ow_nil ?_
          refine x_qb ?_
          refine x_qs ?_
          refine CW.weak (C' := St w M0 [_, _, _]) ?_ (fun _ h => St.sel [2, 3, 4] rfl rfl h)
          refine c_reg ?_
          refine ow_batch [.p, .p] rfl ?_
          refine ow_nil ?_
          exact x_ql (RW.at (ihk2 (y568.out_) (a573) (c575) (F576) (y568.bad_) (IntKind.i64.wrap (i536 + 1)) (H)) (fun _ h => St.sel [1, 2, 0] rfl rfl h) ⟨rfl, rfl, rfl, rfl, rfl, rfl, rfl, rfl, trivial⟩)
        · have H := of_if_f hb H
          refine c_exit ?_
          refine x_qs_exit ?_
          refine x_ql_exit ?_
          refine x_qb_here ?_
          refine x_qs ?_
          refine c_seq ?_
          refine c_reg ?_
          refine ow_batch [.p, .fa 91 5 7 fa91_5] rfl ?_
          refine ow_r rfl (dstOk_lt rfl) (ry_box1 (off := 7) rfl rfl ty3 (boxIn (i := 2) rfl) rfl) ?_
          refine ow_blit (val := Value.int .i64) (h1 := fun _ => rfl) [e416.Since_] [(0, [.int .i64 e416.Since_])] rfl rfl rfl rfl rfl sl22 ty3 rfl rfl rfl ⟨rfl, rfl, Nat.le_of_ble_eq_true rfl,  trivial⟩ rfl rfl (fun _ => kp) (fun b577 => ?_)
          obtain ⟨y578, h579, H⟩ := of_bind H
          refine ow_callS rfl fn82 rfl rfl rfl rfl (fun w1 hw1 => impl_writer_ints_ok w1  h579 (hw1.carve [0, 1] rfl rfl) (rdO 3 [0, 1] rfl hw1 rfl rfl)) (fun v580 w1 w2 hw1 hR582 => ?_)
          obtain ⟨a583, n584, c585, F586, rfl, hS581⟩ := hR582
          obtain rfl := own_nS (i := 1) hS581 rfl
          refine ⟨St w M0 [_, _, _, _, _, _], hw1.comp [0, 1] rfl rfl hS581, fun _ _ => trivial, ?_⟩
          refine ow_nil ?_
          refine x_qs ?_
          refine c_seq ?_
          refine CW.weak (C' := St w M0 [_, _, _, _]) ?_ (fun _ h => St.sel [2, 3, 4, 5] rfl rfl h)
          refine c_reg ?_
          refine ow_batch [.p, .fa 91 6 8 fa91_6] rfl ?_
          refine ow_r rfl (dstOk_lt rfl) (ry_box1 (off := 8) rfl rfl ty22 (boxIn (i := 0) rfl) rfl) ?_
          obtain ⟨y587, h588, H⟩ := of_bind H
          refine ow_callS rfl fn48 rfl rfl rfl rfl (fun w1 hw1 => impl_writer_list_ok w1  h588 (hw1.carve [2, 3] rfl rfl) (rdB [2, 3] rfl rfl hw1 g438)) (fun v589 w1 w2 hw1 hR591 => ?_)
          obtain ⟨a592, n593, c594, F595, rfl, hS590⟩ := hR591
          obtain rfl := own_nS (i := 1) hS590 rfl
          refine ⟨St w M0 [_, _, _, _, _, _], hw1.comp [2, 3] rfl rfl hS590, fun _ _ => trivial, ?_⟩
          refine ow_nil ?_
          refine x_qs ?_
          refine CW.weak (C' := St w M0 [_, _, _, _]) ?_ (fun _ h => St.sel [0, 1, 4, 5] rfl rfl h)
          refine c_reg ?_
          refine ow_batch [.p, .fa 91 7 9 fa91_7] rfl ?_
          refine ow_r rfl (dstOk_lt rfl) (ry_box1 (off := 9) rfl rfl ty3 (boxIn (i := 0) rfl) rfl) ?_
          refine ow_batch [.fa 91 8 10 fa91_8] rfl ?_
          refine ow_r rfl (dstOk_lt rfl) (ry_box1 (off := 10) rfl rfl ty3 (boxIn (i := 0) rfl) rfl) ?_
          refine ow_batch [.fa 91 9 11 fa91_9] rfl ?_
          refine ow_r rfl (dstOk_lt rfl) (ry_box1 (off := 11) rfl rfl ty3 (boxIn (i := 0) rfl) rfl) ?_
          refine ow_blit (val := Value.int .i64) (h1 := fun _ => rfl) [e416.Depth_, e416.Up_, e416.Born_] [(0, [.int .i64 e416.Depth_]), (1, [.int .i64 e416.Up_]), (2, [.int .i64 e416.Born_])] rfl rfl rfl rfl rfl sl22 ty3 rfl rfl rfl ⟨rfl, rfl, Nat.le_of_ble_eq_true rfl, rfl, rfl, Nat.le_of_ble_eq_true rfl, rfl, rfl, Nat.le_of_ble_eq_true rfl,  trivial⟩ rfl rfl (fun _ => kp) (fun b596 => ?_)
          obtain ⟨y597, h598, H⟩ := of_bind H
          refine ow_callS rfl fn82 rfl rfl rfl rfl (fun w1 hw1 => impl_writer_ints_ok w1  h598 (hw1.carve [2, 3] rfl rfl) (rdO 4 [2, 3] rfl hw1 rfl rfl)) (fun v599 w1 w2 hw1 hR601 => ?_)
          obtain ⟨a602, n603, c604, F605, rfl, hS600⟩ := hR601
          obtain rfl := own_nS (i := 1) hS600 rfl
          refine ⟨St w M0 [_, _, _, _, _, _, _], hw1.comp [2, 3] rfl rfl hS600, fun _ _ => trivial, ?_⟩
          refine ow_nil ?_
          refine x_qb ?_
          refine x_qs ?_
          refine CW.weak (C' := St w M0 [_, _, _, _, _]) ?_ (fun _ h => St.sel [0, 1, 4, 5, 6] rfl rfl h)
          refine c_reg ?_
          refine ow_batch [.p, .p] rfl ?_
          refine ow_nil ?_
          exact x_ql (RW.at (ihk1 (y597.out_) (a602) (c604) (F605) (y597.bad_) (IntKind.i64.wrap (i219 + 1)) (H)) (fun _ h => St.sel [3, 4] rfl rfl h) ⟨rfl, rfl, rfl, rfl, trivial⟩)
    · have H := of_if_f hb H
      refine c_exit ?_
      refine x_qs_exit ?_
      refine x_ql_exit ?_
      refine x_qb_here ?_
      exact x_endR (rs := []) (vs := []) rfl trivial (fun w' hw' => by
          obtain rfl := of_some H
          exact ⟨_, rfl, a215, l214.length, c216, F217, rfl, hw'.sel [0, 1] rfl rfl⟩)

set_option maxHeartbeats 4000000 in
set_option maxRecDepth 100000 in
theorem impl_PutTree_ok (w : World) {M0 : List Nat} {p0 : Timpl_Tree} {cs0 : List Value} {r : List Int} (H : impl_PutTree p0 = some r) (HS : St w M0 [] w) (g0 : (eTimpl_Tree).rd w M0 p0 cs0) :
    Calls Try.prog 34 #[.agg cs0.toArray] w (fun en w' => ∃ v, en = .returned v ∧ ∃ (a0 : Option Addr), ∃ (n0 : Nat), ∃ (c0 : Nat), ∃ (F0 : List Nat), v = .slice a0 n0 c0 ∧ St w M0 [Res.own (eList (eVal (Value.int .u8) (fun _ => rfl)) 5) F0 r [.slice a0 n0 c0]] w') := by
  obtain ⟨c1, c2, rfl, g3, g4⟩ := rdo_Timpl_Tree g0
  obtain ⟨a5, c6, rfl⟩ := rd_sl1 g3
  obtain rfl : c2 = [.int .i64 p0.Seen_] := g4
  unfold impl_PutTree at H
  refine f_enter (vs := [.agg #[.slice a5 p0.Nodes_.length c6, .int .i64 p0.Seen_]]) Try.func34 rfl Try.ntmps34 rfl (HS) ?_
  refine c_seq ?_
  refine c_reg ?_
  refine ow_box (cs := [.slice a5 p0.Nodes_.length c6, .int .i64 p0.Seen_]) rfl rfl rfl rfl rfl rfl (fun _ => kp) (fun b7 => ?_)
  refine ow_batch [.p] rfl ?_
  refine ow_nil ?_
  refine x_qs ?_
  refine c_seq ?_
  refine c_reg ?_
  refine ow_r rfl (dstOk_lt rfl) (ry_build2 [] [.slice none 0 0, .bool false] rfl rfl ty69 fs69 rfl trivial rfl) ?_
  refine ow_box (cs := [.slice none 0 0, .bool false]) rfl rfl rfl rfl rfl rfl (fun _ => kp) (fun b8 => ?_)
  refine ow_batch [.p] rfl ?_
  refine ow_nil ?_
  refine x_qs ?_
  refine c_seq ?_
  refine c_reg ?_
  refine ow_batch [.p] rfl ?_
  refine ow_r rfl (dstOk_lt rfl) (ry_box (off := 0) (ds := [.slice a5 p0.Nodes_.length c6, .int .i64 p0.Seen_]) rfl rfl ty54 (boxIn (i := 0) rfl) rfl rfl) ?_
  refine ow_st rfl (fun _ h => St.pushNil (e := eVal (Value.int .u8) (fun _ => rfl)) (T := 5) h) ?_
  obtain ⟨y9, h10, H⟩ := of_bind H
  refine ow_callS rfl fn65 rfl rfl rfl rfl (fun w1 hw1 => impl_writer_tree_ok w1 (cs1 := [.slice a5 p0.Nodes_.length c6, .int .i64 p0.Seen_]) h10 (hw1.carve [1, 2] rfl rfl) (rdm_Timpl_Tree (x := p0) (c0 := [.slice a5 p0.Nodes_.length c6]) (c1 := [.int .i64 p0.Seen_]) (rdB [1, 2] rfl rfl hw1 g3) rfl)) (fun v11 w1 w2 hw1 hR13 => ?_)
  obtain ⟨a14, n15, c16, F17, rfl, hS12⟩ := hR13
  obtain rfl := own_nS (i := 1) hS12 rfl
  refine ⟨St w M0 [_, _, _, _, _], hw1.comp [1, 2] rfl rfl hS12, fun _ _ => trivial, ?_⟩
  refine ow_nil ?_
  refine x_qs ?_
  refine c_seq ?_
  refine CW.weak (C' := St w M0 [_, _, _]) ?_ (fun _ h => St.sel [0, 3, 4] rfl rfl h)
  refine c_reg ?_
  refine ow_batch [.p] rfl ?_
  obtain ⟨y18, h19, H⟩ := of_bind H
  refine ow_callS rfl fn49 rfl rfl rfl rfl (fun w1 hw1 => impl_writer_done_ok w1  h19 (hw1.carve [1, 2] rfl rfl)) (fun v20 w1 w2 hw1 hR22 => ?_)
  obtain ⟨a23, n24, c25, F26, rfl, hS21⟩ := hR22
  obtain rfl := own_nS (i := 0) hS21 rfl
  refine ⟨St w M0 [_, _, _, _], hw1.comp [1, 2] rfl rfl hS21, fun _ _ => trivial, ?_⟩
  refine ow_batch [.p] rfl ?_
  refine ow_nil ?_
  refine x_qs ?_
  refine c_ret ?_
  exact x_retR (rs := [.tmp 2]) (vs := [.slice a23 y18.length c25]) rfl ⟨rfl, trivial⟩ (fun w' hw' => by
      obtain rfl := of_some H
      exact ⟨_, rfl, a23, y18.length, c25, F26, rfl, hw'.sel [3] rfl rfl⟩)

set_option maxHeartbeats 4000000 in
set_option maxRecDepth 100000 in
theorem laws_FnExactPutTree_ok (w : World) {p0 : Tlaws_Tree} {cs0 : List Value} {r : Bool} (H : laws_FnExactPutTree p0 = some r)  (g0 : (eTlaws_Tree).rd w [] p0 cs0) :
    Calls Try.prog 7 #[.agg cs0.toArray] w (fun en w' => en = .returned (.bool r) ∧ Ext [] w w') := by
  obtain ⟨c1, c2, rfl, g3, g4⟩ := rdo_Tlaws_Tree g0
  obtain ⟨a5, c6, rfl⟩ := rd_sl1 g3
  obtain rfl : c2 = [.int .i64 p0.Seen_] := g4
  unfold laws_FnExactPutTree at H
  refine f_enter (vs := [.agg #[.slice a5 p0.Nodes_.length c6, .int .i64 p0.Seen_]]) Try.func7 rfl Try.ntmps7 rfl (St.init w []) ?_
  refine c_seq ?_
  refine c_reg ?_
  refine ow_box (cs := [.slice a5 p0.Nodes_.length c6, .int .i64 p0.Seen_]) rfl rfl rfl rfl rfl rfl (fun _ => kp) (fun b7 => ?_)
  refine ow_batch [.p] rfl ?_
  refine ow_nil ?_
  refine x_qs ?_
  refine c_seq ?_
  refine c_reg ?_
  refine ow_batch [.p] rfl ?_
  refine ow_nil ?_
  refine x_qs ?_
  refine c_seq ?_
  refine c_reg ?_
  refine ow_r rfl (dstOk_lt rfl) (ry_box (off := 0) (ds := [.slice a5 p0.Nodes_.length c6, .int .i64 p0.Seen_]) rfl rfl ty49 (boxIn (i := 0) rfl) rfl rfl) ?_
  refine ow_batch [.p] rfl ?_
  obtain ⟨y8, h9, H⟩ := of_bind H
  refine ow_q rfl rfl (dstOk_lt rfl) (qy_call rfl fn31 rfl (fun w1 hw1 => laws_szTree_ok w1 (cs0 := [.slice a5 p0.Nodes_.length c6, .int .i64 p0.Seen_]) h9 (rdm_Tlaws_Tree (x := p0) (c0 := [.slice a5 p0.Nodes_.length c6]) (c1 := [.int .i64 p0.Seen_]) (rds_bor g3 w1 hw1) rfl))) (fun _ _ => trivial) ?_
  refine ow_batch [.p] rfl ?_
  refine ow_nil ?_
  refine x_qs ?_
  refine c_seq ?_
  refine c_seq ?_
  refine c_reg ?_
  refine ow_batch [.p, .p] rfl ?_
  refine ow_nil ?_
  refine x_qs ?_
  refine c_if rfl (fun hb => ?_) (fun hb => ?_)
  · have H := of_if_t hb H
    refine c_seq ?_
    refine c_reg ?_
    refine ow_batch [.p] rfl ?_
    refine ow_nil ?_
    refine x_qs ?_
    refine c_ret ?_
    refine x_qs_ret ?_
    exact x_retR (rs := [.tmp 2]) (vs := [.bool true]) rfl ⟨rfl, trivial⟩ (fun w' hw' => by
        obtain rfl := of_some H
        exact ⟨rfl, hw'.ext⟩)
  · have H := of_if_f hb H
    refine c_skip ?_
    refine x_qs ?_
    refine c_seq ?_
    refine c_reg ?_
    refine ow_r rfl (dstOk_lt rfl) (ry_box (off := 0) (ds := [.slice a5 p0.Nodes_.length c6, .int .i64 p0.Seen_]) rfl rfl ty49 (boxIn (i := 0) rfl) rfl rfl) ?_
    obtain ⟨y10, h11, H⟩ := of_bind H
    refine ow_callS rfl fn33 rfl rfl rfl rfl (fun w1 hw1 => laws_toTree_ok w1 (cs0 := [.slice a5 p0.Nodes_.length c6, .int .i64 p0.Seen_]) h11 (hw1.carve [] rfl rfl) (rdm_Tlaws_Tree (x := p0) (c0 := [.slice a5 p0.Nodes_.length c6]) (c1 := [.int .i64 p0.Seen_]) (rds_bor g3 w1 hw1) rfl)) (fun v12 w1 w2 hw1 hR14 => ?_)
    obtain ⟨a15, n16, c17, F18, rfl, hS13⟩ := hR14
    obtain rfl := own_nS (i := 0) hS13 rfl
    refine ⟨St w [] [_, _], hw1.comp [] rfl rfl hS13, fun _ _ => trivial, ?_⟩
    obtain ⟨y19, h20, H⟩ := of_bind H
    refine ow_callS rfl fn32 rfl rfl rfl rfl (fun w1 hw1 => spec_PutTree_ok w1 (cs0 := [.slice a15 y10.Nodes_.length c17, .int .i64 y10.Seen_]) h20 (hw1.carve [] rfl rfl) (rdm_Timpl_Tree (x := y10) (c0 := [.slice a15 y10.Nodes_.length c17]) (c1 := [.int .i64 y10.Seen_]) (rds_own (r := 1) rfl w1 hw1) rfl)) (fun v21 w1 w2 hw1 hR23 => ?_)
    obtain ⟨a24, n25, c26, F27, rfl, hS22⟩ := hR23
    obtain rfl := own_nS (i := 0) hS22 rfl
    refine ⟨St w [] [_, _, _], hw1.comp [] rfl rfl hS22, fun _ _ => trivial, ?_⟩
    refine ow_batch [.p] rfl ?_
    refine ow_nil ?_
    refine x_qs ?_
    refine c_seq ?_
    refine c_reg ?_
    refine ow_r rfl (dstOk_lt rfl) (ry_box (off := 0) (ds := [.slice a5 p0.Nodes_.length c6, .int .i64 p0.Seen_]) rfl rfl ty49 (boxIn (i := 0) rfl) rfl rfl) ?_
    obtain ⟨y28, h29, H⟩ := of_bind H
    refine ow_callS rfl fn33 rfl rfl rfl rfl (fun w1 hw1 => laws_toTree_ok w1 (cs0 := [.slice a5 p0.Nodes_.length c6, .int .i64 p0.Seen_]) h29 (hw1.carve [] rfl rfl) (rdm_Tlaws_Tree (x := p0) (c0 := [.slice a5 p0.Nodes_.length c6]) (c1 := [.int .i64 p0.Seen_]) (rds_bor g3 w1 hw1) rfl)) (fun v30 w1 w2 hw1 hR32 => ?_)
    obtain ⟨a33, n34, c35, F36, rfl, hS31⟩ := hR32
    obtain rfl := own_nS (i := 0) hS31 rfl
    refine ⟨St w [] [_, _, _, _], hw1.comp [] rfl rfl hS31, fun _ _ => trivial, ?_⟩
    refine ow_alloc rfl rfl rfl rfl ty54 (fun _ => kp) (fun b37 => ?_)
    refine ow_storeC (off := 0) [.slice a33 y28.Nodes_.length c35, .int .i64 y28.Seen_] [_, _] (i := 4) rfl rfl rfl rfl rfl rfl ty54 rfl rfl (by intro u hu; simp only [List.mem_cons, List.not_mem_nil, or_false] at hu; rcases hu with rfl | rfl <;> rfl) rfl rfl rfl kp ?_
    refine ow_nil ?_
    refine x_qs ?_
    refine c_seq ?_
    refine c_reg ?_
    refine ow_r rfl (dstOk_lt rfl) (ry_box (off := 0) (ds := [.slice a33 y28.Nodes_.length c35, .int .i64 y28.Seen_]) rfl rfl ty54 (boxIn (i := 4) rfl) rfl rfl) ?_
    obtain ⟨y38, h39, H⟩ := of_bind H
    refine ow_callS rfl fn34 rfl rfl rfl rfl (fun w1 hw1 => impl_PutTree_ok w1 (cs0 := [.slice a33 y28.Nodes_.length c35, .int .i64 y28.Seen_]) h39 (hw1.carve [] rfl rfl) (rdm_Timpl_Tree (x := y28) (c0 := [.slice a33 y28.Nodes_.length c35]) (c1 := [.int .i64 y28.Seen_]) (rds_own (r := 3) rfl w1 hw1) rfl)) (fun v40 w1 w2 hw1 hR42 => ?_)
    obtain ⟨a43, n44, c45, F46, rfl, hS41⟩ := hR42
    obtain rfl := own_nS (i := 0) hS41 rfl
    refine ⟨St w [] [_, _, _, _, _, _], hw1.comp [] rfl rfl hS41, fun _ _ => trivial, ?_⟩
    refine ow_batch [.p] rfl ?_
    refine ow_nil ?_
    refine x_qs ?_
    refine c_seq ?_
    refine c_seq ?_
    refine c_reg ?_
    refine ow_batch [.p, .p] rfl ?_
    obtain ⟨y47, h48, H⟩ := of_bind H
    refine ow_q rfl rfl (dstOk_lt rfl) (qy_call rfl fn13 rfl (fun w1 hw1 => laws_eqByteS_ok w1  h48 (rds_own (r := 5) rfl w1 hw1) (rds_own (r := 2) rfl w1 hw1))) (fun _ _ => trivial) ?_
    refine ow_batch [.p] rfl ?_
    refine ow_nil ?_
    refine x_qs ?_
    refine c_if rfl (fun hb => ?_) (fun hb => ?_)
    · have H := of_if_t hb H
      refine c_seq ?_
      refine c_reg ?_
      refine ow_batch [.p] rfl ?_
      refine ow_nil ?_
      refine x_qs ?_
      refine c_ret ?_
      refine x_qs_ret ?_
      exact x_retR (rs := [.tmp 2]) (vs := [.bool false]) rfl ⟨rfl, trivial⟩ (fun w' hw' => by
          obtain rfl := of_some H
          exact ⟨rfl, hw'.ext⟩)
    · have H := of_if_f hb H
      refine c_skip ?_
      refine x_qs ?_
      refine c_seq ?_
      refine c_seq ?_
      refine c_regHT 3 [(0, true), (1, true), (2, false)] (St w [] [Res.box b7 49 [.slice a5 p0.Nodes_.length c6, .int .i64 p0.Seen_], Res.own (eList (eTimpl_Node) 91) F18 y10.Nodes_ [.slice a15 y10.Nodes_.length c17], Res.own (eList (eVal (Value.int .u8) (fun _ => rfl)) 5) F27 y19 [.slice a24 y19.length c26], Res.own (eList (eTimpl_Node) 91) F36 y28.Nodes_ [.slice a33 y28.Nodes_.length c35], Res.box b37 54 [.slice a33 y28.Nodes_.length c35, .int .i64 y28.Seen_], Res.own (eList (eVal (Value.int .u8) (fun _ => rfl)) 5) F46 y38 [.slice a43 y38.length c45]]) mixed (by kernel_rfl) (panicOk_qs (panicOk_qs panicOk_body)) (fun _ h => St.mask [true, true, true, true, true, true] rfl h) ?_
      refine ow_rH rfl (dstOk_lt rfl) (ry_box (off := 0) (ds := [.slice a33 y28.Nodes_.length c35, .int .i64 y28.Seen_]) rfl rfl ty54 (boxIn (i := 4) rfl) rfl rfl) ?_
      refine ow_rH rfl (dstOk_lt rfl) (ry_box (off := 0) (ds := [.slice a5 p0.Nodes_.length c6, .int .i64 p0.Seen_]) rfl rfl ty49 (boxIn (i := 0) rfl) rfl rfl) ?_
      obtain ⟨y58, h59, H⟩ := of_bind H
      refine ow_callS rfl fn33 rfl rfl rfl rfl (fun w1 hw1 => laws_toTree_ok w1 (cs0 := [.slice a5 p0.Nodes_.length c6, .int .i64 p0.Seen_]) h59 (hw1.carve [] rfl rfl) (rdm_Tlaws_Tree (x := p0) (c0 := [.slice a5 p0.Nodes_.length c6]) (c1 := [.int .i64 p0.Seen_]) (rds_bor g3 w1 hw1) rfl)) (fun v60 w1 w2 hw1 hR62 => ?_)
      obtain ⟨a63, n64, c65, F66, rfl, hS61⟩ := hR62
      obtain rfl := own_nS (i := 0) hS61 rfl
      refine ⟨St w [] [_, _, _, _, _, _, _], hw1.comp [] rfl rfl hS61, (fun _ h => St.mask [true, true, true, true, true, true] rfl h), ?_⟩
      refine ow_nilH ?_
      refine x_qt ?_
      obtain ⟨y67, h68, H⟩ := of_bind H
      refine ow_q rfl rfl (dstOk_lt rfl) (qy_call rfl fn35 rfl (fun w1 hw1 => laws_eqTree_ok w1 (cs0 := [.slice a33 y28.Nodes_.length c35, .int .i64 y28.Seen_]) (cs1 := [.slice a63 y58.Nodes_.length c65, .int .i64 y58.Seen_]) h68 (rdm_Timpl_Tree (x := y28) (c0 := [.slice a33 y28.Nodes_.length c35]) (c1 := [.int .i64 y28.Seen_]) (rds_own (r := 3) rfl w1 hw1) rfl) (rdm_Timpl_Tree (x := y58) (c0 := [.slice a63 y58.Nodes_.length c65]) (c1 := [.int .i64 y58.Seen_]) (rds_own (r := 6) rfl w1 hw1) rfl))) (fun _ _ => trivial) ?_
      refine ow_batch [.p] rfl ?_
      refine ow_nil ?_
      refine x_qs ?_
      refine c_if rfl (fun hb => ?_) (fun hb => ?_)
      · have H := of_if_t hb H
        refine c_seq ?_
        refine c_reg ?_
        refine ow_batch [.p] rfl ?_
        refine ow_nil ?_
        refine x_qs ?_
        refine c_ret ?_
        refine x_qs_ret ?_
        exact x_retR (rs := [.tmp 2]) (vs := [.bool false]) rfl ⟨rfl, trivial⟩ (fun w' hw' => by
            obtain rfl := of_some H
            exact ⟨rfl, hw'.ext⟩)
      · have H := of_if_f hb H
        refine c_skip ?_
        refine x_qs ?_
        refine c_seq ?_
        refine c_reg ?_
        refine ow_batch [.p] rfl ?_
        refine ow_nil ?_
        refine x_qs ?_
        refine c_seq ?_
        refine c_reg ?_
        refine ow_r rfl (dstOk_lt rfl) (ry_box (off := 0) (ds := [.slice a33 y28.Nodes_.length c35, .int .i64 y28.Seen_]) rfl rfl ty54 (boxIn (i := 4) rfl) rfl rfl) ?_
        refine ow_batch [.p] rfl ?_
        obtain ⟨y69, h70, H⟩ := of_bind H
        refine ow_callS rfl fn36 rfl rfl rfl rfl (fun w1 hw1 => laws_markTree_ok w1  h70 (hw1.carve [3] rfl rfl)) (fun v71 w1 w2 hw1 hR73 => ?_)
        obtain ⟨F74, rfl, hS72⟩ := hR73
        refine ⟨St w [] [_, _, _, _, _, _, _, _], hw1.comp [3] rfl rfl hS72, fun _ _ => trivial, ?_⟩
        refine ow_batch [.p] rfl ?_
        refine ow_nil ?_
        refine x_qs ?_
        refine c_seq ?_
        refine c_seq ?_
        refine c_reg ?_
        refine ow_batch [.p, .p, .p] rfl ?_
        obtain ⟨u75, hu79, H⟩ := of_bind H
        refine ow_cut [(42, .bool u75), (1, .pointer (some ⟨b7, 0, none⟩)), (4, .slice a24 y19.length c26), (6, .slice a43 y38.length c45)] 5 ?_ (fun key => OW.sub (R := [(1, .pointer (some ⟨b7, 0, none⟩)), (4, .slice a24 y19.length c26), (6, .slice a43 y38.length c45), (37, .bool (decide (y69.1 < 0)))]) ?_ ⟨rfl, rfl, rfl, rfl, trivial⟩)
        · refine ow_nil ?_
          refine x_qs ?_
          refine c_if rfl (fun hb => ?_) (fun hb => ?_)
          · have H := of_if_t hb H
            refine c_seq ?_
            refine c_reg ?_
            refine ow_batch [.p] rfl ?_
            refine ow_nil ?_
            refine x_qs ?_
            refine c_ret ?_
            refine x_qs_ret ?_
            exact x_retR (rs := [.tmp 2]) (vs := [.bool false]) rfl ⟨rfl, trivial⟩ (fun w' hw' => by
                obtain rfl := of_some H
                exact ⟨rfl, hw'.ext⟩)
          · have H := of_if_f hb H
            refine c_skip ?_
            refine x_qs ?_
            refine c_seq ?_
            refine c_reg ?_
            refine ow_batch [.p] rfl ?_
            refine ow_nil ?_
            refine x_qs ?_
            refine c_seq ?_
            refine c_reg ?_
            refine ow_batch [.p, .p] rfl ?_
            obtain ⟨y80, h81, H⟩ := of_bind H
            refine ow_callS rfl fn16 rfl rfl rfl rfl (fun w1 hw1 => laws_markByteS_ok w1  h81 (hw1.carve [5] rfl rfl)) (fun v82 w1 w2 hw1 hR84 => ?_)
            obtain ⟨F85, rfl, hS83⟩ := hR84
            refine ⟨St w [] [_, _, _, _, _, _, _, _, _], hw1.comp [5] rfl rfl hS83, fun _ _ => trivial, ?_⟩
            refine ow_batch [.p] rfl ?_
            refine ow_nil ?_
            refine x_qs ?_
            refine c_seq ?_
            refine CW.weak (C' := St w [] [_, _, _, _, _, _, _]) ?_ (fun _ h => St.sel [0, 1, 2, 4, 6, 7, 8] rfl rfl h)
            refine c_reg ?_
            refine ow_batch [.p] rfl ?_
            refine ow_nil ?_
            refine x_qs ?_
            refine c_seq ?_
            refine c_reg ?_
            refine ow_batch [.p, .p] rfl ?_
            obtain ⟨y86, h87, H⟩ := of_bind H
            refine ow_q rfl rfl (dstOk_lt rfl) (qy_call rfl fn17 rfl (fun w1 hw1 => laws_heldByteS_ok w1  h87 (rds_own (r := 6) rfl w1 hw1))) (fun _ _ => trivial) ?_
            refine ow_batch [.p] rfl ?_
            refine ow_nil ?_
            refine x_qs ?_
            refine c_seq ?_
            refine c_seq ?_
            refine c_reg ?_
            refine ow_batch [.p, .p] rfl ?_
            refine ow_nil ?_
            refine x_qs ?_
            refine c_if rfl (fun hb => ?_) (fun hb => ?_)
            · have H := of_if_t hb H
              refine c_seq ?_
              refine c_reg ?_
              refine ow_batch [.p] rfl ?_
              refine ow_nil ?_
              refine x_qs ?_
              refine c_ret ?_
              refine x_qs_ret ?_
              exact x_retR (rs := [.tmp 2]) (vs := [.bool false]) rfl ⟨rfl, trivial⟩ (fun w' hw' => by
                  obtain rfl := of_some H
                  exact ⟨rfl, hw'.ext⟩)
            · have H := of_if_f hb H
              refine c_skip ?_
              refine x_qs ?_
              refine c_seq ?_
              refine c_seq ?_
              refine c_reg ?_
              refine ow_batch [.p, .p, .p] rfl ?_
              refine ow_nil ?_
              refine x_qs ?_
              refine c_if rfl (fun hb => ?_) (fun hb => ?_)
              · have H := of_if_t hb H
                refine c_seq ?_
                refine c_reg ?_
                refine ow_batch [.p] rfl ?_
                refine ow_nil ?_
                refine x_qs ?_
                refine c_ret ?_
                refine x_qs_ret ?_
                exact x_retR (rs := [.tmp 2]) (vs := [.bool false]) rfl ⟨rfl, trivial⟩ (fun w' hw' => by
                    obtain rfl := of_some H
                    exact ⟨rfl, hw'.ext⟩)
              · have H := of_if_f hb H
                refine c_skip ?_
                refine x_qs ?_
                refine c_seq ?_
                refine c_reg ?_
                refine ow_r rfl (dstOk_lt rfl) (ry_box (off := 0) (ds := [.slice a5 p0.Nodes_.length c6, .int .i64 p0.Seen_]) rfl rfl ty49 (boxIn (i := 0) rfl) rfl rfl) ?_
                obtain ⟨y88, h89, H⟩ := of_bind H
                refine ow_callS rfl fn33 rfl rfl rfl rfl (fun w1 hw1 => laws_toTree_ok w1 (cs0 := [.slice a5 p0.Nodes_.length c6, .int .i64 p0.Seen_]) h89 (hw1.carve [] rfl rfl) (rdm_Tlaws_Tree (x := p0) (c0 := [.slice a5 p0.Nodes_.length c6]) (c1 := [.int .i64 p0.Seen_]) (rds_bor g3 w1 hw1) rfl)) (fun v90 w1 w2 hw1 hR92 => ?_)
                obtain ⟨a93, n94, c95, F96, rfl, hS91⟩ := hR92
                obtain rfl := own_nS (i := 0) hS91 rfl
                refine ⟨St w [] [_, _, _, _, _, _, _, _], hw1.comp [] rfl rfl hS91, fun _ _ => trivial, ?_⟩
                obtain ⟨y97, h98, H⟩ := of_bind H
                refine ow_callS rfl fn34 rfl rfl rfl rfl (fun w1 hw1 => impl_PutTree_ok w1 (cs0 := [.slice a93 y88.Nodes_.length c95, .int .i64 y88.Seen_]) h98 (hw1.carve [] rfl rfl) (rdm_Timpl_Tree (x := y88) (c0 := [.slice a93 y88.Nodes_.length c95]) (c1 := [.int .i64 y88.Seen_]) (rds_own (r := 7) rfl w1 hw1) rfl)) (fun v99 w1 w2 hw1 hR101 => ?_)
                obtain ⟨a102, n103, c104, F105, rfl, hS100⟩ := hR101
                obtain rfl := own_nS (i := 0) hS100 rfl
                refine ⟨St w [] [_, _, _, _, _, _, _, _, _], hw1.comp [] rfl rfl hS100, fun _ _ => trivial, ?_⟩
                refine ow_batch [.p] rfl ?_
                refine ow_nil ?_
                refine x_qs ?_
                refine c_seq ?_
                refine c_seq ?_
                refine c_reg ?_
                refine ow_batch [.p, .p] rfl ?_
                obtain ⟨y106, h107, H⟩ := of_bind H
                refine ow_q rfl rfl (dstOk_lt rfl) (qy_call rfl fn13 rfl (fun w1 hw1 => laws_eqByteS_ok w1  h107 (rds_own (r := 8) rfl w1 hw1) (rds_own (r := 2) rfl w1 hw1))) (fun _ _ => trivial) ?_
                refine ow_batch [.p] rfl ?_
                refine ow_nil ?_
                refine x_qs ?_
                refine c_if rfl (fun hb => ?_) (fun hb => ?_)
                · have H := of_if_t hb H
                  refine c_seq ?_
                  refine c_reg ?_
                  refine ow_batch [.p] rfl ?_
                  refine ow_nil ?_
                  refine x_qs ?_
                  refine c_ret ?_
                  refine x_qs_ret ?_
                  exact x_retR (rs := [.tmp 2]) (vs := [.bool false]) rfl ⟨rfl, trivial⟩ (fun w' hw' => by
                      obtain rfl := of_some H
                      exact ⟨rfl, hw'.ext⟩)
                · have H := of_if_f hb H
                  refine c_skip ?_
                  refine x_qs ?_
                  refine c_seq ?_
                  refine c_reg ?_
                  refine ow_batch [.p] rfl ?_
                  refine ow_nil ?_
                  refine x_qs ?_
                  refine c_seq ?_
                  refine c_reg ?_
                  refine ow_batch [.p, .p] rfl ?_
                  obtain ⟨y108, h109, H⟩ := of_bind H
                  refine ow_q rfl rfl (dstOk_lt rfl) (qy_call rfl fn17 rfl (fun w1 hw1 => laws_heldByteS_ok w1  h109 (rds_own (r := 6) rfl w1 hw1))) (fun _ _ => trivial) ?_
                  refine ow_batch [.p] rfl ?_
                  refine ow_nil ?_
                  refine x_qs ?_
                  refine c_seq ?_
                  refine c_seq ?_
                  refine c_reg ?_
                  refine ow_batch [.p, .p] rfl ?_
                  refine ow_nil ?_
                  refine x_qs ?_
                  refine c_if rfl (fun hb => ?_) (fun hb => ?_)
                  · have H := of_if_t hb H
                    refine c_seq ?_
                    refine c_reg ?_
                    refine ow_batch [.p] rfl ?_
                    refine ow_nil ?_
                    refine x_qs ?_
                    refine c_ret ?_
                    refine x_qs_ret ?_
                    exact x_retR (rs := [.tmp 2]) (vs := [.bool false]) rfl ⟨rfl, trivial⟩ (fun w' hw' => by
                        obtain rfl := of_some H
                        exact ⟨rfl, hw'.ext⟩)
                  · have H := of_if_f hb H
                    refine c_skip ?_
                    refine x_qs ?_
                    refine c_seq ?_
                    refine c_seq ?_
                    refine c_reg ?_
                    refine ow_batch [.p, .p, .p] rfl ?_
                    refine ow_nil ?_
                    refine x_qs ?_
                    refine c_if rfl (fun hb => ?_) (fun hb => ?_)
                    · have H := of_if_t hb H
                      refine c_seq ?_
                      refine c_reg ?_
                      refine ow_batch [.p] rfl ?_
                      refine ow_nil ?_
                      refine x_qs ?_
                      refine c_ret ?_
                      refine x_qs_ret ?_
                      exact x_retR (rs := [.tmp 2]) (vs := [.bool false]) rfl ⟨rfl, trivial⟩ (fun w' hw' => by
                          obtain rfl := of_some H
                          exact ⟨rfl, hw'.ext⟩)
                    · have H := of_if_f hb H
                      refine c_skip ?_
                      refine x_qs ?_
                      refine c_seq ?_
                      refine c_reg ?_
                      refine ow_batch [.p] rfl ?_
                      refine ow_nil ?_
                      refine x_qs ?_
                      refine c_ret ?_
                      exact x_retR (rs := [.tmp 2]) (vs := [.bool true]) rfl ⟨rfl, trivial⟩ (fun w' hw' => by
                          obtain rfl := of_some H
                          exact ⟨rfl, hw'.ext⟩)
        · clear H
          have H := hu79
          clear hu79
          generalize (decide (y69.1 < 0)) = t78 at H ⊢
          cases t78
          · have H := of_if_f rfl H
            refine ow_batch [.p, .p] rfl ?_
            obtain ⟨y76, h77, H⟩ := of_bind H
            refine ow_q rfl rfl (dstOk_lt rfl) (qy_call rfl fn13 rfl (fun w1 hw1 => laws_eqByteS_ok w1  h77 (rds_own (r := 5) rfl w1 hw1) (rds_own (r := 2) rfl w1 hw1))) (fun _ _ => trivial) ?_
            refine ow_batch [.p] rfl ?_
            refine ow_batch [.p] rfl ?_
            obtain rfl := of_some H
            exact OW.sub key ⟨rfl, rfl, rfl, rfl, trivial⟩
          · have H := of_if_t rfl H
            refine ow_batch [.p, .p, .p, .p, .p] rfl ?_
            obtain rfl := of_some H
            exact OW.sub key ⟨rfl, rfl, rfl, rfl, trivial⟩

set_option maxHeartbeats 4000000 in
set_option maxRecDepth 100000 in
theorem laws_FnExactPutInts_ok (w : World) {p0 : List Int} {a_0 : Option Addr} {n_0 c_0 : Nat} {r : Bool} (H : laws_FnExactPutInts p0 = some r)  (g0 : (eList (eVal (Value.int .i64) (fun _ => rfl)) 3).rd w [] p0 [.slice a_0 n_0 c_0]) :
    Calls Try.prog 3 #[.slice a_0 n_0 c_0] w (fun en w' => en = .returned (.bool r) ∧ Ext [] w w') := by
  obtain rfl := rd_n g0
  unfold laws_FnExactPutInts at H
  refine f_enter (vs := [.slice a_0 p0.length c_0]) Try.func3 rfl Try.ntmps3 rfl (St.init w []) ?_
  refine c_seq ?_
  refine c_reg ?_
  refine ow_batch [.p] rfl ?_
  refine ow_nil ?_
  refine x_qs ?_
  refine c_seq ?_
  refine c_seq ?_
  refine c_reg ?_
  refine ow_batch [.p, .lenS 22 3 sl22, .p] rfl ?_
  refine ow_nil ?_
  refine x_qs ?_
  refine c_if rfl (fun hb => ?_) (fun hb => ?_)
  · have H := of_if_t hb H
    refine c_seq ?_
    refine c_reg ?_
    refine ow_batch [.p] rfl ?_
    refine ow_nil ?_
    refine x_qs ?_
    refine c_ret ?_
    refine x_qs_ret ?_
    exact x_retR (rs := [.tmp 2]) (vs := [.bool true]) rfl ⟨rfl, trivial⟩ (fun w' hw' => by
        obtain rfl := of_some H
        exact ⟨rfl, hw'.ext⟩)
  · have H := of_if_f hb H
    refine c_skip ?_
    refine x_qs ?_
    refine c_seq ?_
    refine c_reg ?_
    refine ow_batch [.p] rfl ?_
    obtain ⟨y1, h2, H⟩ := of_bind H
    refine ow_callS rfl fn11 rfl rfl rfl rfl (fun w1 hw1 => laws_toIntS_ok w1  h2 (hw1.carve [] rfl rfl) (rds_bor g0 w1 hw1)) (fun v3 w1 w2 hw1 hR5 => ?_)
    obtain ⟨a6, n7, c8, F9, rfl, hS4⟩ := hR5
    obtain rfl := own_nS (i := 0) hS4 rfl
    refine ⟨St w [] [_], hw1.comp [] rfl rfl hS4, fun _ _ => trivial, ?_⟩
    obtain ⟨y10, h11, H⟩ := of_bind H
    refine ow_callS rfl fn10 rfl rfl rfl rfl (fun w1 hw1 => spec_PutInts_ok w1  h11 (hw1.carve [] rfl rfl) (rds_own (r := 0) rfl w1 hw1)) (fun v12 w1 w2 hw1 hR14 => ?_)
    obtain ⟨a15, n16, c17, F18, rfl, hS13⟩ := hR14
    obtain rfl := own_nS (i := 0) hS13 rfl
    refine ⟨St w [] [_, _], hw1.comp [] rfl rfl hS13, fun _ _ => trivial, ?_⟩
    refine ow_batch [.p] rfl ?_
    refine ow_nil ?_
    refine x_qs ?_
    refine c_seq ?_
    refine c_reg ?_
    refine ow_batch [.p] rfl ?_
    obtain ⟨y19, h20, H⟩ := of_bind H
    refine ow_callS rfl fn11 rfl rfl rfl rfl (fun w1 hw1 => laws_toIntS_ok w1  h20 (hw1.carve [] rfl rfl) (rds_bor g0 w1 hw1)) (fun v21 w1 w2 hw1 hR23 => ?_)
    obtain ⟨a24, n25, c26, F27, rfl, hS22⟩ := hR23
    obtain rfl := own_nS (i := 0) hS22 rfl
    refine ⟨St w [] [_, _, _], hw1.comp [] rfl rfl hS22, fun _ _ => trivial, ?_⟩
    refine ow_batch [.p] rfl ?_
    refine ow_nil ?_
    refine x_qs ?_
    refine c_seq ?_
    refine c_reg ?_
    refine ow_batch [.p] rfl ?_
    obtain ⟨y28, h29, H⟩ := of_bind H
    refine ow_callS rfl fn12 rfl rfl rfl rfl (fun w1 hw1 => impl_PutInts_ok w1  h29 (hw1.carve [] rfl rfl) (rds_own (r := 2) rfl w1 hw1)) (fun v30 w1 w2 hw1 hR32 => ?_)
    obtain ⟨a33, n34, c35, F36, rfl, hS31⟩ := hR32
    obtain rfl := own_nS (i := 0) hS31 rfl
    refine ⟨St w [] [_, _, _, _], hw1.comp [] rfl rfl hS31, fun _ _ => trivial, ?_⟩
    refine ow_batch [.p] rfl ?_
    refine ow_nil ?_
    refine x_qs ?_
    refine c_seq ?_
    refine c_seq ?_
    refine c_reg ?_
    refine ow_batch [.p, .p] rfl ?_
    obtain ⟨y37, h38, H⟩ := of_bind H
    refine ow_q rfl rfl (dstOk_lt rfl) (qy_call rfl fn13 rfl (fun w1 hw1 => laws_eqByteS_ok w1  h38 (rds_own (r := 3) rfl w1 hw1) (rds_own (r := 1) rfl w1 hw1))) (fun _ _ => trivial) ?_
    refine ow_batch [.p] rfl ?_
    refine ow_nil ?_
    refine x_qs ?_
    refine c_if rfl (fun hb => ?_) (fun hb => ?_)
    · have H := of_if_t hb H
      refine c_seq ?_
      refine c_reg ?_
      refine ow_batch [.p] rfl ?_
      refine ow_nil ?_
      refine x_qs ?_
      refine c_ret ?_
      refine x_qs_ret ?_
      exact x_retR (rs := [.tmp 2]) (vs := [.bool false]) rfl ⟨rfl, trivial⟩ (fun w' hw' => by
          obtain rfl := of_some H
          exact ⟨rfl, hw'.ext⟩)
    · have H := of_if_f hb H
      refine c_skip ?_
      refine x_qs ?_
      refine c_seq ?_
      refine c_seq ?_
      refine c_reg ?_
      refine ow_batch [.p, .p] rfl ?_
      obtain ⟨y39, h40, H⟩ := of_bind H
      refine ow_callS rfl fn11 rfl rfl rfl rfl (fun w1 hw1 => laws_toIntS_ok w1  h40 (hw1.carve [] rfl rfl) (rds_bor g0 w1 hw1)) (fun v41 w1 w2 hw1 hR43 => ?_)
      obtain ⟨a44, n45, c46, F47, rfl, hS42⟩ := hR43
      obtain rfl := own_nS (i := 0) hS42 rfl
      refine ⟨St w [] [_, _, _, _, _], hw1.comp [] rfl rfl hS42, fun _ _ => trivial, ?_⟩
      obtain ⟨y48, h49, H⟩ := of_bind H
      refine ow_q rfl rfl (dstOk_lt rfl) (qy_call rfl fn14 rfl (fun w1 hw1 => laws_eqIntS_ok w1  h49 (rds_own (r := 2) rfl w1 hw1) (rds_own (r := 4) rfl w1 hw1))) (fun _ _ => trivial) ?_
      refine ow_batch [.p] rfl ?_
      refine ow_nil ?_
      refine x_qs ?_
      refine c_if rfl (fun hb => ?_) (fun hb => ?_)
      · have H := of_if_t hb H
        refine c_seq ?_
        refine c_reg ?_
        refine ow_batch [.p] rfl ?_
        refine ow_nil ?_
        refine x_qs ?_
        refine c_ret ?_
        refine x_qs_ret ?_
        exact x_retR (rs := [.tmp 2]) (vs := [.bool false]) rfl ⟨rfl, trivial⟩ (fun w' hw' => by
            obtain rfl := of_some H
            exact ⟨rfl, hw'.ext⟩)
      · have H := of_if_f hb H
        refine c_skip ?_
        refine x_qs ?_
        refine c_seq ?_
        refine c_reg ?_
        refine ow_batch [.p] rfl ?_
        refine ow_nil ?_
        refine x_qs ?_
        refine c_seq ?_
        refine c_reg ?_
        refine ow_batch [.p, .p] rfl ?_
        obtain ⟨y50, h51, H⟩ := of_bind H
        refine ow_callS rfl fn15 rfl rfl rfl rfl (fun w1 hw1 => laws_markIntS_ok w1  h51 (hw1.carve [2] rfl rfl)) (fun v52 w1 w2 hw1 hR54 => ?_)
        obtain ⟨F55, rfl, hS53⟩ := hR54
        refine ⟨St w [] [_, _, _, _, _, _], hw1.comp [2] rfl rfl hS53, fun _ _ => trivial, ?_⟩
        refine ow_batch [.p] rfl ?_
        refine ow_nil ?_
        refine x_qs ?_
        refine c_seq ?_
        refine c_seq ?_
        refine c_reg ?_
        refine ow_batch [.p, .p, .p] rfl ?_
        obtain ⟨u56, hu60, H⟩ := of_bind H
        refine ow_cut [(39, .bool u56), (0, .slice a_0 p0.length c_0), (3, .slice a15 y10.length c17), (5, .slice a33 y28.length c35)] 5 ?_ (fun key => OW.sub (R := [(0, .slice a_0 p0.length c_0), (3, .slice a15 y10.length c17), (5, .slice a33 y28.length c35), (34, .bool (decide (y50.1 < 0)))]) ?_ ⟨rfl, rfl, rfl, rfl, trivial⟩)
        · refine ow_nil ?_
          refine x_qs ?_
          refine c_if rfl (fun hb => ?_) (fun hb => ?_)
          · have H := of_if_t hb H
            refine c_seq ?_
            refine c_reg ?_
            refine ow_batch [.p] rfl ?_
            refine ow_nil ?_
            refine x_qs ?_
            refine c_ret ?_
            refine x_qs_ret ?_
            exact x_retR (rs := [.tmp 2]) (vs := [.bool false]) rfl ⟨rfl, trivial⟩ (fun w' hw' => by
                obtain rfl := of_some H
                exact ⟨rfl, hw'.ext⟩)
          · have H := of_if_f hb H
            refine c_skip ?_
            refine x_qs ?_
            refine c_seq ?_
            refine c_reg ?_
            refine ow_batch [.p] rfl ?_
            refine ow_nil ?_
            refine x_qs ?_
            refine c_seq ?_
            refine c_reg ?_
            refine ow_batch [.p, .p] rfl ?_
            obtain ⟨y61, h62, H⟩ := of_bind H
            refine ow_callS rfl fn16 rfl rfl rfl rfl (fun w1 hw1 => laws_markByteS_ok w1  h62 (hw1.carve [3] rfl rfl)) (fun v63 w1 w2 hw1 hR65 => ?_)
            obtain ⟨F66, rfl, hS64⟩ := hR65
            refine ⟨St w [] [_, _, _, _, _, _, _], hw1.comp [3] rfl rfl hS64, fun _ _ => trivial, ?_⟩
            refine ow_batch [.p] rfl ?_
            refine ow_nil ?_
            refine x_qs ?_
            refine c_seq ?_
            refine CW.weak (C' := St w [] [_, _, _, _, _]) ?_ (fun _ h => St.sel [0, 1, 4, 5, 6] rfl rfl h)
            refine c_reg ?_
            refine ow_batch [.p] rfl ?_
            refine ow_nil ?_
            refine x_qs ?_
            refine c_seq ?_
            refine c_reg ?_
            refine ow_batch [.p, .p] rfl ?_
            obtain ⟨y67, h68, H⟩ := of_bind H
            refine ow_q rfl rfl (dstOk_lt rfl) (qy_call rfl fn17 rfl (fun w1 hw1 => laws_heldByteS_ok w1  h68 (rds_own (r := 4) rfl w1 hw1))) (fun _ _ => trivial) ?_
            refine ow_batch [.p] rfl ?_
            refine ow_nil ?_
            refine x_qs ?_
            refine c_seq ?_
            refine c_seq ?_
            refine c_reg ?_
            refine ow_batch [.p, .p] rfl ?_
            refine ow_nil ?_
            refine x_qs ?_
            refine c_if rfl (fun hb => ?_) (fun hb => ?_)
            · have H := of_if_t hb H
              refine c_seq ?_
              refine c_reg ?_
              refine ow_batch [.p] rfl ?_
              refine ow_nil ?_
              refine x_qs ?_
              refine c_ret ?_
              refine x_qs_ret ?_
              exact x_retR (rs := [.tmp 2]) (vs := [.bool false]) rfl ⟨rfl, trivial⟩ (fun w' hw' => by
                  obtain rfl := of_some H
                  exact ⟨rfl, hw'.ext⟩)
            · have H := of_if_f hb H
              refine c_skip ?_
              refine x_qs ?_
              refine c_seq ?_
              refine c_seq ?_
              refine c_reg ?_
              refine ow_batch [.p, .p, .p] rfl ?_
              refine ow_nil ?_
              refine x_qs ?_
              refine c_if rfl (fun hb => ?_) (fun hb => ?_)
              · have H := of_if_t hb H
                refine c_seq ?_
                refine c_reg ?_
                refine ow_batch [.p] rfl ?_
                refine ow_nil ?_
                refine x_qs ?_
                refine c_ret ?_
                refine x_qs_ret ?_
                exact x_retR (rs := [.tmp 2]) (vs := [.bool false]) rfl ⟨rfl, trivial⟩ (fun w' hw' => by
                    obtain rfl := of_some H
                    exact ⟨rfl, hw'.ext⟩)
              · have H := of_if_f hb H
                refine c_skip ?_
                refine x_qs ?_
                refine c_seq ?_
                refine c_reg ?_
                refine ow_batch [.p] rfl ?_
                obtain ⟨y69, h70, H⟩ := of_bind H
                refine ow_callS rfl fn11 rfl rfl rfl rfl (fun w1 hw1 => laws_toIntS_ok w1  h70 (hw1.carve [] rfl rfl) (rds_bor g0 w1 hw1)) (fun v71 w1 w2 hw1 hR73 => ?_)
                obtain ⟨a74, n75, c76, F77, rfl, hS72⟩ := hR73
                obtain rfl := own_nS (i := 0) hS72 rfl
                refine ⟨St w [] [_, _, _, _, _, _], hw1.comp [] rfl rfl hS72, fun _ _ => trivial, ?_⟩
                obtain ⟨y78, h79, H⟩ := of_bind H
                refine ow_callS rfl fn12 rfl rfl rfl rfl (fun w1 hw1 => impl_PutInts_ok w1  h79 (hw1.carve [] rfl rfl) (rds_own (r := 5) rfl w1 hw1)) (fun v80 w1 w2 hw1 hR82 => ?_)
                obtain ⟨a83, n84, c85, F86, rfl, hS81⟩ := hR82
                obtain rfl := own_nS (i := 0) hS81 rfl
                refine ⟨St w [] [_, _, _, _, _, _, _], hw1.comp [] rfl rfl hS81, fun _ _ => trivial, ?_⟩
                refine ow_batch [.p] rfl ?_
                refine ow_nil ?_
                refine x_qs ?_
                refine c_seq ?_
                refine c_seq ?_
                refine c_reg ?_
                refine ow_batch [.p, .p] rfl ?_
                obtain ⟨y87, h88, H⟩ := of_bind H
                refine ow_q rfl rfl (dstOk_lt rfl) (qy_call rfl fn13 rfl (fun w1 hw1 => laws_eqByteS_ok w1  h88 (rds_own (r := 6) rfl w1 hw1) (rds_own (r := 1) rfl w1 hw1))) (fun _ _ => trivial) ?_
                refine ow_batch [.p] rfl ?_
                refine ow_nil ?_
                refine x_qs ?_
                refine c_if rfl (fun hb => ?_) (fun hb => ?_)
                · have H := of_if_t hb H
                  refine c_seq ?_
                  refine c_reg ?_
                  refine ow_batch [.p] rfl ?_
                  refine ow_nil ?_
                  refine x_qs ?_
                  refine c_ret ?_
                  refine x_qs_ret ?_
                  exact x_retR (rs := [.tmp 2]) (vs := [.bool false]) rfl ⟨rfl, trivial⟩ (fun w' hw' => by
                      obtain rfl := of_some H
                      exact ⟨rfl, hw'.ext⟩)
                · have H := of_if_f hb H
                  refine c_skip ?_
                  refine x_qs ?_
                  refine c_seq ?_
                  refine c_reg ?_
                  refine ow_batch [.p] rfl ?_
                  refine ow_nil ?_
                  refine x_qs ?_
                  refine c_seq ?_
                  refine c_reg ?_
                  refine ow_batch [.p, .p] rfl ?_
                  obtain ⟨y89, h90, H⟩ := of_bind H
                  refine ow_q rfl rfl (dstOk_lt rfl) (qy_call rfl fn17 rfl (fun w1 hw1 => laws_heldByteS_ok w1  h90 (rds_own (r := 4) rfl w1 hw1))) (fun _ _ => trivial) ?_
                  refine ow_batch [.p] rfl ?_
                  refine ow_nil ?_
                  refine x_qs ?_
                  refine c_seq ?_
                  refine c_seq ?_
                  refine c_reg ?_
                  refine ow_batch [.p, .p] rfl ?_
                  refine ow_nil ?_
                  refine x_qs ?_
                  refine c_if rfl (fun hb => ?_) (fun hb => ?_)
                  · have H := of_if_t hb H
                    refine c_seq ?_
                    refine c_reg ?_
                    refine ow_batch [.p] rfl ?_
                    refine ow_nil ?_
                    refine x_qs ?_
                    refine c_ret ?_
                    refine x_qs_ret ?_
                    exact x_retR (rs := [.tmp 2]) (vs := [.bool false]) rfl ⟨rfl, trivial⟩ (fun w' hw' => by
                        obtain rfl := of_some H
                        exact ⟨rfl, hw'.ext⟩)
                  · have H := of_if_f hb H
                    refine c_skip ?_
                    refine x_qs ?_
                    refine c_seq ?_
                    refine c_seq ?_
                    refine c_reg ?_
                    refine ow_batch [.p, .p, .p] rfl ?_
                    refine ow_nil ?_
                    refine x_qs ?_
                    refine c_if rfl (fun hb => ?_) (fun hb => ?_)
                    · have H := of_if_t hb H
                      refine c_seq ?_
                      refine c_reg ?_
                      refine ow_batch [.p] rfl ?_
                      refine ow_nil ?_
                      refine x_qs ?_
                      refine c_ret ?_
                      refine x_qs_ret ?_
                      exact x_retR (rs := [.tmp 2]) (vs := [.bool false]) rfl ⟨rfl, trivial⟩ (fun w' hw' => by
                          obtain rfl := of_some H
                          exact ⟨rfl, hw'.ext⟩)
                    · have H := of_if_f hb H
                      refine c_skip ?_
                      refine x_qs ?_
                      refine c_seq ?_
                      refine c_reg ?_
                      refine ow_batch [.p] rfl ?_
                      refine ow_nil ?_
                      refine x_qs ?_
                      refine c_ret ?_
                      exact x_retR (rs := [.tmp 2]) (vs := [.bool true]) rfl ⟨rfl, trivial⟩ (fun w' hw' => by
                          obtain rfl := of_some H
                          exact ⟨rfl, hw'.ext⟩)
        · clear H
          have H := hu60
          clear hu60
          generalize (decide (y50.1 < 0)) = t59 at H ⊢
          cases t59
          · have H := of_if_f rfl H
            refine ow_batch [.p, .p] rfl ?_
            obtain ⟨y57, h58, H⟩ := of_bind H
            refine ow_q rfl rfl (dstOk_lt rfl) (qy_call rfl fn13 rfl (fun w1 hw1 => laws_eqByteS_ok w1  h58 (rds_own (r := 3) rfl w1 hw1) (rds_own (r := 1) rfl w1 hw1))) (fun _ _ => trivial) ?_
            refine ow_batch [.p] rfl ?_
            refine ow_batch [.p] rfl ?_
            obtain rfl := of_some H
            exact OW.sub key ⟨rfl, rfl, rfl, rfl, trivial⟩
          · have H := of_if_t rfl H
            refine ow_batch [.p, .p, .p, .p, .p] rfl ?_
            obtain rfl := of_some H
            exact OW.sub key ⟨rfl, rfl, rfl, rfl, trivial⟩

end Go.Vk
