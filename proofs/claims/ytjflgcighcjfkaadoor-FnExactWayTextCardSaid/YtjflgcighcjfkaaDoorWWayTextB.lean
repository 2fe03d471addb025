/- The code does what the functions of data say. Printed by program. -/

import Derived.Test.YtjflgcighcjfkaaDoorWWayTextA

namespace Go.Vk

open Go.Proofs Go.RowKit



set_option maxHeartbeats 4000000 in
set_option maxRecDepth 100000 in
theorem spec_WayText_ok (w : World) {p0 : Timpl_Schema} {p1 : Timpl_Way} {cs0 : List Value} {cs1 : List Value} {r : List UInt8} (H : spec_WayText p0 p1 = some r)  (g0 : (eTimpl_Schema).rd w [] p0 cs0) (g1 : (eTimpl_Way).rd w [] p1 cs1) :
    Calls Tryd.prog 24 #[.agg cs0.toArray, .agg cs1.toArray] w (fun en w' => en = .returned (vS r) ∧ Ext [] w w') := by
  obtain ⟨c10, c11, rfl, g12, g13⟩ := rdo_Timpl_Schema g0
  obtain ⟨a14, c15, rfl⟩ := rd_sl1 g12
  obtain ⟨a16, c17, rfl⟩ := rd_sl1 g13
  obtain ⟨c18, c19, rfl, g20, g21⟩ := rdo_Timpl_Way g1
  obtain rfl : c18 = [.int .i64 p1.Leaf_] := g20
  obtain ⟨a22, c23, rfl⟩ := rd_sl1 g21
  unfold spec_WayText at H
  refine f_enter (vs := [.agg #[.slice a14 p0.Attrs_.length c15, .slice a16 p0.Classes_.length c17], .agg #[.int .i64 p1.Leaf_, .slice a22 p1.Masks_.length c23]]) Tryd.func24 rfl Tryd.ntmps24 rfl (St.init w []) ?_
  refine c_seq ?_
  refine c_reg ?_
  refine ow_box (cs := [.slice a14 p0.Attrs_.length c15, .slice a16 p0.Classes_.length c17]) rfl rfl rfl rfl rfl rfl (fun _ => kp) (fun b24 => ?_)
  refine ow_box (cs := [.int .i64 p1.Leaf_, .slice a22 p1.Masks_.length c23]) rfl rfl rfl rfl rfl rfl (fun _ => kp) (fun b25 => ?_)
  refine ow_batch [.p] rfl ?_
  refine ow_nil ?_
  refine x_qs ?_
  refine c_seq ?_
  refine c_seq ?_
  refine c_reg ?_
  refine ow_r rfl (dstOk_lt rfl) (ry_box (off := 0) (ds := [.slice a14 p0.Attrs_.length c15, .slice a16 p0.Classes_.length c17]) rfl rfl ty58 (boxIn (i := 0) rfl) rfl rfl) ?_
  refine ow_r rfl (dstOk_lt rfl) (ry_box (off := 0) (ds := [.int .i64 p1.Leaf_, .slice a22 p1.Masks_.length c23]) rfl rfl ty60 (boxIn (i := 1) rfl) rfl rfl) ?_
  obtain ⟨y26, h27, H⟩ := of_bind H
  refine ow_q rfl rfl (dstOk_lt rfl) (qy_call rfl fn67 rfl (fun w1 hw1 => spec_WayOk_ok w1 (cs0 := [.slice a14 p0.Attrs_.length c15, .slice a16 p0.Classes_.length c17]) (cs1 := [.int .i64 p1.Leaf_, .slice a22 p1.Masks_.length c23]) h27 (rdm_Timpl_Schema (x := p0) (c0 := [.slice a14 p0.Attrs_.length c15]) (c1 := [.slice a16 p0.Classes_.length c17]) (rds_bor g12 w1 hw1) (rds_bor g13 w1 hw1)) (rdm_Timpl_Way (x := p1) (c0 := [.int .i64 p1.Leaf_]) (c1 := [.slice a22 p1.Masks_.length c23]) rfl (rds_bor g21 w1 hw1)))) (fun _ _ => trivial) ?_
  refine ow_batch [.p] rfl ?_
  refine ow_nil ?_
  refine x_qs ?_
  refine c_if rfl (fun hb => ?_) (fun hb => ?_)
  · have H := of_if_t hb H
    refine c_seq ?_
    refine c_reg ?_
    refine ow_batch [.p] rfl ?_
    refine ow_nil ?_
    refine x_qs ?_
    refine c_ret ?_
    refine x_qs_ret ?_
    exact x_retR (rs := [.tmp 4]) (vs := [vS ([] : List UInt8)]) rfl ⟨rfl, trivial⟩ (fun w' hw' => by
        obtain rfl := of_some H
        exact ⟨rfl, hw'.ext⟩)
  · have H := of_if_f hb H
    refine c_skip ?_
    refine x_qs ?_
    refine c_seq ?_
    refine c_reg ?_
    refine ow_blit0 (e := eStr) rfl rfl rfl rfl sl48 ty9 (fun _ => kp) (fun b28 => ?_)
    refine ow_batch [.p] rfl ?_
    refine ow_nil ?_
    refine x_qs ?_
    refine c_seq ?_
    refine c_seq ?_
    refine c_reg ?_
    refine ow_batch [.p] rfl ?_
    refine ow_nil ?_
    refine x_qs ?_
    refine c_block ?_
    refine CW.at (loopI5 (fun (l294 : List (List UInt8)) (a295 : Option Addr) (c296 : Nat) (F297 : List Nat) (i299 : Int) => St w [] [Res.box b24 58 [.slice a14 p0.Attrs_.length c15, .slice a16 p0.Classes_.length c17], Res.box b25 60 [.int .i64 p1.Leaf_, .slice a22 p1.Masks_.length c23], Res.own (eList (eStr) 9) F297 l294 [.slice a295 l294.length c296]]) (fun (l294 : List (List UInt8)) (a295 : Option Addr) (c296 : Nat) (F297 : List Nat) (i299 : Int) => [(2, .pointer (some ⟨b24, 0, none⟩)), (3, .pointer (some ⟨b25, 0, none⟩)), (5, .slice a295 l294.length c296), (6, .int .i64 i299)]) (fun kk => fun (l294 : List (List UInt8)) (a295 : Option Addr) (c296 : Nat) (F297 : List Nat) (i299 : Int) => a295.isNone = false ∧ spec_WayText_L1 p1 p0 kk l294 i299 = some r) (fun _ _ _ _ _ H => ?_) (fun k1 ihk1 l294 a295 c296 F297 i299 ⟨hz298, H⟩ => ?_) Fuel (([] : List (List UInt8))) ((some ⟨b28, 0, none⟩)) (0) ([b28]) (0) (⟨rfl, H⟩)) (fun _ h => St.sel [0, 1, 2] rfl rfl h) ⟨rfl, rfl, rfl, rfl,  trivial⟩
    · unfold spec_WayText_L1 at H
      exact absurd H (by simp)
    · unfold spec_WayText_L1 at H
      refine c_seq ?_
      refine c_seq ?_
      refine c_reg ?_
      refine ow_batch [.p, .fa 60 1 1 fa60_1] rfl ?_
      refine ow_r rfl (dstOk_lt rfl) (ry_box1 (off := 1) rfl rfl ty22 (boxIn (i := 1) rfl) rfl) ?_
      refine ow_batch [.lenS 22 3 sl22, .p] rfl ?_
      refine ow_nil ?_
      refine x_qs ?_
      refine c_if rfl (fun hb => ?_) (fun hb => ?_)
      · have H := of_if_t hb H
        refine c_skip ?_
        refine x_qs ?_
        refine c_seq ?_
        refine c_block ?_
        refine c_seq ?_
        refine c_seq ?_
        refine c_regQ mixed (by kernel_rfl) ?_
        refine ow_batch [.fa 60 1 1 fa60_1] rfl ?_
        refine ow_r rfl (dstOk_lt rfl) (ry_box1 (off := 1) rfl rfl ty22 (boxIn (i := 1) rfl) rfl) ?_
        refine ow_batch [.p] rfl ?_
        obtain ⟨e565, h566, H⟩ := of_bind H
        refine ow_ixE (e := eVal (Value.int .i64) (fun _ => rfl)) (xs := p1.Masks_) (j := i299) rfl rfl rfl rfl rfl sl22 ty3 rfl (fun w1 hw1 => rds_bor g21 w1 hw1) h566 (by rw [Nat.mul_one]) ?_
        refine ow_r rfl (dstOk_lt rfl) (ry_load1 rfl rfl ty3 (at_elV (fun w1 hw1 => rds_bor g21 w1 hw1) h566)) ?_
        refine ow_batch [.fa 58 0 0 fa58_0] rfl ?_
        refine ow_r rfl (dstOk_lt rfl) (ry_box1 (off := 0) rfl rfl ty56 (boxIn (i := 0) rfl) rfl) ?_
        refine ow_batch [.p] rfl ?_
        obtain ⟨e567, h568, H⟩ := of_bind H
        refine ow_ixB rfl rfl rfl rfl rfl sl56 ty105 rfl g12 h568 (fun q571 c572 hd569 hA570 => ?_)
        obtain ⟨c573, c574, c575, rfl, g576, g577, g578⟩ := rdo_Timpl_Attr hd569
        obtain rfl : c573 = [vS e567.Name_] := g576
        obtain ⟨a579, c580, rfl⟩ := rd_sl1 g577
        obtain ⟨a581, c582, rfl⟩ := rd_sl1 g578
        refine ow_r rfl (dstOk_lt rfl) (ry_load (cs := [vS e567.Name_, .slice a579 e567.Cuts_.length c580, .slice a581 e567.Values_.length c582]) rfl rfl ty105 (at_bor bor hA570) rfl) ?_
        obtain ⟨y583, h584, H⟩ := of_bind H
        refine ow_q rfl rfl (dstOk_lt rfl) (qy_call rfl fn68 rfl (fun w1 hw1 => spec_FullMask_ok w1 (cs0 := [vS e567.Name_, .slice a579 e567.Cuts_.length c580, .slice a581 e567.Values_.length c582]) h584 (rdm_Timpl_Attr (x := e567) (c0 := [vS e567.Name_]) (c1 := [.slice a579 e567.Cuts_.length c580]) (c2 := [.slice a581 e567.Values_.length c582]) rfl (rds_bor g577 w1 hw1) (rds_bor g578 w1 hw1)))) (fun _ _ => trivial) ?_
        refine ow_batch [.p] rfl ?_
        refine ow_nilQ ?_
        refine x_qs ?_
        refine c_if rfl (fun hb => ?_) (fun hb => ?_)
        · have H := of_if_t hb H
          refine c_exit ?_
          refine x_qs_exit ?_
          refine x_qb_here ?_
          refine x_qs ?_
          refine c_reg ?_
          refine ow_batch [.p, .p, .p] rfl ?_
          refine ow_nil ?_
          exact x_ql (RW.at (ihk1 (l294) (a295) (c296) (F297) (IntKind.i64.wrap (i299 + 1)) (⟨hz298, H⟩)) (fun _ h => St.sel [0, 1, 2] rfl rfl h) ⟨rfl, rfl, rfl, rfl, trivial⟩)
        · have H := of_if_f hb H
          refine c_skip ?_
          refine x_qs ?_
          refine c_seq ?_
          refine c_reg ?_
          refine ow_blit0 (e := eStr) rfl rfl rfl rfl sl48 ty9 (fun _ => kp) (fun b585 => ?_)
          refine ow_batch [.p] rfl ?_
          refine ow_nil ?_
          refine x_qs ?_
          refine c_seq ?_
          refine c_seq ?_
          refine c_reg ?_
          refine ow_batch [.p] rfl ?_
          refine ow_nil ?_
          refine x_qs ?_
          refine c_block ?_
          refine CW.at (loopI5 (fun (l639 : List (List UInt8)) (a640 : Option Addr) (c641 : Nat) (F642 : List Nat) (i644 : Int) => St w [] [Res.box b24 58 [.slice a14 p0.Attrs_.length c15, .slice a16 p0.Classes_.length c17], Res.box b25 60 [.int .i64 p1.Leaf_, .slice a22 p1.Masks_.length c23], Res.own (eList (eStr) 9) F297 l294 [.slice a295 l294.length c296], Res.own (eList (eStr) 9) F642 l639 [.slice a640 l639.length c641]]) (fun (l639 : List (List UInt8)) (a640 : Option Addr) (c641 : Nat) (F642 : List Nat) (i644 : Int) => [(2, .pointer (some ⟨b24, 0, none⟩)), (3, .pointer (some ⟨b25, 0, none⟩)), (5, .slice a295 l294.length c296), (6, .int .i64 i299), (7, .slice a640 l639.length c641), (8, .int .i64 i644)]) (fun kk => fun (l639 : List (List UInt8)) (a640 : Option Addr) (c641 : Nat) (F642 : List Nat) (i644 : Int) => a640.isNone = false ∧ spec_WayText_L2 p0 i299 p1 l294 (spec_WayText_L1 p1 p0 k1) kk l639 i644 = some r) (fun _ _ _ _ _ H => ?_) (fun k2 ihk2 l639 a640 c641 F642 i644 ⟨hz643, H⟩ => ?_) Fuel (([] : List (List UInt8))) ((some ⟨b585, 0, none⟩)) (0) ([b585]) (0) (⟨rfl, H⟩)) (fun _ h => St.sel [0, 1, 2, 3] rfl rfl h) ⟨rfl, rfl, rfl, rfl, rfl, rfl,  trivial⟩
          · unfold spec_WayText_L2 at H
            exact absurd H (by simp)
          · unfold spec_WayText_L2 at H
            refine c_seq ?_
            refine c_seq ?_
            refine c_reg ?_
            refine ow_batch [.p, .fa 58 0 0 fa58_0] rfl ?_
            refine ow_r rfl (dstOk_lt rfl) (ry_box1 (off := 0) rfl rfl ty56 (boxIn (i := 0) rfl) rfl) ?_
            refine ow_batch [.p] rfl ?_
            obtain ⟨e698, h699, H⟩ := of_bind H
            refine ow_ixB rfl rfl rfl rfl rfl sl56 ty105 rfl g12 h699 (fun q702 c703 hd700 hA701 => ?_)
            obtain ⟨c704, c705, c706, rfl, g707, g708, g709⟩ := rdo_Timpl_Attr hd700
            obtain rfl : c704 = [vS e698.Name_] := g707
            obtain ⟨a710, c711, rfl⟩ := rd_sl1 g708
            obtain ⟨a712, c713, rfl⟩ := rd_sl1 g709
            refine ow_r rfl (dstOk_lt rfl) (ry_load (cs := [vS e698.Name_, .slice a710 e698.Cuts_.length c711, .slice a712 e698.Values_.length c713]) rfl rfl ty105 (at_bor bor hA701) rfl) ?_
            obtain ⟨y714, h715, H⟩ := of_bind H
            refine ow_q rfl rfl (dstOk_lt rfl) (qy_call rfl fn69 rfl (fun w1 hw1 => spec_Bins_ok w1 (cs0 := [vS e698.Name_, .slice a710 e698.Cuts_.length c711, .slice a712 e698.Values_.length c713]) h715 (rdm_Timpl_Attr (x := e698) (c0 := [vS e698.Name_]) (c1 := [.slice a710 e698.Cuts_.length c711]) (c2 := [.slice a712 e698.Values_.length c713]) rfl (rds_bor g708 w1 hw1) (rds_bor g709 w1 hw1)))) (fun _ _ => trivial) ?_
            refine ow_batch [.p] rfl ?_
            refine ow_nil ?_
            refine x_qs ?_
            refine c_if rfl (fun hb => ?_) (fun hb => ?_)
            · have H := of_if_t hb H
              refine c_skip ?_
              refine x_qs ?_
              refine c_seq ?_
              refine c_block ?_
              refine c_seq ?_
              refine c_regQ mixed (by kernel_rfl) ?_
              refine ow_batch [.fa 60 1 1 fa60_1] rfl ?_
              refine ow_r rfl (dstOk_lt rfl) (ry_box1 (off := 1) rfl rfl ty22 (boxIn (i := 1) rfl) rfl) ?_
              refine ow_batch [.p] rfl ?_
              obtain ⟨e716, h717, H⟩ := of_bind H
              refine ow_ixE (e := eVal (Value.int .i64) (fun _ => rfl)) (xs := p1.Masks_) (j := i299) rfl rfl rfl rfl rfl sl22 ty3 rfl (fun w1 hw1 => rds_bor g21 w1 hw1) h717 (by rw [Nat.mul_one]) ?_
              refine ow_r rfl (dstOk_lt rfl) (ry_load1 rfl rfl ty3 (at_elV (fun w1 hw1 => rds_bor g21 w1 hw1) h717)) ?_
              refine ow_batch [.p] rfl ?_
              obtain ⟨y718, h719, H⟩ := of_bind H
              refine ow_q rfl rfl (dstOk_lt rfl) (qy_call rfl fn70 rfl (fun w1 hw1 => spec_l16Power_ok w1  h719)) (fun _ _ => trivial) ?_
              refine ow_batch [.p, .p] rfl ?_
              refine ow_nilQ ?_
              refine x_qs ?_
              refine c_if rfl (fun hb => ?_) (fun hb => ?_)
              · have H := of_if_t hb H
                refine c_reg ?_
                refine ow_batch [.p, .fa 58 0 0 fa58_0] rfl ?_
                refine ow_r rfl (dstOk_lt rfl) (ry_box1 (off := 0) rfl rfl ty56 (boxIn (i := 0) rfl) rfl) ?_
                refine ow_batch [.p] rfl ?_
                obtain ⟨e720, h721, H⟩ := of_bind H
                refine ow_ixB rfl rfl rfl rfl rfl sl56 ty105 rfl g12 h721 (fun q724 c725 hd722 hA723 => ?_)
                obtain ⟨c726, c727, c728, rfl, g729, g730, g731⟩ := rdo_Timpl_Attr hd722
                obtain rfl : c726 = [vS e720.Name_] := g729
                obtain ⟨a732, c733, rfl⟩ := rd_sl1 g730
                obtain ⟨a734, c735, rfl⟩ := rd_sl1 g731
                refine ow_r rfl (dstOk_lt rfl) (ry_load (cs := [vS e720.Name_, .slice a732 e720.Cuts_.length c733, .slice a734 e720.Values_.length c735]) rfl rfl ty105 (at_bor bor hA723) rfl) ?_
                refine ow_batch [.p] rfl ?_
                obtain ⟨y736, h737, H⟩ := of_bind H
                refine ow_q rfl rfl (dstOk_lt rfl) (qy_call rfl fn71 rfl (fun w1 hw1 => spec_CellText_ok w1 (cs0 := [vS e720.Name_, .slice a732 e720.Cuts_.length c733, .slice a734 e720.Values_.length c735]) h737 (rdm_Timpl_Attr (x := e720) (c0 := [vS e720.Name_]) (c1 := [.slice a732 e720.Cuts_.length c733]) (c2 := [.slice a734 e720.Values_.length c735]) rfl (rds_bor g730 w1 hw1) (rds_bor g731 w1 hw1)))) (fun _ _ => trivial) ?_
                refine ow_blit (val := vS) (h1 := fun _ => rfl) [y736] [(0, [vS y736])] rfl rfl rfl rfl rfl sl48 ty9 rfl rfl rfl ⟨rfl, rfl, Nat.le_of_ble_eq_true rfl,  trivial⟩ rfl rfl (fun _ => kp) (fun b738 => ?_)
                obtain ⟨l739, h740, H⟩ := of_bind H
                refine ow_appR (r := 3) (ys := ([y736] : List (List UInt8))) rfl rfl rfl rfl rfl rfl sl48 ty9 rfl rfl rfl (fun w1 hw1 => rds_own (e := eList (eStr) 9) (r := 4) rfl w1 hw1) h740 (fun _ _ _ => kp) (fun a741 c742 F743 => ?_)
                refine ow_fact rfl (fun w1 hw1 => own_nn (i := 3) hw1 rfl (app_ne h740)) (fun hz744 => ?_)
                refine ow_batch [.p] rfl ?_
                refine ow_nil ?_
                refine x_qb ?_
                refine x_qs ?_
                refine c_reg ?_
                refine ow_batch [.p, .p, .p] rfl ?_
                refine ow_nil ?_
                exact x_ql (RW.at (ihk2 (l739) (a741) (c742) (F743) (IntKind.i64.wrap (i644 + 1)) (⟨hz744, H⟩)) (fun _ h => St.sel [0, 1, 2, 3] rfl rfl h) ⟨rfl, rfl, rfl, rfl, rfl, rfl, trivial⟩)
              · have H := of_if_f hb H
                refine c_skip ?_
                refine x_qb ?_
                refine x_qs ?_
                refine c_reg ?_
                refine ow_batch [.p, .p, .p] rfl ?_
                refine ow_nil ?_
                exact x_ql (RW.at (ihk2 (l639) (a640) (c641) (F642) (IntKind.i64.wrap (i644 + 1)) (⟨hz643, H⟩)) (fun _ h => St.sel [0, 1, 2, 3] rfl rfl h) ⟨rfl, rfl, rfl, rfl, rfl, rfl, trivial⟩)
            · have H := of_if_f hb H
              refine c_exit ?_
              refine x_qs_exit ?_
              refine x_ql_exit ?_
              refine x_qb_here ?_
              refine x_qs ?_
              refine c_join4 (fun (l754 : List (List UInt8)) (a755 : Option Addr) (c756 : Nat) (F757 : List Nat) => St w [] [Res.box b24 58 [.slice a14 p0.Attrs_.length c15, .slice a16 p0.Classes_.length c17], Res.box b25 60 [.int .i64 p1.Leaf_, .slice a22 p1.Masks_.length c23], Res.own (eList (eStr) 9) F297 l294 [.slice a295 l294.length c296], Res.own (eList (eStr) 9) F757 l754 [.slice a755 l754.length c756]]) (fun (l754 : List (List UInt8)) (a755 : Option Addr) (c756 : Nat) (F757 : List Nat) => [(2, .pointer (some ⟨b24, 0, none⟩)), (3, .pointer (some ⟨b25, 0, none⟩)), (5, .slice a295 l294.length c296), (6, .int .i64 i299), (7, .slice a755 l754.length c756)]) (fun (l754 : List (List UInt8)) (a755 : Option Addr) (c756 : Nat) (F757 : List Nat) => a755.isNone = false ∧ spec_WayText_J1 p0 i299 l294 (spec_WayText_L1 p1 p0 k1) l754 = some r) (fun l754 a755 c756 F757 ⟨hz758, H⟩ => ?_) (fun J1 => ?_)
              · unfold spec_WayText_J1 at H
                refine c_regHT 13 [(0, true), (1, true), (2, true), (3, true), (4, true), (5, true), (6, true), (7, true), (8, true), (9, false), (10, true), (11, true), (12, false)] (St w [] [Res.box b24 58 [.slice a14 p0.Attrs_.length c15, .slice a16 p0.Classes_.length c17], Res.box b25 60 [.int .i64 p1.Leaf_, .slice a22 p1.Masks_.length c23], Res.own (eList (eStr) 9) F297 l294 [.slice a295 l294.length c296], Res.own (eList (eStr) 9) F757 l754 [.slice a755 l754.length c756]]) mixed (by kernel_rfl) (panicOk_qb (panicOk_qs (panicOk_ql (panicOk_qb (panicOk_qs panicOk_body))))) (fun _ h => St.mask [true, true, true, true] rfl h) ?_
                refine ow_batch [.p, .fa 58 0 0 fa58_0] rfl ?_
                refine ow_rH rfl (dstOk_lt rfl) (ry_box1 (off := 0) rfl rfl ty56 (boxIn (i := 0) rfl) rfl) ?_
                refine ow_batch [.p] rfl ?_
                obtain ⟨e784, h785, H⟩ := of_bind H
                refine ow_ixB rfl rfl rfl rfl rfl sl56 ty105 rfl g12 h785 (fun q788 c789 hd786 hA787 => ?_)
                obtain ⟨c790, c791, c792, rfl, g793, g794, g795⟩ := rdo_Timpl_Attr hd786
                obtain rfl : c790 = [vS e784.Name_] := g793
                obtain ⟨a796, c797, rfl⟩ := rd_sl1 g794
                obtain ⟨a798, c799, rfl⟩ := rd_sl1 g795
                refine ow_batch [.fa 105 0 0 fa105_0] rfl ?_
                refine ow_rH rfl (dstOk_lt rfl) (ry_load1 rfl rfl ty9 (at_bor (fun _ h => h.ext) (at_K hA787 0 1))) ?_
                obtain ⟨s800, h801, H⟩ := of_bind H
                refine ow_rH rfl (dstOk_lt rfl) (ry_sadd rfl rfl rfl h801) ?_
                refine ow_batch [.p] rfl ?_
                obtain ⟨y802, h803, H⟩ := of_bind H
                refine ow_q rfl rfl (dstOk_lt rfl) (qy_call rfl fn36 rfl (fun w1 hw1 => spec_l5Join_ok w1  h803 (rds_own (e := eList (eStr) 9) (r := 3) rfl w1 hw1))) (fun _ h => St.mask [true, true, true, true] rfl h) ?_
                obtain ⟨s804, h805, H⟩ := of_bind H
                refine ow_rH rfl (dstOk_lt rfl) (ry_sadd rfl rfl rfl h805) ?_
                obtain ⟨s806, h807, H⟩ := of_bind H
                refine ow_rH rfl (dstOk_lt rfl) (ry_sadd rfl rfl rfl h807) ?_
                refine ow_blit (val := vS) (h1 := fun _ => rfl) [s806] [(0, [vS s806])] rfl rfl rfl rfl rfl sl48 ty9 rfl rfl rfl ⟨rfl, rfl, Nat.le_of_ble_eq_true rfl,  trivial⟩ rfl rfl (fun _ => (fun _ h => St.mask [true, true, true, true] rfl h)) (fun b808 => ?_)
                refine ow_nilH ?_
                refine x_qt ?_
                obtain ⟨l809, h810, H⟩ := of_bind H
                refine ow_appR (r := 2) (ys := ([s806] : List (List UInt8))) rfl rfl rfl rfl rfl rfl sl48 ty9 rfl rfl rfl (fun w1 hw1 => rds_own (e := eList (eStr) 9) (r := 4) rfl w1 hw1) h810 (fun _ _ _ => kp) (fun a811 c812 F813 => ?_)
                refine ow_fact rfl (fun w1 hw1 => own_nn (i := 2) hw1 rfl (app_ne h810)) (fun hz814 => ?_)
                refine ow_batch [.p] rfl ?_
                refine ow_nil ?_
                refine x_qb ?_
                refine x_qs ?_
                refine c_reg ?_
                refine ow_batch [.p, .p, .p] rfl ?_
                refine ow_nil ?_
                exact x_ql (RW.at (ihk1 (l809) (a811) (c812) (F813) (IntKind.i64.wrap (i299 + 1)) (⟨hz814, H⟩)) (fun _ h => St.sel [0, 1, 2] rfl rfl h) ⟨rfl, rfl, rfl, rfl, trivial⟩)
              · refine c_seq ?_
                refine c_reg ?_
                refine ow_batch [.fa 60 1 1 fa60_1] rfl ?_
                refine ow_r rfl (dstOk_lt rfl) (ry_box1 (off := 1) rfl rfl ty22 (boxIn (i := 1) rfl) rfl) ?_
                refine ow_batch [.p] rfl ?_
                obtain ⟨e815, h816, H⟩ := of_bind H
                refine ow_ixE (e := eVal (Value.int .i64) (fun _ => rfl)) (xs := p1.Masks_) (j := i299) rfl rfl rfl rfl rfl sl22 ty3 rfl (fun w1 hw1 => rds_bor g21 w1 hw1) h816 (by rw [Nat.mul_one]) ?_
                refine ow_r rfl (dstOk_lt rfl) (ry_load1 rfl rfl ty3 (at_elV (fun w1 hw1 => rds_bor g21 w1 hw1) h816)) ?_
                refine ow_batch [.p, .p] rfl ?_
                refine ow_nil ?_
                refine x_qs ?_
                refine c_if rfl (fun hb => ?_) (fun hb => ?_)
                · have H := of_if_t hb H
                  refine c_reg ?_
                  refine ow_batch [.p] rfl ?_
                  refine ow_blit (val := vS) (h1 := fun _ => rfl) [([63] : List UInt8)] [(0, [vS ([63] : List UInt8)])] rfl rfl rfl rfl rfl sl48 ty9 rfl rfl rfl ⟨rfl, rfl, Nat.le_of_ble_eq_true rfl,  trivial⟩ rfl rfl (fun _ => kp) (fun b817 => ?_)
                  obtain ⟨l818, h819, H⟩ := of_bind H
                  refine ow_appR (r := 3) (ys := ([([63] : List UInt8)] : List (List UInt8))) rfl rfl rfl rfl rfl rfl sl48 ty9 rfl rfl rfl (fun w1 hw1 => rds_own (e := eList (eStr) 9) (r := 4) rfl w1 hw1) h819 (fun _ _ _ => kp) (fun a820 c821 F822 => ?_)
                  refine ow_fact rfl (fun w1 hw1 => own_nn (i := 3) hw1 rfl (app_ne h819)) (fun hz823 => ?_)
                  refine ow_batch [.p] rfl ?_
                  refine ow_nil ?_
                  exact XW.at (J1 (l818) (a820) (c821) (F822) (⟨hz823, H⟩)) (fun _ h => St.sel [0, 1, 2, 3] rfl rfl h) ⟨rfl, rfl, rfl, rfl, rfl, trivial⟩
                · have H := of_if_f hb H
                  refine c_skip ?_
                  exact XW.at (J1 (l639) (a640) (c641) (F642) (⟨hz643, H⟩)) (fun _ h => St.sel [0, 1, 2, 3] rfl rfl h) ⟨rfl, rfl, rfl, rfl, rfl, trivial⟩
      · have H := of_if_f hb H
        refine c_exit ?_
        refine x_qs_exit ?_
        refine x_ql_exit ?_
        refine x_qb_here ?_
        refine x_qs ?_
        refine c_seq ?_
        refine c_seq ?_
        refine c_reg ?_
        refine ow_batch [.p, .lenS 48 9 sl48, .p] rfl ?_
        refine ow_nil ?_
        refine x_qs ?_
        refine c_if rfl (fun hb => ?_) (fun hb => ?_)
        · have H := of_if_t hb H
          refine c_seq ?_
          refine c_reg ?_
          refine ow_batch [.p] rfl ?_
          refine ow_nil ?_
          refine x_qs ?_
          refine c_ret ?_
          refine x_qs_ret ?_
          exact x_retR (rs := [.tmp 4]) (vs := [vS ([97, 110, 121] : List UInt8)]) rfl ⟨rfl, trivial⟩ (fun w' hw' => by
              obtain rfl := of_some H
              exact ⟨rfl, hw'.ext⟩)
        · have H := of_if_f hb H
          refine c_skip ?_
          refine x_qs ?_
          refine c_seq ?_
          refine c_reg ?_
          refine ow_batch [.p] rfl ?_
          obtain ⟨y824, h825, H⟩ := of_bind H
          refine ow_q rfl rfl (dstOk_lt rfl) (qy_call rfl fn36 rfl (fun w1 hw1 => spec_l5Join_ok w1  h825 (rds_own (e := eList (eStr) 9) (r := 2) rfl w1 hw1))) (fun _ _ => trivial) ?_
          refine ow_batch [.p] rfl ?_
          refine ow_nil ?_
          refine x_qs ?_
          refine c_ret ?_
          exact x_retR (rs := [.tmp 4]) (vs := [vS y824]) rfl ⟨rfl, trivial⟩ (fun w' hw' => by
              obtain rfl := of_some H
              exact ⟨rfl, hw'.ext⟩)

set_option maxHeartbeats 4000000 in
set_option maxRecDepth 100000 in
theorem impl_FullMask_ok (w : World) {p0 : Timpl_Attr} {cs0 : List Value} {r : Int} (H : impl_FullMask p0 = some r)  (g0 : (eTimpl_Attr).rd w [] p0 cs0) :
    Calls Tryd.prog 75 #[.agg cs0.toArray] w (fun en w' => en = .returned (.int .i64 r) ∧ Ext [] w w') := by
  obtain ⟨c10, c11, c12, rfl, g13, g14, g15⟩ := rdo_Timpl_Attr g0
  obtain rfl : c10 = [vS p0.Name_] := g13
  obtain ⟨a16, c17, rfl⟩ := rd_sl1 g14
  obtain ⟨a18, c19, rfl⟩ := rd_sl1 g15
  unfold impl_FullMask at H
  refine f_enter (vs := [.agg #[vS p0.Name_, .slice a16 p0.Cuts_.length c17, .slice a18 p0.Values_.length c19]]) Tryd.func75 rfl Tryd.ntmps75 rfl (St.init w []) ?_
  refine c_seq ?_
  refine c_reg ?_
  refine ow_box (cs := [vS p0.Name_, .slice a16 p0.Cuts_.length c17, .slice a18 p0.Values_.length c19]) rfl rfl rfl rfl rfl rfl (fun _ => kp) (fun b20 => ?_)
  refine ow_batch [.p] rfl ?_
  refine ow_nil ?_
  refine x_qs ?_
  refine c_seq ?_
  refine c_seq ?_
  refine c_reg ?_
  refine ow_r rfl (dstOk_lt rfl) (ry_box (off := 0) (ds := [vS p0.Name_, .slice a16 p0.Cuts_.length c17, .slice a18 p0.Values_.length c19]) rfl rfl ty105 (boxIn (i := 0) rfl) rfl rfl) ?_
  obtain ⟨y21, h22, H⟩ := of_bind H
  refine ow_q rfl rfl (dstOk_lt rfl) (qy_call rfl fn115 rfl (fun w1 hw1 => impl_AttrOk_ok w1 (cs0 := [vS p0.Name_, .slice a16 p0.Cuts_.length c17, .slice a18 p0.Values_.length c19]) h22 (rdm_Timpl_Attr (x := p0) (c0 := [vS p0.Name_]) (c1 := [.slice a16 p0.Cuts_.length c17]) (c2 := [.slice a18 p0.Values_.length c19]) rfl (rds_bor g14 w1 hw1) (rds_bor g15 w1 hw1)))) (fun _ _ => trivial) ?_
  refine ow_batch [.p] rfl ?_
  refine ow_nil ?_
  refine x_qs ?_
  refine c_if rfl (fun hb => ?_) (fun hb => ?_)
  · have H := of_if_t hb H
    refine c_seq ?_
    refine c_reg ?_
    refine ow_batch [.p] rfl ?_
    refine ow_nil ?_
    refine x_qs ?_
    refine c_ret ?_
    refine x_qs_ret ?_
    exact x_retR (rs := [.tmp 2]) (vs := [.int .i64 0]) rfl ⟨rfl, trivial⟩ (fun w' hw' => by
        obtain rfl := of_some H
        exact ⟨rfl, hw'.ext⟩)
  · have H := of_if_f hb H
    refine c_skip ?_
    refine x_qs ?_
    refine c_seq ?_
    refine c_reg ?_
    refine ow_r rfl (dstOk_lt rfl) (ry_box (off := 0) (ds := [vS p0.Name_, .slice a16 p0.Cuts_.length c17, .slice a18 p0.Values_.length c19]) rfl rfl ty105 (boxIn (i := 0) rfl) rfl rfl) ?_
    obtain ⟨y23, h24, H⟩ := of_bind H
    refine ow_q rfl rfl (dstOk_lt rfl) (qy_call rfl fn76 rfl (fun w1 hw1 => impl_bins_ok w1 (cs0 := [vS p0.Name_, .slice a16 p0.Cuts_.length c17, .slice a18 p0.Values_.length c19]) h24 (rdm_Timpl_Attr (x := p0) (c0 := [vS p0.Name_]) (c1 := [.slice a16 p0.Cuts_.length c17]) (c2 := [.slice a18 p0.Values_.length c19]) rfl (rds_bor g14 w1 hw1) (rds_bor g15 w1 hw1)))) (fun _ _ => trivial) ?_
    obtain ⟨x25, h26, H⟩ := of_bind H
    refine ow_r rfl (dstOk_lt rfl) (ry_shl rfl rfl rfl h26) ?_
    refine ow_batch [.p, .p, .p] rfl ?_
    refine ow_nil ?_
    refine x_qs ?_
    refine c_ret ?_
    exact x_retR (rs := [.tmp 2]) (vs := [.int .i64 (ibits .or .i64 (IntKind.i64.wrap (x25 - 1)) 16)]) rfl ⟨rfl, trivial⟩ (fun w' hw' => by
        obtain rfl := of_some H
        exact ⟨rfl, hw'.ext⟩)

set_option maxHeartbeats 4000000 in
set_option maxRecDepth 100000 in
theorem impl_WayOk_ok (w : World) {p0 : Timpl_Schema} {p1 : Timpl_Way} {cs0 : List Value} {cs1 : List Value} {r : Bool} (H : impl_WayOk p0 p1 = some r)  (g0 : (eTimpl_Schema).rd w [] p0 cs0) (g1 : (eTimpl_Way).rd w [] p1 cs1) :
    Calls Tryd.prog 74 #[.agg cs0.toArray, .agg cs1.toArray] w (fun en w' => en = .returned (.bool r) ∧ Ext [] w w') := by
  obtain ⟨c10, c11, rfl, g12, g13⟩ := rdo_Timpl_Schema g0
  obtain ⟨a14, c15, rfl⟩ := rd_sl1 g12
  obtain ⟨a16, c17, rfl⟩ := rd_sl1 g13
  obtain ⟨c18, c19, rfl, g20, g21⟩ := rdo_Timpl_Way g1
  obtain rfl : c18 = [.int .i64 p1.Leaf_] := g20
  obtain ⟨a22, c23, rfl⟩ := rd_sl1 g21
  unfold impl_WayOk at H
  refine f_enter (vs := [.agg #[.slice a14 p0.Attrs_.length c15, .slice a16 p0.Classes_.length c17], .agg #[.int .i64 p1.Leaf_, .slice a22 p1.Masks_.length c23]]) Tryd.func74 rfl Tryd.ntmps74 rfl (St.init w []) ?_
  refine c_seq ?_
  refine c_reg ?_
  refine ow_box (cs := [.slice a14 p0.Attrs_.length c15, .slice a16 p0.Classes_.length c17]) rfl rfl rfl rfl rfl rfl (fun _ => kp) (fun b24 => ?_)
  refine ow_box (cs := [.int .i64 p1.Leaf_, .slice a22 p1.Masks_.length c23]) rfl rfl rfl rfl rfl rfl (fun _ => kp) (fun b25 => ?_)
  refine ow_batch [.p] rfl ?_
  refine ow_nil ?_
  refine x_qs ?_
  refine c_seq ?_
  refine c_seq ?_
  refine c_reg ?_
  refine ow_r rfl (dstOk_lt rfl) (ry_box (off := 0) (ds := [.slice a14 p0.Attrs_.length c15, .slice a16 p0.Classes_.length c17]) rfl rfl ty58 (boxIn (i := 0) rfl) rfl rfl) ?_
  obtain ⟨y26, h27, H⟩ := of_bind H
  refine ow_q rfl rfl (dstOk_lt rfl) (qy_call rfl fn114 rfl (fun w1 hw1 => impl_SchemaOk_ok w1 (cs0 := [.slice a14 p0.Attrs_.length c15, .slice a16 p0.Classes_.length c17]) h27 (rdm_Timpl_Schema (x := p0) (c0 := [.slice a14 p0.Attrs_.length c15]) (c1 := [.slice a16 p0.Classes_.length c17]) (rds_bor g12 w1 hw1) (rds_bor g13 w1 hw1)))) (fun _ _ => trivial) ?_
  refine ow_batch [.p, .p] rfl ?_
  obtain ⟨u28, hu32, H⟩ := of_bind H
  refine ow_cut [(15, .bool u28), (2, .pointer (some ⟨b24, 0, none⟩)), (3, .pointer (some ⟨b25, 0, none⟩))] 5 ?_ (fun key => OW.sub (R := [(2, .pointer (some ⟨b24, 0, none⟩)), (3, .pointer (some ⟨b25, 0, none⟩)), (10, .bool (!y26))]) ?_ ⟨rfl, rfl, rfl, trivial⟩)
  · refine ow_batch [.p] rfl ?_
    refine ow_cut [(24, .bool (u28 || ((p1.Masks_.length : Int) != (p0.Attrs_.length : Int)))), (2, .pointer (some ⟨b24, 0, none⟩)), (3, .pointer (some ⟨b25, 0, none⟩))] 8 ?_ (fun key => OW.sub (R := [(2, .pointer (some ⟨b24, 0, none⟩)), (3, .pointer (some ⟨b25, 0, none⟩)), (16, .bool u28)]) ?_ ⟨rfl, rfl, rfl, trivial⟩)
    · refine ow_nil ?_
      refine x_qs ?_
      refine c_if rfl (fun hb => ?_) (fun hb => ?_)
      · have H := of_if_t hb H
        refine c_seq ?_
        refine c_reg ?_
        refine ow_batch [.p] rfl ?_
        refine ow_nil ?_
        refine x_qs ?_
        refine c_ret ?_
        refine x_qs_ret ?_
        exact x_retR (rs := [.tmp 4]) (vs := [.bool false]) rfl ⟨rfl, trivial⟩ (fun w' hw' => by
            obtain rfl := of_some H
            exact ⟨rfl, hw'.ext⟩)
      · have H := of_if_f hb H
        refine c_skip ?_
        refine x_qs ?_
        refine c_seq ?_
        refine c_seq ?_
        refine c_reg ?_
        refine ow_batch [.fa 60 1 1 fa60_1] rfl ?_
        refine ow_r rfl (dstOk_lt rfl) (ry_box1 (off := 1) rfl rfl ty22 (boxIn (i := 1) rfl) rfl) ?_
        refine ow_batch [.lenS 22 3 sl22, .p] rfl ?_
        refine ow_nil ?_
        refine x_qs ?_
        refine c_block ?_
        refine CW.at (loopI1 (fun (i56 : Int) => St w [] [Res.box b24 58 [.slice a14 p0.Attrs_.length c15, .slice a16 p0.Classes_.length c17]]) (fun (i56 : Int) => [(2, .pointer (some ⟨b24, 0, none⟩)), (26, .slice a22 p1.Masks_.length c23), (27, .int .i64 (p1.Masks_.length : Int)), (28, .int .i64 i56)]) (fun kk => fun (i56 : Int) => impl_WayOk_L1 p1 p0 kk i56 = some r) (fun _ H => ?_) (fun k1 ihk1 i56 H => ?_) Fuel (0) (H)) (fun _ h => St.sel [0] rfl rfl h) ⟨rfl, rfl, rfl, rfl,  trivial⟩
        · unfold impl_WayOk_L1 at H
          exact absurd H (by simp)
        · unfold impl_WayOk_L1 at H
          refine c_seq ?_
          refine c_reg ?_
          refine ow_batch [.p] rfl ?_
          refine ow_nil ?_
          refine x_qs ?_
          refine c_seq ?_
          refine c_if rfl (fun hb => ?_) (fun hb => ?_)
          · have H := of_if_t hb H
            refine c_skip ?_
            refine x_qs ?_
            refine c_seq ?_
            refine c_block ?_
            refine c_seq ?_
            refine c_reg ?_
            refine ow_batch [.p] rfl ?_
            obtain ⟨e78, h79, H⟩ := of_bind H
            refine ow_ixE (e := eVal (Value.int .i64) (fun _ => rfl)) (xs := p1.Masks_) (j := i56) rfl rfl rfl rfl rfl sl22 ty3 rfl (fun w1 hw1 => rds_bor g21 w1 hw1) h79 (by rw [Nat.mul_one]) ?_
            refine ow_r rfl (dstOk_lt rfl) (ry_load1 rfl rfl ty3 (at_elV (fun w1 hw1 => rds_bor g21 w1 hw1) h79)) ?_
            refine ow_batch [.p, .p] rfl ?_
            refine ow_nil ?_
            refine x_qs ?_
            refine c_seq ?_
            refine c_reg ?_
            refine ow_batch [.p, .fa 58 0 0 fa58_0] rfl ?_
            refine ow_r rfl (dstOk_lt rfl) (ry_box1 (off := 0) rfl rfl ty56 (boxIn (i := 0) rfl) rfl) ?_
            refine ow_batch [.p] rfl ?_
            obtain ⟨e80, h81, H⟩ := of_bind H
            refine ow_ixB rfl rfl rfl rfl rfl sl56 ty105 rfl g12 h81 (fun q84 c85 hd82 hA83 => ?_)
            obtain ⟨c86, c87, c88, rfl, g89, g90, g91⟩ := rdo_Timpl_Attr hd82
            obtain rfl : c86 = [vS e80.Name_] := g89
            obtain ⟨a92, c93, rfl⟩ := rd_sl1 g90
            obtain ⟨a94, c95, rfl⟩ := rd_sl1 g91
            refine ow_r rfl (dstOk_lt rfl) (ry_load (cs := [vS e80.Name_, .slice a92 e80.Cuts_.length c93, .slice a94 e80.Values_.length c95]) rfl rfl ty105 (at_bor bor hA83) rfl) ?_
            obtain ⟨y96, h97, H⟩ := of_bind H
            refine ow_q rfl rfl (dstOk_lt rfl) (qy_call rfl fn75 rfl (fun w1 hw1 => impl_FullMask_ok w1 (cs0 := [vS e80.Name_, .slice a92 e80.Cuts_.length c93, .slice a94 e80.Values_.length c95]) h97 (rdm_Timpl_Attr (x := e80) (c0 := [vS e80.Name_]) (c1 := [.slice a92 e80.Cuts_.length c93]) (c2 := [.slice a94 e80.Values_.length c95]) rfl (rds_bor g90 w1 hw1) (rds_bor g91 w1 hw1)))) (fun _ _ => trivial) ?_
            refine ow_batch [.p, .p] rfl ?_
            refine ow_nil ?_
            refine x_qs ?_
            refine c_if rfl (fun hb => ?_) (fun hb => ?_)
            · have H := of_if_t hb H
              refine c_seq ?_
              refine c_reg ?_
              refine ow_batch [.p] rfl ?_
              refine ow_nil ?_
              refine x_qs ?_
              refine c_ret ?_
              refine x_qb_ret ?_
              refine x_qs_ret ?_
              refine x_ql_ret ?_
              refine x_qb_ret ?_
              refine x_qs_ret ?_
              exact x_retR (rs := [.tmp 4]) (vs := [.bool false]) rfl ⟨rfl, trivial⟩ (fun w' hw' => by
                  obtain rfl := of_some H
                  exact ⟨rfl, hw'.ext⟩)
            · have H := of_if_f hb H
              refine c_skip ?_
              refine x_qb ?_
              refine x_qs ?_
              refine c_reg ?_
              refine ow_batch [.p, .p] rfl ?_
              refine ow_nil ?_
              exact x_ql (RW.at (ihk1 (IntKind.i64.wrap (i56 + 1)) (H)) (fun _ h => St.sel [0] rfl rfl h) ⟨rfl, rfl, rfl, rfl, trivial⟩)
          · have H := of_if_f hb H
            refine c_exit ?_
            refine x_qs_exit ?_
            refine x_ql_exit ?_
            refine x_qb_here ?_
            refine x_qs ?_
            refine c_seq ?_
            refine c_reg ?_
            refine ow_batch [.p] rfl ?_
            refine ow_nil ?_
            refine x_qs ?_
            refine c_ret ?_
            exact x_retR (rs := [.tmp 4]) (vs := [.bool true]) rfl ⟨rfl, trivial⟩ (fun w' hw' => by
                obtain rfl := of_some H
                exact ⟨rfl, hw'.ext⟩)
    · generalize u28 = t34 at key ⊢
      cases t34
      · refine ow_batch [.fa 60 1 1 fa60_1] rfl ?_
        refine ow_r rfl (dstOk_lt rfl) (ry_box1 (off := 1) rfl rfl ty22 (boxIn (i := 1) rfl) rfl) ?_
        refine ow_batch [.lenS 22 3 sl22, .fa 58 0 0 fa58_0] rfl ?_
        refine ow_r rfl (dstOk_lt rfl) (ry_box1 (off := 0) rfl rfl ty56 (boxIn (i := 0) rfl) rfl) ?_
        refine ow_batch [.lenS 56 105 sl56, .p] rfl ?_
        refine ow_batch [.p] rfl ?_
        exact OW.sub key ⟨rfl, rfl, rfl, trivial⟩
      · refine ow_batch [.p, .p, .p, .p, .p, .p, .p, .p] rfl ?_
        exact OW.sub key ⟨rfl, rfl, rfl, trivial⟩
  · clear H
    have H := hu32
    clear hu32
    generalize (!y26) = t31 at H key ⊢
    cases t31
    · have H := of_if_f rfl H
      refine ow_batch [.fa 60 0 0 fa60_0] rfl ?_
      refine ow_r rfl (dstOk_lt rfl) (ry_box1 (off := 0) rfl rfl ty3 (boxIn (i := 1) rfl) rfl) ?_
      obtain ⟨y29, h30, H⟩ := of_bind H
      refine ow_q rfl rfl (dstOk_lt rfl) (qy_call rfl fn95 rfl (fun w1 hw1 => impl_within_ok w1  h30)) (fun _ _ => trivial) ?_
      refine ow_batch [.p] rfl ?_
      refine ow_batch [.p] rfl ?_
      obtain rfl := of_some H
      exact OW.sub key ⟨rfl, rfl, rfl, trivial⟩
    · have H := of_if_t rfl H
      refine ow_batch [.p, .p, .p, .p, .p] rfl ?_
      obtain rfl := of_some H
      exact OW.sub key ⟨rfl, rfl, rfl, trivial⟩

set_option maxHeartbeats 4000000 in
set_option maxRecDepth 100000 in
theorem impl_CellText_ok (w : World) {p0 : Timpl_Attr} {p1 : Int} {cs0 : List Value} {r : List UInt8} (H : impl_CellText p0 p1 = some r)  (g0 : (eTimpl_Attr).rd w [] p0 cs0) (gT : (ePow10 Tryd.prog).rd w [] () []) :
    Calls Tryd.prog 77 #[.agg cs0.toArray, .int .i64 p1] w (fun en w' => en = .returned (vS r) ∧ Ext [] w w') := by
  obtain ⟨c10, c11, c12, rfl, g13, g14, g15⟩ := rdo_Timpl_Attr g0
  obtain rfl : c10 = [vS p0.Name_] := g13
  obtain ⟨a16, c17, rfl⟩ := rd_sl1 g14
  obtain ⟨a18, c19, rfl⟩ := rd_sl1 g15
  unfold impl_CellText at H
  refine f_enter (vs := [.agg #[vS p0.Name_, .slice a16 p0.Cuts_.length c17, .slice a18 p0.Values_.length c19], .int .i64 p1]) Tryd.func77 rfl Tryd.ntmps77 rfl (St.init w []) ?_
  refine c_seq ?_
  refine c_reg ?_
  refine ow_box (cs := [vS p0.Name_, .slice a16 p0.Cuts_.length c17, .slice a18 p0.Values_.length c19]) rfl rfl rfl rfl rfl rfl (fun _ => kp) (fun b20 => ?_)
  refine ow_batch [.p] rfl ?_
  refine ow_nil ?_
  refine x_qs ?_
  refine c_seq ?_
  refine c_block ?_
  refine c_seq ?_
  refine c_reg ?_
  refine ow_r rfl (dstOk_lt rfl) (ry_box (off := 0) (ds := [vS p0.Name_, .slice a16 p0.Cuts_.length c17, .slice a18 p0.Values_.length c19]) rfl rfl ty105 (boxIn (i := 0) rfl) rfl rfl) ?_
  obtain ⟨y21, h22, H⟩ := of_bind H
  refine ow_q rfl rfl (dstOk_lt rfl) (qy_call rfl fn115 rfl (fun w1 hw1 => impl_AttrOk_ok w1 (cs0 := [vS p0.Name_, .slice a16 p0.Cuts_.length c17, .slice a18 p0.Values_.length c19]) h22 (rdm_Timpl_Attr (x := p0) (c0 := [vS p0.Name_]) (c1 := [.slice a16 p0.Cuts_.length c17]) (c2 := [.slice a18 p0.Values_.length c19]) rfl (rds_bor g14 w1 hw1) (rds_bor g15 w1 hw1)))) (fun _ _ => trivial) ?_
  refine ow_batch [.p, .p] rfl ?_
  obtain ⟨u23, hu29, H⟩ := of_bind H
  refine ow_cut [(16, .bool u23), (1, .int .i64 p1), (2, .pointer (some ⟨b20, 0, none⟩))] 7 ?_ (fun key => OW.sub (R := [(1, .int .i64 p1), (2, .pointer (some ⟨b20, 0, none⟩)), (9, .bool (!y21))]) ?_ ⟨rfl, rfl, rfl, trivial⟩)
  · refine ow_batch [.p] rfl ?_
    refine ow_nil ?_
    refine x_qs ?_
    refine c_if rfl (fun hb => ?_) (fun hb => ?_)
    · have H := of_if_t hb H
      refine c_seq ?_
      refine c_reg ?_
      refine ow_batch [.p] rfl ?_
      refine ow_nil ?_
      refine x_qs ?_
      refine c_ret ?_
      refine x_qb_ret ?_
      refine x_qs_ret ?_
      exact x_retR (rs := [.tmp 4]) (vs := [vS ([] : List UInt8)]) rfl ⟨rfl, trivial⟩ (fun w' hw' => by
          obtain rfl := of_some H
          exact ⟨rfl, hw'.ext⟩)
    · have H := of_if_f hb H
      refine c_seq ?_
      refine c_reg ?_
      refine ow_batch [.p, .p, .p] rfl ?_
      refine ow_nil ?_
      refine x_qs ?_
      refine c_if rfl (fun hb => ?_) (fun hb => ?_)
      · have H := of_if_t hb H
        refine c_seq ?_
        refine c_reg ?_
        refine ow_batch [.p] rfl ?_
        refine ow_nil ?_
        refine x_qs ?_
        refine c_ret ?_
        refine x_qb_ret ?_
        refine x_qs_ret ?_
        exact x_retR (rs := [.tmp 4]) (vs := [vS ([63] : List UInt8)]) rfl ⟨rfl, trivial⟩ (fun w' hw' => by
            obtain rfl := of_some H
            exact ⟨rfl, hw'.ext⟩)
      · have H := of_if_f hb H
        refine c_seq ?_
        refine c_reg ?_
        refine ow_batch [.fa 105 2 2 fa105_2] rfl ?_
        refine ow_r rfl (dstOk_lt rfl) (ry_box1 (off := 2) rfl rfl ty48 (boxIn (i := 0) rfl) rfl) ?_
        refine ow_batch [.lenS 48 9 sl48, .p, .p] rfl ?_
        refine ow_nil ?_
        refine x_qs ?_
        refine c_if rfl (fun hb => ?_) (fun hb => ?_)
        · have H := of_if_t hb H
          refine c_seq ?_
          refine c_reg ?_
          refine ow_batch [.fa 105 2 2 fa105_2] rfl ?_
          refine ow_r rfl (dstOk_lt rfl) (ry_box1 (off := 2) rfl rfl ty48 (boxIn (i := 0) rfl) rfl) ?_
          refine ow_batch [.p] rfl ?_
          obtain ⟨e30, h31, H⟩ := of_bind H
          refine ow_ixE (e := eStr) (xs := p0.Values_) (j := p1) rfl rfl rfl rfl rfl sl48 ty9 rfl (fun w1 hw1 => rds_bor g15 w1 hw1) h31 (by rw [Nat.mul_one]) ?_
          refine ow_r rfl (dstOk_lt rfl) (ry_load1 rfl rfl ty9 (at_elV (fun w1 hw1 => rds_bor g15 w1 hw1) h31)) ?_
          refine ow_batch [.p] rfl ?_
          refine ow_nil ?_
          refine x_qs ?_
          refine c_ret ?_
          refine x_qb_ret ?_
          refine x_qs_ret ?_
          exact x_retR (rs := [.tmp 4]) (vs := [vS e30]) rfl ⟨rfl, trivial⟩ (fun w' hw' => by
              obtain rfl := of_some H
              exact ⟨rfl, hw'.ext⟩)
        · have H := of_if_f hb H
          refine c_seq ?_
          refine c_reg ?_
          refine ow_batch [.p, .fa 105 1 1 fa105_1] rfl ?_
          refine ow_r rfl (dstOk_lt rfl) (ry_box1 (off := 1) rfl rfl ty22 (boxIn (i := 0) rfl) rfl) ?_
          refine ow_batch [.lenS 22 3 sl22, .p, .p] rfl ?_
          refine ow_nil ?_
          refine x_qs ?_
          refine c_if rfl (fun hb => ?_) (fun hb => ?_)
          · have H := of_if_t hb H
            refine c_seq ?_
            refine c_reg ?_
            refine ow_batch [.fa 105 1 1 fa105_1] rfl ?_
            refine ow_r rfl (dstOk_lt rfl) (ry_box1 (off := 1) rfl rfl ty22 (boxIn (i := 0) rfl) rfl) ?_
            refine ow_batch [.p] rfl ?_
            obtain ⟨e32, h33, H⟩ := of_bind H
            refine ow_ixE (e := eVal (Value.int .i64) (fun _ => rfl)) (xs := p0.Cuts_) (j := p1) rfl rfl rfl rfl rfl sl22 ty3 rfl (fun w1 hw1 => rds_bor g14 w1 hw1) h33 (by rw [Nat.mul_one]) ?_
            refine ow_r rfl (dstOk_lt rfl) (ry_load1 rfl rfl ty3 (at_elV (fun w1 hw1 => rds_bor g14 w1 hw1) h33)) ?_
            obtain ⟨y34, h35, H⟩ := of_bind H
            refine ow_q rfl rfl (dstOk_lt rfl) (qy_call rfl fn45 rfl (fun w1 hw1 => impl_Digits_ok w1  h35 (rds_bor gT w1 hw1))) (fun _ _ => trivial) ?_
            refine ow_batch [.p] rfl ?_
            refine ow_nil ?_
            refine x_qs ?_
            refine c_ret ?_
            refine x_qb_ret ?_
            refine x_qs_ret ?_
            exact x_retR (rs := [.tmp 4]) (vs := [vS y34]) rfl ⟨rfl, trivial⟩ (fun w' hw' => by
                obtain rfl := of_some H
                exact ⟨rfl, hw'.ext⟩)
          · have H := of_if_f hb H
            refine c_skip ?_
            refine x_qb ?_
            refine x_qs ?_
            refine c_seq ?_
            refine c_reg ?_
            refine ow_batch [.fa 105 1 1 fa105_1] rfl ?_
            refine ow_r rfl (dstOk_lt rfl) (ry_box1 (off := 1) rfl rfl ty22 (boxIn (i := 0) rfl) rfl) ?_
            refine ow_batch [.p, .p] rfl ?_
            obtain ⟨e36, h37, H⟩ := of_bind H
            refine ow_ixE (e := eVal (Value.int .i64) (fun _ => rfl)) (xs := p0.Cuts_) (j := IntKind.i64.wrap (p1 - 1)) rfl rfl rfl rfl rfl sl22 ty3 rfl (fun w1 hw1 => rds_bor g14 w1 hw1) h37 (by rw [Nat.mul_one]) ?_
            refine ow_r rfl (dstOk_lt rfl) (ry_load1 rfl rfl ty3 (at_elV (fun w1 hw1 => rds_bor g14 w1 hw1) h37)) ?_
            refine ow_batch [.p] rfl ?_
            obtain ⟨y38, h39, H⟩ := of_bind H
            refine ow_q rfl rfl (dstOk_lt rfl) (qy_call rfl fn45 rfl (fun w1 hw1 => impl_Digits_ok w1  h39 (rds_bor gT w1 hw1))) (fun _ _ => trivial) ?_
            refine ow_batch [.p] rfl ?_
            refine ow_nil ?_
            refine x_qs ?_
            refine c_ret ?_
            exact x_retR (rs := [.tmp 4]) (vs := [vS y38]) rfl ⟨rfl, trivial⟩ (fun w' hw' => by
                obtain rfl := of_some H
                exact ⟨rfl, hw'.ext⟩)
  · clear H
    have H := hu29
    clear hu29
    generalize (!y21) = t28 at H key ⊢
    cases t28
    · have H := of_if_f rfl H
      refine ow_batch [.p] rfl ?_
      refine ow_r rfl (dstOk_lt rfl) (ry_box (off := 0) (ds := [vS p0.Name_, .slice a16 p0.Cuts_.length c17, .slice a18 p0.Values_.length c19]) rfl rfl ty105 (boxIn (i := 0) rfl) rfl rfl) ?_
      obtain ⟨y24, h25, H⟩ := of_bind H
      refine ow_q rfl rfl (dstOk_lt rfl) (qy_call rfl fn76 rfl (fun w1 hw1 => impl_bins_ok w1 (cs0 := [vS p0.Name_, .slice a16 p0.Cuts_.length c17, .slice a18 p0.Values_.length c19]) h25 (rdm_Timpl_Attr (x := p0) (c0 := [vS p0.Name_]) (c1 := [.slice a16 p0.Cuts_.length c17]) (c2 := [.slice a18 p0.Values_.length c19]) rfl (rds_bor g14 w1 hw1) (rds_bor g15 w1 hw1)))) (fun _ _ => trivial) ?_
      refine ow_batch [.p] rfl ?_
      obtain ⟨y26, h27, H⟩ := of_bind H
      refine ow_q rfl rfl (dstOk_lt rfl) (qy_call rfl fn95 rfl (fun w1 hw1 => impl_within_ok w1  h27)) (fun _ _ => trivial) ?_
      refine ow_batch [.p] rfl ?_
      refine ow_batch [.p] rfl ?_
      obtain rfl := of_some H
      exact OW.sub key ⟨rfl, rfl, rfl, trivial⟩
    · have H := of_if_t rfl H
      refine ow_batch [.p, .p, .p, .p, .p, .p, .p] rfl ?_
      obtain rfl := of_some H
      exact OW.sub key ⟨rfl, rfl, rfl, trivial⟩

set_option maxHeartbeats 4000000 in
set_option maxRecDepth 100000 in
theorem impl_WayText_ok (w : World) {p0 : Timpl_Schema} {p1 : Timpl_Way} {cs0 : List Value} {cs1 : List Value} {r : List UInt8} (H : impl_WayText p0 p1 = some r)  (g0 : (eTimpl_Schema).rd w [] p0 cs0) (g1 : (eTimpl_Way).rd w [] p1 cs1) (gT : (ePow10 Tryd.prog).rd w [] () []) :
    Calls Tryd.prog 27 #[.agg cs0.toArray, .agg cs1.toArray] w (fun en w' => en = .returned (vS r) ∧ Ext [] w w') := by
  obtain ⟨c10, c11, rfl, g12, g13⟩ := rdo_Timpl_Schema g0
  obtain ⟨a14, c15, rfl⟩ := rd_sl1 g12
  obtain ⟨a16, c17, rfl⟩ := rd_sl1 g13
  obtain ⟨c18, c19, rfl, g20, g21⟩ := rdo_Timpl_Way g1
  obtain rfl : c18 = [.int .i64 p1.Leaf_] := g20
  obtain ⟨a22, c23, rfl⟩ := rd_sl1 g21
  unfold impl_WayText at H
  refine f_enter (vs := [.agg #[.slice a14 p0.Attrs_.length c15, .slice a16 p0.Classes_.length c17], .agg #[.int .i64 p1.Leaf_, .slice a22 p1.Masks_.length c23]]) Tryd.func27 rfl Tryd.ntmps27 rfl (St.init w []) ?_
  refine c_seq ?_
  refine c_reg ?_
  refine ow_box (cs := [.slice a14 p0.Attrs_.length c15, .slice a16 p0.Classes_.length c17]) rfl rfl rfl rfl rfl rfl (fun _ => kp) (fun b24 => ?_)
  refine ow_box (cs := [.int .i64 p1.Leaf_, .slice a22 p1.Masks_.length c23]) rfl rfl rfl rfl rfl rfl (fun _ => kp) (fun b25 => ?_)
  refine ow_batch [.p] rfl ?_
  refine ow_nil ?_
  refine x_qs ?_
  refine c_seq ?_
  refine c_seq ?_
  refine c_reg ?_
  refine ow_r rfl (dstOk_lt rfl) (ry_box (off := 0) (ds := [.slice a14 p0.Attrs_.length c15, .slice a16 p0.Classes_.length c17]) rfl rfl ty58 (boxIn (i := 0) rfl) rfl rfl) ?_
  refine ow_r rfl (dstOk_lt rfl) (ry_box (off := 0) (ds := [.int .i64 p1.Leaf_, .slice a22 p1.Masks_.length c23]) rfl rfl ty60 (boxIn (i := 1) rfl) rfl rfl) ?_
  obtain ⟨y26, h27, H⟩ := of_bind H
  refine ow_q rfl rfl (dstOk_lt rfl) (qy_call rfl fn74 rfl (fun w1 hw1 => impl_WayOk_ok w1 (cs0 := [.slice a14 p0.Attrs_.length c15, .slice a16 p0.Classes_.length c17]) (cs1 := [.int .i64 p1.Leaf_, .slice a22 p1.Masks_.length c23]) h27 (rdm_Timpl_Schema (x := p0) (c0 := [.slice a14 p0.Attrs_.length c15]) (c1 := [.slice a16 p0.Classes_.length c17]) (rds_bor g12 w1 hw1) (rds_bor g13 w1 hw1)) (rdm_Timpl_Way (x := p1) (c0 := [.int .i64 p1.Leaf_]) (c1 := [.slice a22 p1.Masks_.length c23]) rfl (rds_bor g21 w1 hw1)))) (fun _ _ => trivial) ?_
  refine ow_batch [.p] rfl ?_
  refine ow_nil ?_
  refine x_qs ?_
  refine c_if rfl (fun hb => ?_) (fun hb => ?_)
  · have H := of_if_t hb H
    refine c_seq ?_
    refine c_reg ?_
    refine ow_batch [.p] rfl ?_
    refine ow_nil ?_
    refine x_qs ?_
    refine c_ret ?_
    refine x_qs_ret ?_
    exact x_retR (rs := [.tmp 4]) (vs := [vS ([] : List UInt8)]) rfl ⟨rfl, trivial⟩ (fun w' hw' => by
        obtain rfl := of_some H
        exact ⟨rfl, hw'.ext⟩)
  · have H := of_if_f hb H
    refine c_skip ?_
    refine x_qs ?_
    refine c_seq ?_
    refine c_reg ?_
    refine ow_blit0 (e := eStr) rfl rfl rfl rfl sl48 ty9 (fun _ => kp) (fun b28 => ?_)
    refine ow_batch [.p] rfl ?_
    refine ow_nil ?_
    refine x_qs ?_
    refine c_seq ?_
    refine c_seq ?_
    refine c_reg ?_
    refine ow_batch [.fa 60 1 1 fa60_1] rfl ?_
    refine ow_r rfl (dstOk_lt rfl) (ry_box1 (off := 1) rfl rfl ty22 (boxIn (i := 1) rfl) rfl) ?_
    refine ow_batch [.lenS 22 3 sl22, .p] rfl ?_
    refine ow_nil ?_
    refine x_qs ?_
    refine c_block ?_
    refine CW.at (loopI5 (fun (i151 : Int) (l152 : List (List UInt8)) (a153 : Option Addr) (c154 : Nat) (F155 : List Nat) => St w [] [Res.box b24 58 [.slice a14 p0.Attrs_.length c15, .slice a16 p0.Classes_.length c17], Res.own (eList (eStr) 9) F155 l152 [.slice a153 l152.length c154]]) (fun (i151 : Int) (l152 : List (List UInt8)) (a153 : Option Addr) (c154 : Nat) (F155 : List Nat) => [(2, .pointer (some ⟨b24, 0, none⟩)), (5, .slice a153 l152.length c154), (17, .slice a22 p1.Masks_.length c23), (18, .int .i64 (p1.Masks_.length : Int)), (19, .int .i64 i151)]) (fun kk => fun (i151 : Int) (l152 : List (List UInt8)) (a153 : Option Addr) (c154 : Nat) (F155 : List Nat) => a153.isNone = false ∧ impl_WayText_L1 p1 p0 kk i151 l152 = some r) (fun _ _ _ _ _ H => ?_) (fun k1 ihk1 i151 l152 a153 c154 F155 ⟨hz156, H⟩ => ?_) Fuel (0) (([] : List (List UInt8))) ((some ⟨b28, 0, none⟩)) (0) ([b28]) (⟨rfl, H⟩)) (fun _ h => St.sel [0, 2] rfl rfl h) ⟨rfl, rfl, rfl, rfl, rfl,  trivial⟩
    · unfold impl_WayText_L1 at H
      exact absurd H (by simp)
    · unfold impl_WayText_L1 at H
      refine c_seq ?_
      refine c_reg ?_
      refine ow_batch [.p] rfl ?_
      refine ow_nil ?_
      refine x_qs ?_
      refine c_seq ?_
      refine c_if rfl (fun hb => ?_) (fun hb => ?_)
      · have H := of_if_t hb H
        refine c_skip ?_
        refine x_qs ?_
        refine c_seq ?_
        refine c_block ?_
        refine c_seq ?_
        refine c_reg ?_
        refine ow_batch [.p] rfl ?_
        obtain ⟨e279, h280, H⟩ := of_bind H
        refine ow_ixE (e := eVal (Value.int .i64) (fun _ => rfl)) (xs := p1.Masks_) (j := i151) rfl rfl rfl rfl rfl sl22 ty3 rfl (fun w1 hw1 => rds_bor g21 w1 hw1) h280 (by rw [Nat.mul_one]) ?_
        refine ow_r rfl (dstOk_lt rfl) (ry_load1 rfl rfl ty3 (at_elV (fun w1 hw1 => rds_bor g21 w1 hw1) h280)) ?_
        refine ow_batch [.p, .p] rfl ?_
        refine ow_nil ?_
        refine x_qs ?_
        refine c_seq ?_
        refine c_reg ?_
        refine ow_batch [.fa 58 0 0 fa58_0] rfl ?_
        refine ow_r rfl (dstOk_lt rfl) (ry_box1 (off := 0) rfl rfl ty56 (boxIn (i := 0) rfl) rfl) ?_
        refine ow_batch [.p] rfl ?_
        obtain ⟨e281, h282, H⟩ := of_bind H
        refine ow_ixB rfl rfl rfl rfl rfl sl56 ty105 rfl g12 h282 (fun q285 c286 hd283 hA284 => ?_)
        obtain ⟨c287, c288, c289, rfl, g290, g291, g292⟩ := rdo_Timpl_Attr hd283
        obtain rfl : c287 = [vS e281.Name_] := g290
        obtain ⟨a293, c294, rfl⟩ := rd_sl1 g291
        obtain ⟨a295, c296, rfl⟩ := rd_sl1 g292
        refine ow_r rfl (dstOk_lt rfl) (ry_load (cs := [vS e281.Name_, .slice a293 e281.Cuts_.length c294, .slice a295 e281.Values_.length c296]) rfl rfl ty105 (at_bor bor hA284) rfl) ?_
        refine ow_alloc rfl rfl rfl rfl ty105 (fun _ => kp) (fun b297 => ?_)
        refine ow_storeC (off := 0) [vS e281.Name_, .slice a293 e281.Cuts_.length c294, .slice a295 e281.Values_.length c296] [_, _, _] (i := 2) rfl rfl rfl rfl rfl rfl ty105 rfl rfl (by intro u hu; simp only [List.mem_cons, List.not_mem_nil, or_false] at hu; rcases hu with rfl | rfl | rfl <;> rfl) rfl rfl rfl kp ?_
        refine ow_nil ?_
        refine x_qs ?_
        refine c_seq ?_
        refine c_seq ?_
        refine c_reg ?_
        refine ow_batch [.p] rfl ?_
        refine ow_r rfl (dstOk_lt rfl) (ry_box (off := 0) (ds := [vS e281.Name_, .slice a293 e281.Cuts_.length c294, .slice a295 e281.Values_.length c296]) rfl rfl ty105 (boxIn (i := 2) rfl) rfl rfl) ?_
        obtain ⟨y298, h299, H⟩ := of_bind H
        refine ow_q rfl rfl (dstOk_lt rfl) (qy_call rfl fn75 rfl (fun w1 hw1 => impl_FullMask_ok w1 (cs0 := [vS e281.Name_, .slice a293 e281.Cuts_.length c294, .slice a295 e281.Values_.length c296]) h299 (rdm_Timpl_Attr (x := e281) (c0 := [vS e281.Name_]) (c1 := [.slice a293 e281.Cuts_.length c294]) (c2 := [.slice a295 e281.Values_.length c296]) rfl (rds_bor g291 w1 hw1) (rds_bor g292 w1 hw1)))) (fun _ _ => trivial) ?_
        refine ow_batch [.p] rfl ?_
        refine ow_nil ?_
        refine x_qs ?_
        refine c_if rfl (fun hb => ?_) (fun hb => ?_)
        · have H := of_if_t hb H
          refine c_exit ?_
          refine x_qs_exit ?_
          refine x_qb_here ?_
          refine x_qs ?_
          refine c_reg ?_
          refine ow_batch [.p, .p] rfl ?_
          refine ow_nil ?_
          exact x_ql (RW.at (ihk1 (IntKind.i64.wrap (i151 + 1)) (l152) (a153) (c154) (F155) (⟨hz156, H⟩)) (fun _ h => St.sel [0, 1] rfl rfl h) ⟨rfl, rfl, rfl, rfl, rfl, trivial⟩)
        · have H := of_if_f hb H
          refine c_skip ?_
          refine x_qs ?_
          refine c_seq ?_
          refine c_reg ?_
          refine ow_blit0 (e := eStr) rfl rfl rfl rfl sl48 ty9 (fun _ => kp) (fun b300 => ?_)
          refine ow_batch [.p] rfl ?_
          refine ow_nil ?_
          refine x_qs ?_
          refine c_seq ?_
          refine c_seq ?_
          refine c_reg ?_
          refine ow_r rfl (dstOk_lt rfl) (ry_box (off := 0) (ds := [vS e281.Name_, .slice a293 e281.Cuts_.length c294, .slice a295 e281.Values_.length c296]) rfl rfl ty105 (boxIn (i := 2) rfl) rfl rfl) ?_
          obtain ⟨y301, h302, H⟩ := of_bind H
          refine ow_q rfl rfl (dstOk_lt rfl) (qy_call rfl fn76 rfl (fun w1 hw1 => impl_bins_ok w1 (cs0 := [vS e281.Name_, .slice a293 e281.Cuts_.length c294, .slice a295 e281.Values_.length c296]) h302 (rdm_Timpl_Attr (x := e281) (c0 := [vS e281.Name_]) (c1 := [.slice a293 e281.Cuts_.length c294]) (c2 := [.slice a295 e281.Values_.length c296]) rfl (rds_bor g291 w1 hw1) (rds_bor g292 w1 hw1)))) (fun _ _ => trivial) ?_
          refine ow_batch [.p] rfl ?_
          refine ow_nil ?_
          refine x_qs ?_
          refine c_block ?_
          refine CW.at (loopI5 (fun (i318 : Int) (l319 : List (List UInt8)) (a320 : Option Addr) (c321 : Nat) (F322 : List Nat) => St w [] [Res.box b24 58 [.slice a14 p0.Attrs_.length c15, .slice a16 p0.Classes_.length c17], Res.own (eList (eStr) 9) F155 l152 [.slice a153 l152.length c154], Res.box b297 105 [vS e281.Name_, .slice a293 e281.Cuts_.length c294, .slice a295 e281.Values_.length c296], Res.own (eList (eStr) 9) F322 l319 [.slice a320 l319.length c321]]) (fun (i318 : Int) (l319 : List (List UInt8)) (a320 : Option Addr) (c321 : Nat) (F322 : List Nat) => [(2, .pointer (some ⟨b24, 0, none⟩)), (5, .slice a153 l152.length c154), (7, .int .i64 e279), (8, .pointer (some ⟨b297, 0, none⟩)), (9, .slice a320 l319.length c321), (17, .slice a22 p1.Masks_.length c23), (18, .int .i64 (p1.Masks_.length : Int)), (19, .int .i64 i151), (35, .int .i64 y301), (36, .int .i64 i318)]) (fun kk => fun (i318 : Int) (l319 : List (List UInt8)) (a320 : Option Addr) (c321 : Nat) (F322 : List Nat) => a320.isNone = false ∧ impl_WayText_L2 y301 e279 e281 l152 (impl_WayText_L1 p1 p0 k1) i151 kk i318 l319 = some r) (fun _ _ _ _ _ H => ?_) (fun k2 ihk2 i318 l319 a320 c321 F322 ⟨hz323, H⟩ => ?_) Fuel (0) (([] : List (List UInt8))) ((some ⟨b300, 0, none⟩)) (0) ([b300]) (⟨rfl, H⟩)) (fun _ h => St.sel [0, 1, 2, 3] rfl rfl h) ⟨rfl, rfl, rfl, rfl, rfl, rfl, rfl, rfl, rfl, rfl,  trivial⟩
          · unfold impl_WayText_L2 at H
            exact absurd H (by simp)
          · unfold impl_WayText_L2 at H
            refine c_seq ?_
            refine c_reg ?_
            refine ow_batch [.p] rfl ?_
            refine ow_nil ?_
            refine x_qs ?_
            refine c_seq ?_
            refine c_if rfl (fun hb => ?_) (fun hb => ?_)
            · have H := of_if_t hb H
              refine c_skip ?_
              refine x_qs ?_
              refine c_seq ?_
              refine c_block ?_
              refine c_seq ?_
              refine c_reg ?_
              refine ow_batch [.p, .p] rfl ?_
              refine ow_nil ?_
              refine x_qs ?_
              refine c_seq ?_
              refine c_reg ?_
              refine ow_batch [.p, .p] rfl ?_
              obtain ⟨x341, h342, H⟩ := of_bind H
              refine ow_r rfl (dstOk_lt rfl) (ry_shr rfl rfl rfl h342) ?_
              refine ow_batch [.p, .p] rfl ?_
              refine ow_nil ?_
              refine x_qs ?_
              refine c_if rfl (fun hb => ?_) (fun hb => ?_)
              · have H := of_if_t hb H
                refine c_reg ?_
                refine ow_batch [.p] rfl ?_
                refine ow_r rfl (dstOk_lt rfl) (ry_box (off := 0) (ds := [vS e281.Name_, .slice a293 e281.Cuts_.length c294, .slice a295 e281.Values_.length c296]) rfl rfl ty105 (boxIn (i := 2) rfl) rfl rfl) ?_
                refine ow_batch [.p] rfl ?_
                obtain ⟨y343, h344, H⟩ := of_bind H
                refine ow_q rfl rfl (dstOk_lt rfl) (qy_call rfl fn77 rfl (fun w1 hw1 => impl_CellText_ok w1 (cs0 := [vS e281.Name_, .slice a293 e281.Cuts_.length c294, .slice a295 e281.Values_.length c296]) h344 (rdm_Timpl_Attr (x := e281) (c0 := [vS e281.Name_]) (c1 := [.slice a293 e281.Cuts_.length c294]) (c2 := [.slice a295 e281.Values_.length c296]) rfl (rds_bor g291 w1 hw1) (rds_bor g292 w1 hw1)) (rds_bor gT w1 hw1))) (fun _ _ => trivial) ?_
                refine ow_blit (val := vS) (h1 := fun _ => rfl) [y343] [(0, [vS y343])] rfl rfl rfl rfl rfl sl48 ty9 rfl rfl rfl ⟨rfl, rfl, Nat.le_of_ble_eq_true rfl,  trivial⟩ rfl rfl (fun _ => kp) (fun b345 => ?_)
                obtain ⟨l346, h347, H⟩ := of_bind H
                refine ow_appR (r := 3) (ys := ([y343] : List (List UInt8))) rfl rfl rfl rfl rfl rfl sl48 ty9 rfl rfl rfl (fun w1 hw1 => rds_own (e := eList (eStr) 9) (r := 4) rfl w1 hw1) h347 (fun _ _ _ => kp) (fun a348 c349 F350 => ?_)
                refine ow_fact rfl (fun w1 hw1 => own_nn (i := 3) hw1 rfl (app_ne h347)) (fun hz351 => ?_)
                refine ow_batch [.p] rfl ?_
                refine ow_nil ?_
                refine x_qb ?_
                refine x_qs ?_
                refine c_reg ?_
                refine ow_batch [.p, .p] rfl ?_
                refine ow_nil ?_
                exact x_ql (RW.at (ihk2 (IntKind.i64.wrap (i318 + 1)) (l346) (a348) (c349) (F350) (⟨hz351, H⟩)) (fun _ h => St.sel [0, 1, 2, 3] rfl rfl h) ⟨rfl, rfl, rfl, rfl, rfl, rfl, rfl, rfl, rfl, rfl, trivial⟩)
              · have H := of_if_f hb H
                refine c_skip ?_
                refine x_qb ?_
                refine x_qs ?_
                refine c_reg ?_
                refine ow_batch [.p, .p] rfl ?_
                refine ow_nil ?_
                exact x_ql (RW.at (ihk2 (IntKind.i64.wrap (i318 + 1)) (l319) (a320) (c321) (F322) (⟨hz323, H⟩)) (fun _ h => St.sel [0, 1, 2, 3] rfl rfl h) ⟨rfl, rfl, rfl, rfl, rfl, rfl, rfl, rfl, rfl, rfl, trivial⟩)
            · have H := of_if_f hb H
              refine c_exit ?_
              refine x_qs_exit ?_
              refine x_ql_exit ?_
              refine x_qb_here ?_
              refine x_qs ?_
              refine c_join4 (fun (l359 : List (List UInt8)) (a360 : Option Addr) (c361 : Nat) (F362 : List Nat) => St w [] [Res.box b24 58 [.slice a14 p0.Attrs_.length c15, .slice a16 p0.Classes_.length c17], Res.own (eList (eStr) 9) F155 l152 [.slice a153 l152.length c154], Res.box b297 105 [vS e281.Name_, .slice a293 e281.Cuts_.length c294, .slice a295 e281.Values_.length c296], Res.own (eList (eStr) 9) F362 l359 [.slice a360 l359.length c361]]) (fun (l359 : List (List UInt8)) (a360 : Option Addr) (c361 : Nat) (F362 : List Nat) => [(2, .pointer (some ⟨b24, 0, none⟩)), (5, .slice a153 l152.length c154), (8, .pointer (some ⟨b297, 0, none⟩)), (9, .slice a360 l359.length c361), (17, .slice a22 p1.Masks_.length c23), (18, .int .i64 (p1.Masks_.length : Int)), (19, .int .i64 i151)]) (fun (l359 : List (List UInt8)) (a360 : Option Addr) (c361 : Nat) (F362 : List Nat) => a360.isNone = false ∧ impl_WayText_J1 e281 l152 (impl_WayText_L1 p1 p0 k1) i151 l359 = some r) (fun l359 a360 c361 F362 ⟨hz363, H⟩ => ?_) (fun J1 => ?_)
              · unfold impl_WayText_J1 at H
                refine c_regHT 9 [(0, true), (1, true), (2, true), (3, true), (4, true), (5, false), (6, true), (7, true), (8, false)] (St w [] [Res.box b24 58 [.slice a14 p0.Attrs_.length c15, .slice a16 p0.Classes_.length c17], Res.own (eList (eStr) 9) F155 l152 [.slice a153 l152.length c154], Res.box b297 105 [vS e281.Name_, .slice a293 e281.Cuts_.length c294, .slice a295 e281.Values_.length c296], Res.own (eList (eStr) 9) F362 l359 [.slice a360 l359.length c361]]) mixed (by kernel_rfl) (panicOk_qb (panicOk_qs (panicOk_ql (panicOk_qb (panicOk_qs panicOk_body))))) (fun _ h => St.mask [true, true, true, true] rfl h) ?_
                refine ow_batch [.p, .fa 105 0 0 fa105_0] rfl ?_
                refine ow_rH rfl (dstOk_lt rfl) (ry_box1 (off := 0) rfl rfl ty9 (boxIn (i := 2) rfl) rfl) ?_
                obtain ⟨s373, h374, H⟩ := of_bind H
                refine ow_rH rfl (dstOk_lt rfl) (ry_sadd rfl rfl rfl h374) ?_
                refine ow_batch [.p] rfl ?_
                obtain ⟨s375, h376, H⟩ := of_bind H
                refine ow_q rfl rfl (dstOk_lt rfl) (qy_call rfl fn59 rfl (fun w1 hw1 => join_ok (T := 9) Tryd.lays156 Tryd.Builder_Extra_156 w1 h376 (rds_own (e := eList (eStr) 9) (r := 3) rfl w1 hw1))) (fun _ h => St.mask [true, true, true, true] rfl h) ?_
                obtain ⟨s377, h378, H⟩ := of_bind H
                refine ow_rH rfl (dstOk_lt rfl) (ry_sadd rfl rfl rfl h378) ?_
                obtain ⟨s379, h380, H⟩ := of_bind H
                refine ow_rH rfl (dstOk_lt rfl) (ry_sadd rfl rfl rfl h380) ?_
                refine ow_blit (val := vS) (h1 := fun _ => rfl) [s379] [(0, [vS s379])] rfl rfl rfl rfl rfl sl48 ty9 rfl rfl rfl ⟨rfl, rfl, Nat.le_of_ble_eq_true rfl,  trivial⟩ rfl rfl (fun _ => (fun _ h => St.mask [true, true, true, true] rfl h)) (fun b381 => ?_)
                refine ow_nilH ?_
                refine x_qt ?_
                obtain ⟨l382, h383, H⟩ := of_bind H
                refine ow_appR (r := 1) (ys := ([s379] : List (List UInt8))) rfl rfl rfl rfl rfl rfl sl48 ty9 rfl rfl rfl (fun w1 hw1 => rds_own (e := eList (eStr) 9) (r := 4) rfl w1 hw1) h383 (fun _ _ _ => kp) (fun a384 c385 F386 => ?_)
                refine ow_fact rfl (fun w1 hw1 => own_nn (i := 1) hw1 rfl (app_ne h383)) (fun hz387 => ?_)
                refine ow_batch [.p] rfl ?_
                refine ow_nil ?_
                refine x_qb ?_
                refine x_qs ?_
                refine c_reg ?_
                refine ow_batch [.p, .p] rfl ?_
                refine ow_nil ?_
                exact x_ql (RW.at (ihk1 (IntKind.i64.wrap (i151 + 1)) (l382) (a384) (c385) (F386) (⟨hz387, H⟩)) (fun _ h => St.sel [0, 1] rfl rfl h) ⟨rfl, rfl, rfl, rfl, rfl, trivial⟩)
              · refine c_seq ?_
                refine c_reg ?_
                refine ow_batch [.p, .p, .p] rfl ?_
                refine ow_nil ?_
                refine x_qs ?_
                refine c_if rfl (fun hb => ?_) (fun hb => ?_)
                · have H := of_if_t hb H
                  refine c_reg ?_
                  refine ow_batch [.p] rfl ?_
                  refine ow_blit (val := vS) (h1 := fun _ => rfl) [([63] : List UInt8)] [(0, [vS ([63] : List UInt8)])] rfl rfl rfl rfl rfl sl48 ty9 rfl rfl rfl ⟨rfl, rfl, Nat.le_of_ble_eq_true rfl,  trivial⟩ rfl rfl (fun _ => kp) (fun b388 => ?_)
                  obtain ⟨l389, h390, H⟩ := of_bind H
                  refine ow_appR (r := 3) (ys := ([([63] : List UInt8)] : List (List UInt8))) rfl rfl rfl rfl rfl rfl sl48 ty9 rfl rfl rfl (fun w1 hw1 => rds_own (e := eList (eStr) 9) (r := 4) rfl w1 hw1) h390 (fun _ _ _ => kp) (fun a391 c392 F393 => ?_)
                  refine ow_fact rfl (fun w1 hw1 => own_nn (i := 3) hw1 rfl (app_ne h390)) (fun hz394 => ?_)
                  refine ow_batch [.p] rfl ?_
                  refine ow_nil ?_
                  exact XW.at (J1 (l389) (a391) (c392) (F393) (⟨hz394, H⟩)) (fun _ h => St.sel [0, 1, 2, 3] rfl rfl h) ⟨rfl, rfl, rfl, rfl, rfl, rfl, rfl, trivial⟩
                · have H := of_if_f hb H
                  refine c_skip ?_
                  exact XW.at (J1 (l319) (a320) (c321) (F322) (⟨hz323, H⟩)) (fun _ h => St.sel [0, 1, 2, 3] rfl rfl h) ⟨rfl, rfl, rfl, rfl, rfl, rfl, rfl, trivial⟩
      · have H := of_if_f hb H
        refine c_exit ?_
        refine x_qs_exit ?_
        refine x_ql_exit ?_
        refine x_qb_here ?_
        refine x_qs ?_
        refine c_seq ?_
        refine c_seq ?_
        refine c_reg ?_
        refine ow_batch [.p, .lenS 48 9 sl48, .p] rfl ?_
        refine ow_nil ?_
        refine x_qs ?_
        refine c_if rfl (fun hb => ?_) (fun hb => ?_)
        · have H := of_if_t hb H
          refine c_seq ?_
          refine c_reg ?_
          refine ow_batch [.p] rfl ?_
          refine ow_nil ?_
          refine x_qs ?_
          refine c_ret ?_
          refine x_qs_ret ?_
          exact x_retR (rs := [.tmp 4]) (vs := [vS ([97, 110, 121] : List UInt8)]) rfl ⟨rfl, trivial⟩ (fun w' hw' => by
              obtain rfl := of_some H
              exact ⟨rfl, hw'.ext⟩)
        · have H := of_if_f hb H
          refine c_skip ?_
          refine x_qs ?_
          refine c_seq ?_
          refine c_reg ?_
          refine ow_batch [.p] rfl ?_
          obtain ⟨s395, h396, H⟩ := of_bind H
          refine ow_q rfl rfl (dstOk_lt rfl) (qy_call rfl fn59 rfl (fun w1 hw1 => join_ok (T := 9) Tryd.lays156 Tryd.Builder_Extra_156 w1 h396 (rds_own (e := eList (eStr) 9) (r := 1) rfl w1 hw1))) (fun _ _ => trivial) ?_
          refine ow_batch [.p] rfl ?_
          refine ow_nil ?_
          refine x_qs ?_
          refine c_ret ?_
          exact x_retR (rs := [.tmp 4]) (vs := [vS s395]) rfl ⟨rfl, trivial⟩ (fun w' hw' => by
              obtain rfl := of_some H
              exact ⟨rfl, hw'.ext⟩)

set_option maxHeartbeats 4000000 in
set_option maxRecDepth 100000 in
theorem laws_eqWay_ok (w : World) {p0 : Timpl_Way} {p1 : Timpl_Way} {cs0 : List Value} {cs1 : List Value} {r : Bool} (H : laws_eqWay p0 p1 = some r)  (g0 : (eTimpl_Way).rd w [] p0 cs0) (g1 : (eTimpl_Way).rd w [] p1 cs1) :
    Calls Tryd.prog 29 #[.agg cs0.toArray, .agg cs1.toArray] w (fun en w' => en = .returned (.bool r) ∧ Ext [] w w') := by
  obtain ⟨c10, c11, rfl, g12, g13⟩ := rdo_Timpl_Way g0
  obtain rfl : c10 = [.int .i64 p0.Leaf_] := g12
  obtain ⟨a14, c15, rfl⟩ := rd_sl1 g13
  obtain ⟨c16, c17, rfl, g18, g19⟩ := rdo_Timpl_Way g1
  obtain rfl : c16 = [.int .i64 p1.Leaf_] := g18
  obtain ⟨a20, c21, rfl⟩ := rd_sl1 g19
  unfold laws_eqWay at H
  refine f_enter (vs := [.agg #[.int .i64 p0.Leaf_, .slice a14 p0.Masks_.length c15], .agg #[.int .i64 p1.Leaf_, .slice a20 p1.Masks_.length c21]]) Tryd.func29 rfl Tryd.ntmps29 rfl (St.init w []) ?_
  refine c_seq ?_
  refine c_reg ?_
  refine ow_box (cs := [.int .i64 p0.Leaf_, .slice a14 p0.Masks_.length c15]) rfl rfl rfl rfl rfl rfl (fun _ => kp) (fun b22 => ?_)
  refine ow_box (cs := [.int .i64 p1.Leaf_, .slice a20 p1.Masks_.length c21]) rfl rfl rfl rfl rfl rfl (fun _ => kp) (fun b23 => ?_)
  refine ow_batch [.p] rfl ?_
  refine ow_nil ?_
  refine x_qs ?_
  refine c_seq ?_
  refine c_seq ?_
  refine c_reg ?_
  refine ow_batch [.fa 60 0 0 fa60_0] rfl ?_
  refine ow_r rfl (dstOk_lt rfl) (ry_box1 (off := 0) rfl rfl ty3 (boxIn (i := 0) rfl) rfl) ?_
  refine ow_batch [.fa 60 0 0 fa60_0] rfl ?_
  refine ow_r rfl (dstOk_lt rfl) (ry_box1 (off := 0) rfl rfl ty3 (boxIn (i := 1) rfl) rfl) ?_
  refine ow_batch [.p] rfl ?_
  refine ow_nil ?_
  refine x_qs ?_
  refine c_if rfl (fun hb => ?_) (fun hb => ?_)
  · have H := of_if_t hb H
    refine c_seq ?_
    refine c_reg ?_
    refine ow_batch [.p] rfl ?_
    refine ow_nil ?_
    refine x_qs ?_
    refine c_ret ?_
    refine x_qs_ret ?_
    exact x_retR (rs := [.tmp 4]) (vs := [.bool false]) rfl ⟨rfl, trivial⟩ (fun w' hw' => by
        obtain rfl := of_some H
        exact ⟨rfl, hw'.ext⟩)
  · have H := of_if_f hb H
    refine c_skip ?_
    refine x_qs ?_
    refine c_seq ?_
    refine c_seq ?_
    refine c_reg ?_
    refine ow_batch [.fa 60 1 1 fa60_1] rfl ?_
    refine ow_r rfl (dstOk_lt rfl) (ry_box1 (off := 1) rfl rfl ty22 (boxIn (i := 0) rfl) rfl) ?_
    refine ow_batch [.fa 60 1 1 fa60_1] rfl ?_
    refine ow_r rfl (dstOk_lt rfl) (ry_box1 (off := 1) rfl rfl ty22 (boxIn (i := 1) rfl) rfl) ?_
    obtain ⟨y24, h25, H⟩ := of_bind H
    refine ow_q rfl rfl (dstOk_lt rfl) (qy_call rfl fn11 rfl (fun w1 hw1 => laws_eqIntS_ok w1  h25 (rds_bor g13 w1 hw1) (rds_bor g19 w1 hw1))) (fun _ _ => trivial) ?_
    refine ow_batch [.p] rfl ?_
    refine ow_nil ?_
    refine x_qs ?_
    refine c_if rfl (fun hb => ?_) (fun hb => ?_)
    · have H := of_if_t hb H
      refine c_seq ?_
      refine c_reg ?_
      refine ow_batch [.p] rfl ?_
      refine ow_nil ?_
      refine x_qs ?_
      refine c_ret ?_
      refine x_qs_ret ?_
      exact x_retR (rs := [.tmp 4]) (vs := [.bool false]) rfl ⟨rfl, trivial⟩ (fun w' hw' => by
          obtain rfl := of_some H
          exact ⟨rfl, hw'.ext⟩)
    · have H := of_if_f hb H
      refine c_skip ?_
      refine x_qs ?_
      refine c_seq ?_
      refine c_reg ?_
      refine ow_batch [.p] rfl ?_
      refine ow_nil ?_
      refine x_qs ?_
      refine c_ret ?_
      exact x_retR (rs := [.tmp 4]) (vs := [.bool true]) rfl ⟨rfl, trivial⟩ (fun w' hw' => by
          obtain rfl := of_some H
          exact ⟨rfl, hw'.ext⟩)

set_option maxHeartbeats 4000000 in
set_option maxRecDepth 100000 in
theorem laws_FnExactWayText_ok (w : World) {p0 : Tlaws_Schema} {p1 : Tlaws_Way} {cs0 : List Value} {cs1 : List Value} {r : Bool} (H : laws_FnExactWayText p0 p1 = some r)  (g0 : (eTlaws_Schema).rd w [] p0 cs0) (g1 : (eTlaws_Way).rd w [] p1 cs1) (gT : (ePow10 Tryd.prog).rd w [] () []) :
    Calls Tryd.prog 6 #[.agg cs0.toArray, .agg cs1.toArray] w (fun en w' => en = .returned (.bool r) ∧ Ext [] w w') := by
  obtain ⟨c10, c11, rfl, g12, g13⟩ := rdo_Tlaws_Schema g0
  obtain ⟨a14, c15, rfl⟩ := rd_sl1 g12
  obtain ⟨a16, c17, rfl⟩ := rd_sl1 g13
  obtain ⟨c18, c19, rfl, g20, g21⟩ := rdo_Tlaws_Way g1
  obtain rfl : c18 = [.int .i64 p1.Leaf_] := g20
  obtain ⟨a22, c23, rfl⟩ := rd_sl1 g21
  unfold laws_FnExactWayText at H
  refine f_enter (vs := [.agg #[.slice a14 p0.Attrs_.length c15, .slice a16 p0.Classes_.length c17], .agg #[.int .i64 p1.Leaf_, .slice a22 p1.Masks_.length c23]]) Tryd.func6 rfl Tryd.ntmps6 rfl (St.init w []) ?_
  refine c_seq ?_
  refine c_reg ?_
  refine ow_box (cs := [.slice a14 p0.Attrs_.length c15, .slice a16 p0.Classes_.length c17]) rfl rfl rfl rfl rfl rfl (fun _ => kp) (fun b24 => ?_)
  refine ow_box (cs := [.int .i64 p1.Leaf_, .slice a22 p1.Masks_.length c23]) rfl rfl rfl rfl rfl rfl (fun _ => kp) (fun b25 => ?_)
  refine ow_batch [.p] rfl ?_
  refine ow_nil ?_
  refine x_qs ?_
  refine c_seq ?_
  refine c_reg ?_
  refine ow_batch [.p] rfl ?_
  refine ow_nil ?_
  refine x_qs ?_
  refine c_seq ?_
  refine c_reg ?_
  refine ow_r rfl (dstOk_lt rfl) (ry_box (off := 0) (ds := [.slice a14 p0.Attrs_.length c15, .slice a16 p0.Classes_.length c17]) rfl rfl ty50 (boxIn (i := 0) rfl) rfl rfl) ?_
  refine ow_batch [.p] rfl ?_
  obtain ⟨y26, h27, H⟩ := of_bind H
  refine ow_q rfl rfl (dstOk_lt rfl) (qy_call rfl fn22 rfl (fun w1 hw1 => laws_szSchema_ok w1 (cs0 := [.slice a14 p0.Attrs_.length c15, .slice a16 p0.Classes_.length c17]) h27 (rdm_Tlaws_Schema (x := p0) (c0 := [.slice a14 p0.Attrs_.length c15]) (c1 := [.slice a16 p0.Classes_.length c17]) (rds_bor g12 w1 hw1) (rds_bor g13 w1 hw1)))) (fun _ _ => trivial) ?_
  refine ow_batch [.p] rfl ?_
  refine ow_nil ?_
  refine x_qs ?_
  refine c_seq ?_
  refine c_seq ?_
  refine c_reg ?_
  refine ow_batch [.p, .p] rfl ?_
  refine ow_nil ?_
  refine x_qs ?_
  refine c_if rfl (fun hb => ?_) (fun hb => ?_)
  · have H := of_if_t hb H
    refine c_seq ?_
    refine c_reg ?_
    refine ow_batch [.p] rfl ?_
    refine ow_nil ?_
    refine x_qs ?_
    refine c_ret ?_
    refine x_qs_ret ?_
    exact x_retR (rs := [.tmp 4]) (vs := [.bool true]) rfl ⟨rfl, trivial⟩ (fun w' hw' => by
        obtain rfl := of_some H
        exact ⟨rfl, hw'.ext⟩)
  · have H := of_if_f hb H
    refine c_skip ?_
    refine x_qs ?_
    refine c_seq ?_
    refine c_reg ?_
    refine ow_r rfl (dstOk_lt rfl) (ry_box (off := 0) (ds := [.int .i64 p1.Leaf_, .slice a22 p1.Masks_.length c23]) rfl rfl ty52 (boxIn (i := 1) rfl) rfl rfl) ?_
    refine ow_batch [.p] rfl ?_
    obtain ⟨y28, h29, H⟩ := of_bind H
    refine ow_q rfl rfl (dstOk_lt rfl) (qy_call rfl fn23 rfl (fun w1 hw1 => laws_szWay_ok w1 (cs0 := [.int .i64 p1.Leaf_, .slice a22 p1.Masks_.length c23]) h29 (rdm_Tlaws_Way (x := p1) (c0 := [.int .i64 p1.Leaf_]) (c1 := [.slice a22 p1.Masks_.length c23]) rfl (rds_bor g21 w1 hw1)))) (fun _ _ => trivial) ?_
    refine ow_batch [.p] rfl ?_
    refine ow_nil ?_
    refine x_qs ?_
    refine c_seq ?_
    refine c_seq ?_
    refine c_reg ?_
    refine ow_batch [.p, .p] rfl ?_
    refine ow_nil ?_
    refine x_qs ?_
    refine c_if rfl (fun hb => ?_) (fun hb => ?_)
    · have H := of_if_t hb H
      refine c_seq ?_
      refine c_reg ?_
      refine ow_batch [.p] rfl ?_
      refine ow_nil ?_
      refine x_qs ?_
      refine c_ret ?_
      refine x_qs_ret ?_
      exact x_retR (rs := [.tmp 4]) (vs := [.bool true]) rfl ⟨rfl, trivial⟩ (fun w' hw' => by
          obtain rfl := of_some H
          exact ⟨rfl, hw'.ext⟩)
    · have H := of_if_f hb H
      refine c_skip ?_
      refine x_qs ?_
      refine c_seq ?_
      refine c_regHT 3 [(0, true), (2, true), (1, false)] (St w [] [Res.box b24 50 [.slice a14 p0.Attrs_.length c15, .slice a16 p0.Classes_.length c17], Res.box b25 52 [.int .i64 p1.Leaf_, .slice a22 p1.Masks_.length c23]]) mixed (by kernel_rfl) (panicOk_qs panicOk_body) (fun _ h => St.mask [true, true] rfl h) ?_
      refine ow_rH rfl (dstOk_lt rfl) (ry_box (off := 0) (ds := [.slice a14 p0.Attrs_.length c15, .slice a16 p0.Classes_.length c17]) rfl rfl ty50 (boxIn (i := 0) rfl) rfl rfl) ?_
      refine ow_rH rfl (dstOk_lt rfl) (ry_box (off := 0) (ds := [.int .i64 p1.Leaf_, .slice a22 p1.Masks_.length c23]) rfl rfl ty52 (boxIn (i := 1) rfl) rfl rfl) ?_
      obtain ⟨y43, h44, H⟩ := of_bind H
      refine ow_callS rfl fn25 rfl rfl rfl rfl (fun w1 hw1 => laws_toSchema_ok w1 (cs0 := [.slice a14 p0.Attrs_.length c15, .slice a16 p0.Classes_.length c17]) h44 (hw1.carve [] rfl rfl) (rdm_Tlaws_Schema (x := p0) (c0 := [.slice a14 p0.Attrs_.length c15]) (c1 := [.slice a16 p0.Classes_.length c17]) (rds_bor g12 w1 hw1) (rds_bor g13 w1 hw1))) (fun v45 w1 w2 hw1 hR47 => ?_)
      obtain ⟨a48, n49, c50, F51, a52, n53, c54, F55, rfl, hS46⟩ := hR47
      obtain rfl := own_nS (i := 0) hS46 rfl
      obtain rfl := own_nS (i := 1) hS46 rfl
      refine ⟨St w [] [_, _, _, _], hw1.comp [] rfl rfl hS46, (fun _ h => St.mask [true, true] rfl h), ?_⟩
      refine ow_nilH ?_
      refine x_qt ?_
      obtain ⟨y56, h57, H⟩ := of_bind H
      refine ow_callS rfl fn26 rfl rfl rfl rfl (fun w1 hw1 => laws_toWay_ok w1 (cs0 := [.int .i64 p1.Leaf_, .slice a22 p1.Masks_.length c23]) h57 (hw1.carve [] rfl rfl) (rdm_Tlaws_Way (x := p1) (c0 := [.int .i64 p1.Leaf_]) (c1 := [.slice a22 p1.Masks_.length c23]) rfl (rds_bor g21 w1 hw1))) (fun v58 w1 w2 hw1 hR60 => ?_)
      obtain ⟨a61, n62, c63, F64, rfl, hS59⟩ := hR60
      obtain rfl := own_nS (i := 0) hS59 rfl
      refine ⟨St w [] [_, _, _, _, _], hw1.comp [] rfl rfl hS59, fun _ _ => trivial, ?_⟩
      obtain ⟨y65, h66, H⟩ := of_bind H
      refine ow_q rfl rfl (dstOk_lt rfl) (qy_call rfl fn24 rfl (fun w1 hw1 => spec_WayText_ok w1 (cs0 := [.slice a48 y43.Attrs_.length c50, .slice a52 y43.Classes_.length c54]) (cs1 := [.int .i64 y56.Leaf_, .slice a61 y56.Masks_.length c63]) h66 (rdm_Timpl_Schema (x := y43) (c0 := [.slice a48 y43.Attrs_.length c50]) (c1 := [.slice a52 y43.Classes_.length c54]) (rds_own (e := eList (eTimpl_Attr) 105) (r := 2) rfl w1 hw1) (rds_own (e := eList (eStr) 9) (r := 3) rfl w1 hw1)) (rdm_Timpl_Way (x := y56) (c0 := [.int .i64 y56.Leaf_]) (c1 := [.slice a61 y56.Masks_.length c63]) rfl (rds_own (e := eList (eVal (Value.int .i64) (fun _ => rfl)) 3) (r := 4) rfl w1 hw1)))) (fun _ _ => trivial) ?_
      refine ow_batch [.p] rfl ?_
      refine ow_nil ?_
      refine x_qs ?_
      refine c_seq ?_
      refine c_reg ?_
      refine ow_r rfl (dstOk_lt rfl) (ry_box (off := 0) (ds := [.slice a14 p0.Attrs_.length c15, .slice a16 p0.Classes_.length c17]) rfl rfl ty50 (boxIn (i := 0) rfl) rfl rfl) ?_
      obtain ⟨y67, h68, H⟩ := of_bind H
      refine ow_callS rfl fn25 rfl rfl rfl rfl (fun w1 hw1 => laws_toSchema_ok w1 (cs0 := [.slice a14 p0.Attrs_.length c15, .slice a16 p0.Classes_.length c17]) h68 (hw1.carve [] rfl rfl) (rdm_Tlaws_Schema (x := p0) (c0 := [.slice a14 p0.Attrs_.length c15]) (c1 := [.slice a16 p0.Classes_.length c17]) (rds_bor g12 w1 hw1) (rds_bor g13 w1 hw1))) (fun v69 w1 w2 hw1 hR71 => ?_)
      obtain ⟨a72, n73, c74, F75, a76, n77, c78, F79, rfl, hS70⟩ := hR71
      obtain rfl := own_nS (i := 0) hS70 rfl
      obtain rfl := own_nS (i := 1) hS70 rfl
      refine ⟨St w [] [_, _, _, _, _, _, _], hw1.comp [] rfl rfl hS70, fun _ _ => trivial, ?_⟩
      refine ow_alloc rfl rfl rfl rfl ty58 (fun _ => kp) (fun b80 => ?_)
      refine ow_storeC (off := 0) [.slice a72 y67.Attrs_.length c74, .slice a76 y67.Classes_.length c78] [_, _] (i := 7) rfl rfl rfl rfl rfl rfl ty58 rfl rfl (by intro u hu; simp only [List.mem_cons, List.not_mem_nil, or_false] at hu; rcases hu with rfl | rfl <;> rfl) rfl rfl rfl kp ?_
      refine ow_nil ?_
      refine x_qs ?_
      refine c_seq ?_
      refine c_reg ?_
      refine ow_r rfl (dstOk_lt rfl) (ry_box (off := 0) (ds := [.int .i64 p1.Leaf_, .slice a22 p1.Masks_.length c23]) rfl rfl ty52 (boxIn (i := 1) rfl) rfl rfl) ?_
      obtain ⟨y81, h82, H⟩ := of_bind H
      refine ow_callS rfl fn26 rfl rfl rfl rfl (fun w1 hw1 => laws_toWay_ok w1 (cs0 := [.int .i64 p1.Leaf_, .slice a22 p1.Masks_.length c23]) h82 (hw1.carve [] rfl rfl) (rdm_Tlaws_Way (x := p1) (c0 := [.int .i64 p1.Leaf_]) (c1 := [.slice a22 p1.Masks_.length c23]) rfl (rds_bor g21 w1 hw1))) (fun v83 w1 w2 hw1 hR85 => ?_)
      obtain ⟨a86, n87, c88, F89, rfl, hS84⟩ := hR85
      obtain rfl := own_nS (i := 0) hS84 rfl
      refine ⟨St w [] [_, _, _, _, _, _, _, _, _], hw1.comp [] rfl rfl hS84, fun _ _ => trivial, ?_⟩
      refine ow_alloc rfl rfl rfl rfl ty60 (fun _ => kp) (fun b90 => ?_)
      refine ow_storeC (off := 0) [.int .i64 y81.Leaf_, .slice a86 y81.Masks_.length c88] [_, _] (i := 9) rfl rfl rfl rfl rfl rfl ty60 rfl rfl (by intro u hu; simp only [List.mem_cons, List.not_mem_nil, or_false] at hu; rcases hu with rfl | rfl <;> rfl) rfl rfl rfl kp ?_
      refine ow_nil ?_
      refine x_qs ?_
      refine c_seq ?_
      refine c_reg ?_
      refine ow_r rfl (dstOk_lt rfl) (ry_box (off := 0) (ds := [.slice a72 y67.Attrs_.length c74, .slice a76 y67.Classes_.length c78]) rfl rfl ty58 (boxIn (i := 7) rfl) rfl rfl) ?_
      refine ow_r rfl (dstOk_lt rfl) (ry_box (off := 0) (ds := [.int .i64 y81.Leaf_, .slice a86 y81.Masks_.length c88]) rfl rfl ty60 (boxIn (i := 9) rfl) rfl rfl) ?_
      obtain ⟨y91, h92, H⟩ := of_bind H
      refine ow_q rfl rfl (dstOk_lt rfl) (qy_call rfl fn27 rfl (fun w1 hw1 => impl_WayText_ok w1 (cs0 := [.slice a72 y67.Attrs_.length c74, .slice a76 y67.Classes_.length c78]) (cs1 := [.int .i64 y81.Leaf_, .slice a86 y81.Masks_.length c88]) h92 (rdm_Timpl_Schema (x := y67) (c0 := [.slice a72 y67.Attrs_.length c74]) (c1 := [.slice a76 y67.Classes_.length c78]) (rds_own (e := eList (eTimpl_Attr) 105) (r := 5) rfl w1 hw1) (rds_own (e := eList (eStr) 9) (r := 6) rfl w1 hw1)) (rdm_Timpl_Way (x := y81) (c0 := [.int .i64 y81.Leaf_]) (c1 := [.slice a86 y81.Masks_.length c88]) rfl (rds_own (e := eList (eVal (Value.int .i64) (fun _ => rfl)) 3) (r := 8) rfl w1 hw1)) (rds_bor gT w1 hw1))) (fun _ _ => trivial) ?_
      refine ow_batch [.p] rfl ?_
      refine ow_nil ?_
      refine x_qs ?_
      refine c_seq ?_
      refine c_seq ?_
      refine c_reg ?_
      refine ow_batch [.p, .p, .p] rfl ?_
      refine ow_nil ?_
      refine x_qs ?_
      refine c_if rfl (fun hb => ?_) (fun hb => ?_)
      · have H := of_if_t hb H
        refine c_seq ?_
        refine c_reg ?_
        refine ow_batch [.p] rfl ?_
        refine ow_nil ?_
        refine x_qs ?_
        refine c_ret ?_
        refine x_qs_ret ?_
        exact x_retR (rs := [.tmp 4]) (vs := [.bool false]) rfl ⟨rfl, trivial⟩ (fun w' hw' => by
            obtain rfl := of_some H
            exact ⟨rfl, hw'.ext⟩)
      · have H := of_if_f hb H
        refine c_skip ?_
        refine x_qs ?_
        refine c_seq ?_
        refine c_seq ?_
        refine c_regHT 3 [(0, true), (1, true), (2, false)] (St w [] [Res.box b24 50 [.slice a14 p0.Attrs_.length c15, .slice a16 p0.Classes_.length c17], Res.box b25 52 [.int .i64 p1.Leaf_, .slice a22 p1.Masks_.length c23], Res.own (eList (eTimpl_Attr) 105) F51 y43.Attrs_ [.slice a48 y43.Attrs_.length c50], Res.own (eList (eStr) 9) F55 y43.Classes_ [.slice a52 y43.Classes_.length c54], Res.own (eList (eVal (Value.int .i64) (fun _ => rfl)) 3) F64 y56.Masks_ [.slice a61 y56.Masks_.length c63], Res.own (eList (eTimpl_Attr) 105) F75 y67.Attrs_ [.slice a72 y67.Attrs_.length c74], Res.own (eList (eStr) 9) F79 y67.Classes_ [.slice a76 y67.Classes_.length c78], Res.box b80 58 [.slice a72 y67.Attrs_.length c74, .slice a76 y67.Classes_.length c78], Res.own (eList (eVal (Value.int .i64) (fun _ => rfl)) 3) F89 y81.Masks_ [.slice a86 y81.Masks_.length c88], Res.box b90 60 [.int .i64 y81.Leaf_, .slice a86 y81.Masks_.length c88]]) mixed (by kernel_rfl) (panicOk_qs (panicOk_qs panicOk_body)) (fun _ h => St.mask [true, true, true, true, true, true, true, true, true, true] rfl h) ?_
        refine ow_rH rfl (dstOk_lt rfl) (ry_box (off := 0) (ds := [.slice a72 y67.Attrs_.length c74, .slice a76 y67.Classes_.length c78]) rfl rfl ty58 (boxIn (i := 7) rfl) rfl rfl) ?_
        refine ow_rH rfl (dstOk_lt rfl) (ry_box (off := 0) (ds := [.slice a14 p0.Attrs_.length c15, .slice a16 p0.Classes_.length c17]) rfl rfl ty50 (boxIn (i := 0) rfl) rfl rfl) ?_
        obtain ⟨y106, h107, H⟩ := of_bind H
        refine ow_callS rfl fn25 rfl rfl rfl rfl (fun w1 hw1 => laws_toSchema_ok w1 (cs0 := [.slice a14 p0.Attrs_.length c15, .slice a16 p0.Classes_.length c17]) h107 (hw1.carve [] rfl rfl) (rdm_Tlaws_Schema (x := p0) (c0 := [.slice a14 p0.Attrs_.length c15]) (c1 := [.slice a16 p0.Classes_.length c17]) (rds_bor g12 w1 hw1) (rds_bor g13 w1 hw1))) (fun v108 w1 w2 hw1 hR110 => ?_)
        obtain ⟨a111, n112, c113, F114, a115, n116, c117, F118, rfl, hS109⟩ := hR110
        obtain rfl := own_nS (i := 0) hS109 rfl
        obtain rfl := own_nS (i := 1) hS109 rfl
        refine ⟨St w [] [_, _, _, _, _, _, _, _, _, _, _, _], hw1.comp [] rfl rfl hS109, (fun _ h => St.mask [true, true, true, true, true, true, true, true, true, true] rfl h), ?_⟩
        refine ow_nilH ?_
        refine x_qt ?_
        obtain ⟨y119, h120, H⟩ := of_bind H
        refine ow_q rfl rfl (dstOk_lt rfl) (qy_call rfl fn28 rfl (fun w1 hw1 => laws_eqSchema_ok w1 (cs0 := [.slice a72 y67.Attrs_.length c74, .slice a76 y67.Classes_.length c78]) (cs1 := [.slice a111 y106.Attrs_.length c113, .slice a115 y106.Classes_.length c117]) h120 (rdm_Timpl_Schema (x := y67) (c0 := [.slice a72 y67.Attrs_.length c74]) (c1 := [.slice a76 y67.Classes_.length c78]) (rds_own (e := eList (eTimpl_Attr) 105) (r := 5) rfl w1 hw1) (rds_own (e := eList (eStr) 9) (r := 6) rfl w1 hw1)) (rdm_Timpl_Schema (x := y106) (c0 := [.slice a111 y106.Attrs_.length c113]) (c1 := [.slice a115 y106.Classes_.length c117]) (rds_own (e := eList (eTimpl_Attr) 105) (r := 10) rfl w1 hw1) (rds_own (e := eList (eStr) 9) (r := 11) rfl w1 hw1)))) (fun _ _ => trivial) ?_
        refine ow_batch [.p] rfl ?_
        refine ow_nil ?_
        refine x_qs ?_
        refine c_if rfl (fun hb => ?_) (fun hb => ?_)
        · have H := of_if_t hb H
          refine c_seq ?_
          refine c_reg ?_
          refine ow_batch [.p] rfl ?_
          refine ow_nil ?_
          refine x_qs ?_
          refine c_ret ?_
          refine x_qs_ret ?_
          exact x_retR (rs := [.tmp 4]) (vs := [.bool false]) rfl ⟨rfl, trivial⟩ (fun w' hw' => by
              obtain rfl := of_some H
              exact ⟨rfl, hw'.ext⟩)
        · have H := of_if_f hb H
          refine c_skip ?_
          refine x_qs ?_
          refine c_seq ?_
          refine c_seq ?_
          refine c_regHT 3 [(0, true), (1, true), (2, false)] (St w [] [Res.box b24 50 [.slice a14 p0.Attrs_.length c15, .slice a16 p0.Classes_.length c17], Res.box b25 52 [.int .i64 p1.Leaf_, .slice a22 p1.Masks_.length c23], Res.own (eList (eTimpl_Attr) 105) F51 y43.Attrs_ [.slice a48 y43.Attrs_.length c50], Res.own (eList (eStr) 9) F55 y43.Classes_ [.slice a52 y43.Classes_.length c54], Res.own (eList (eVal (Value.int .i64) (fun _ => rfl)) 3) F64 y56.Masks_ [.slice a61 y56.Masks_.length c63], Res.own (eList (eTimpl_Attr) 105) F75 y67.Attrs_ [.slice a72 y67.Attrs_.length c74], Res.own (eList (eStr) 9) F79 y67.Classes_ [.slice a76 y67.Classes_.length c78], Res.box b80 58 [.slice a72 y67.Attrs_.length c74, .slice a76 y67.Classes_.length c78], Res.own (eList (eVal (Value.int .i64) (fun _ => rfl)) 3) F89 y81.Masks_ [.slice a86 y81.Masks_.length c88], Res.box b90 60 [.int .i64 y81.Leaf_, .slice a86 y81.Masks_.length c88], Res.own (eList (eTimpl_Attr) 105) F114 y106.Attrs_ [.slice a111 y106.Attrs_.length c113], Res.own (eList (eStr) 9) F118 y106.Classes_ [.slice a115 y106.Classes_.length c117]]) mixed (by kernel_rfl) (panicOk_qs (panicOk_qs panicOk_body)) (fun _ h => St.mask [true, true, true, true, true, true, true, true, true, true, true, true] rfl h) ?_
          refine ow_rH rfl (dstOk_lt rfl) (ry_box (off := 0) (ds := [.int .i64 y81.Leaf_, .slice a86 y81.Masks_.length c88]) rfl rfl ty60 (boxIn (i := 9) rfl) rfl rfl) ?_
          refine ow_rH rfl (dstOk_lt rfl) (ry_box (off := 0) (ds := [.int .i64 p1.Leaf_, .slice a22 p1.Masks_.length c23]) rfl rfl ty52 (boxIn (i := 1) rfl) rfl rfl) ?_
          obtain ⟨y130, h131, H⟩ := of_bind H
          refine ow_callS rfl fn26 rfl rfl rfl rfl (fun w1 hw1 => laws_toWay_ok w1 (cs0 := [.int .i64 p1.Leaf_, .slice a22 p1.Masks_.length c23]) h131 (hw1.carve [] rfl rfl) (rdm_Tlaws_Way (x := p1) (c0 := [.int .i64 p1.Leaf_]) (c1 := [.slice a22 p1.Masks_.length c23]) rfl (rds_bor g21 w1 hw1))) (fun v132 w1 w2 hw1 hR134 => ?_)
          obtain ⟨a135, n136, c137, F138, rfl, hS133⟩ := hR134
          obtain rfl := own_nS (i := 0) hS133 rfl
          refine ⟨St w [] [_, _, _, _, _, _, _, _, _, _, _, _, _], hw1.comp [] rfl rfl hS133, (fun _ h => St.mask [true, true, true, true, true, true, true, true, true, true, true, true] rfl h), ?_⟩
          refine ow_nilH ?_
          refine x_qt ?_
          obtain ⟨y139, h140, H⟩ := of_bind H
          refine ow_q rfl rfl (dstOk_lt rfl) (qy_call rfl fn29 rfl (fun w1 hw1 => laws_eqWay_ok w1 (cs0 := [.int .i64 y81.Leaf_, .slice a86 y81.Masks_.length c88]) (cs1 := [.int .i64 y130.Leaf_, .slice a135 y130.Masks_.length c137]) h140 (rdm_Timpl_Way (x := y81) (c0 := [.int .i64 y81.Leaf_]) (c1 := [.slice a86 y81.Masks_.length c88]) rfl (rds_own (e := eList (eVal (Value.int .i64) (fun _ => rfl)) 3) (r := 8) rfl w1 hw1)) (rdm_Timpl_Way (x := y130) (c0 := [.int .i64 y130.Leaf_]) (c1 := [.slice a135 y130.Masks_.length c137]) rfl (rds_own (e := eList (eVal (Value.int .i64) (fun _ => rfl)) 3) (r := 12) rfl w1 hw1)))) (fun _ _ => trivial) ?_
          refine ow_batch [.p] rfl ?_
          refine ow_nil ?_
          refine x_qs ?_
          refine c_if rfl (fun hb => ?_) (fun hb => ?_)
          · have H := of_if_t hb H
            refine c_seq ?_
            refine c_reg ?_
            refine ow_batch [.p] rfl ?_
            refine ow_nil ?_
            refine x_qs ?_
            refine c_ret ?_
            refine x_qs_ret ?_
            exact x_retR (rs := [.tmp 4]) (vs := [.bool false]) rfl ⟨rfl, trivial⟩ (fun w' hw' => by
                obtain rfl := of_some H
                exact ⟨rfl, hw'.ext⟩)
          · have H := of_if_f hb H
            refine c_skip ?_
            refine x_qs ?_
            refine c_seq ?_
            refine c_reg ?_
            refine ow_batch [.p] rfl ?_
            refine ow_nil ?_
            refine x_qs ?_
            refine c_ret ?_
            exact x_retR (rs := [.tmp 4]) (vs := [.bool true]) rfl ⟨rfl, trivial⟩ (fun w' hw' => by
                obtain rfl := of_some H
                exact ⟨rfl, hw'.ext⟩)

end Go.Vk
