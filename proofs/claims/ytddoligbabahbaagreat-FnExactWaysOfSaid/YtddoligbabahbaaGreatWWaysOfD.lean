/- The code does what the functions of data say. Printed by program. -/
import Derived.Test.YtddoligbabahbaaGreatWWaysOfC
namespace Go.Vk
open Go.Proofs Go.RowKit
set_option maxHeartbeats 4000000 in
set_option maxRecDepth 100000 in
theorem impl_WaysOf_ok (w : World) {M0 : List Nat} {p0 : Timpl_Schema} {p1 : Timpl_Tree} {cs0 : List Value} {cs1 : List Value} {r : List Timpl_Way} (H : impl_WaysOf p0 p1 = some r) (HS : St w M0 [] w) (g0 : (eTimpl_Schema).rd w M0 p0 cs0) (g1 : (eTimpl_Tree).rd w M0 p1 cs1) :
    Calls Tryz.prog 13 #[.agg cs0.toArray, .agg cs1.toArray] w (fun en w' => ∃ v, en = .returned v ∧ ∃ (a0 : Option Addr), ∃ (n0 : Nat), ∃ (c0 : Nat), ∃ (F0 : List Nat), v = .slice a0 n0 c0 ∧ St w M0 [Res.own (eList (eTimpl_Way) 111) F0 r [.slice a0 n0 c0]] w') := by
  obtain ⟨c10, c11, rfl, g12, g13⟩ := rdo_Timpl_Schema g0
  obtain ⟨a14, c15, rfl⟩ := rd_sl1 g12
  obtain ⟨a16, c17, rfl⟩ := rd_sl1 g13
  obtain ⟨c18, c19, rfl, g20, g21⟩ := rdo_Timpl_Tree g1
  obtain ⟨a22, c23, rfl⟩ := rd_sl1 g20
  obtain rfl : c19 = [.int .i64 p1.Seen_] := g21
  unfold impl_WaysOf at H
  refine f_enter (vs := [.agg #[.slice a14 p0.Attrs_.length c15, .slice a16 p0.Classes_.length c17], .agg #[.slice a22 p1.Nodes_.length c23, .int .i64 p1.Seen_]]) Tryz.func13 rfl Tryz.ntmps13 rfl (HS) ?_
  refine c_seq ?_
  refine c_reg ?_
  refine ow_box (cs := [.slice a14 p0.Attrs_.length c15, .slice a16 p0.Classes_.length c17]) rfl rfl rfl rfl rfl rfl (fun _ => kp) (fun b24 => ?_)
  refine ow_box (cs := [.slice a22 p1.Nodes_.length c23, .int .i64 p1.Seen_]) rfl rfl rfl rfl rfl rfl (fun _ => kp) (fun b25 => ?_)
  refine ow_batch [.p] rfl ?_
  refine ow_nil ?_
  refine x_qs ?_
  refine c_seq ?_
  refine c_seq ?_
  refine c_reg ?_
  refine ow_r rfl (dstOk_lt rfl) (ry_box (off := 0) (ds := [.slice a14 p0.Attrs_.length c15, .slice a16 p0.Classes_.length c17]) rfl rfl ty35 (boxIn (i := 0) rfl) rfl rfl) ?_
  refine ow_r rfl (dstOk_lt rfl) (ry_box (off := 0) (ds := [.slice a22 p1.Nodes_.length c23, .int .i64 p1.Seen_]) rfl rfl ty39 (boxIn (i := 1) rfl) rfl rfl) ?_
  obtain ⟨y26, h27, H⟩ := of_bind H
  refine ow_q rfl rfl (dstOk_lt rfl) (qy_call rfl fn59 rfl (fun w1 hw1 => impl_TreeOk_ok w1 (cs0 := [.slice a14 p0.Attrs_.length c15, .slice a16 p0.Classes_.length c17]) (cs1 := [.slice a22 p1.Nodes_.length c23, .int .i64 p1.Seen_]) h27 (rdm_Timpl_Schema (x := p0) (c0 := [.slice a14 p0.Attrs_.length c15]) (c1 := [.slice a16 p0.Classes_.length c17]) (rds_bor g12 w1 hw1) (rds_bor g13 w1 hw1)) (rdm_Timpl_Tree (x := p1) (c0 := [.slice a22 p1.Nodes_.length c23]) (c1 := [.int .i64 p1.Seen_]) (rds_bor g20 w1 hw1) rfl))) (fun _ _ => trivial) ?_
  refine ow_batch [.p] rfl ?_
  refine ow_nil ?_
  refine x_qs ?_
  refine c_if rfl (fun hb => ?_) (fun hb => ?_)
  · have H := of_if_t hb H
    refine c_seq ?_
    refine c_reg ?_
    refine ow_batch [.p] rfl ?_
    refine ow_nil ?_
    refine x_qs ?_
    refine c_ret ?_
    refine x_qs_ret ?_
    refine xw_st (fun _ h => St.pushNil (e := eTimpl_Way) (T := 111) h) ?_
    exact x_retR (rs := [.tmp 4]) (vs := [.slice none 0 0]) rfl ⟨rfl, trivial⟩ (fun w' hw' => by
        obtain rfl := of_some H
        exact ⟨_, rfl, none, 0, 0, [], rfl, hw'.sel [2] rfl rfl⟩)
  · have H := of_if_f hb H
    refine c_skip ?_
    refine x_qs ?_
    refine c_seq ?_
    refine c_reg ?_
    refine ow_blit0 (e := eTimpl_Way) rfl rfl rfl rfl sl31 ty111 (fun _ => kp) (fun b28 => ?_)
    refine ow_batch [.p] rfl ?_
    refine ow_nil ?_
    refine x_qs ?_
    refine c_seq ?_
    refine c_seq ?_
    refine c_reg ?_
    refine ow_r rfl (dstOk_lt rfl) (ry_box (off := 0) (ds := [.slice a22 p1.Nodes_.length c23, .int .i64 p1.Seen_]) rfl rfl ty39 (boxIn (i := 1) rfl) rfl rfl) ?_
    obtain ⟨y29, h30, H⟩ := of_bind H
    refine ow_callS rfl fn60 rfl rfl rfl rfl (fun w1 hw1 => impl_Leaves_ok w1 (cs0 := [.slice a22 p1.Nodes_.length c23, .int .i64 p1.Seen_]) h30 (hw1.carve [] rfl rfl) (rdm_Timpl_Tree (x := p1) (c0 := [.slice a22 p1.Nodes_.length c23]) (c1 := [.int .i64 p1.Seen_]) (rds_bor g20 w1 hw1) rfl)) (fun v31 w1 w2 hw1 hR33 => ?_)
    obtain ⟨a34, n35, c36, F37, rfl, hS32⟩ := hR33
    obtain rfl := own_nS (i := 0) hS32 rfl
    refine ⟨St w M0 [_, _, _, _], hw1.comp [] rfl rfl hS32, fun _ _ => trivial, ?_⟩
    refine ow_batch [.lenS 59 3 sl59, .p] rfl ?_
    refine ow_nil ?_
    refine x_qs ?_
    refine c_block ?_
    refine CW.at (loopI5 (fun (i763 : Int) (l764 : List Timpl_Way) (a765 : Option Addr) (c766 : Nat) (F767 : List Nat) => St w M0 [Res.own (eList (eVal (Value.int .i64) (fun _ => rfl)) 3) F37 y29 [.slice a34 y29.length c36], Res.box b24 35 [.slice a14 p0.Attrs_.length c15, .slice a16 p0.Classes_.length c17], Res.box b25 39 [.slice a22 p1.Nodes_.length c23, .int .i64 p1.Seen_], Res.own (eList (eTimpl_Way) 111) F767 l764 [.slice a765 l764.length c766]]) (fun (i763 : Int) (l764 : List Timpl_Way) (a765 : Option Addr) (c766 : Nat) (F767 : List Nat) => [(2, .pointer (some ⟨b24, 0, none⟩)), (3, .pointer (some ⟨b25, 0, none⟩)), (5, .slice a765 l764.length c766), (19, .slice a34 y29.length c36), (20, .int .i64 (y29.length : Int)), (21, .int .i64 i763)]) (fun kk => fun (i763 : Int) (l764 : List Timpl_Way) (a765 : Option Addr) (c766 : Nat) (F767 : List Nat) => impl_WaysOf_L1 y29 p0 p1 kk i763 l764 = some r) (fun _ _ _ _ _ H => ?_) (fun k1 ihk1 i763 l764 a765 c766 F767 H => ?_) Fuel (0) (([] : List Timpl_Way)) ((some ⟨b28, 0, none⟩)) (0) ([b28]) (H)) (fun _ h => St.sel [3, 0, 1, 2] rfl rfl h) ⟨rfl, rfl, rfl, rfl, rfl, rfl,  trivial⟩
    · unfold impl_WaysOf_L1 at H
      exact absurd H (by simp)
    · unfold impl_WaysOf_L1 at H
      refine c_seq ?_
      refine c_reg ?_
      refine ow_batch [.p] rfl ?_
      refine ow_nil ?_
      refine x_qs ?_
      refine c_seq ?_
      refine c_if rfl (fun hb => ?_) (fun hb => ?_)
      · have H := of_if_t hb H
        refine c_skip ?_
        refine x_qs ?_
        refine c_seq ?_
        refine c_block ?_
        refine c_seq ?_
        refine c_reg ?_
        obtain ⟨e1493, h1494, H⟩ := of_bind H
        refine ow_ixE (e := eVal (Value.int .i64) (fun _ => rfl)) (xs := y29) (j := i763) rfl rfl rfl rfl rfl sl59 ty3 rfl (fun w1 hw1 => rds_own (e := eList (eVal (Value.int .i64) (fun _ => rfl)) 3) (r := 0) rfl w1 hw1) h1494 (by rw [Nat.mul_one]) ?_
        refine ow_r rfl (dstOk_lt rfl) (ry_load1 rfl rfl ty3 (at_elV (fun w1 hw1 => rds_own (e := eList (eVal (Value.int .i64) (fun _ => rfl)) 3) (r := 0) rfl w1 hw1) h1494)) ?_
        refine ow_batch [.p] rfl ?_
        refine ow_nil ?_
        refine x_qs ?_
        refine c_seq ?_
        refine c_reg ?_
        refine ow_batch [.p] rfl ?_
        refine ow_r rfl (dstOk_lt rfl) (ry_build2 [(0, [.int .i64 e1493])] [.int .i64 e1493, .slice none 0 0] rfl rfl ty111 fs111 rfl ⟨rfl, rfl, Nat.le_of_ble_eq_true rfl,  trivial⟩ rfl) ?_
        refine ow_alloc rfl rfl rfl rfl ty111 (fun _ => kp) (fun b1495 => ?_)
        refine ow_storeC (off := 0) [.int .i64 e1493, .slice none 0 0] [_, _] (i := 4) rfl rfl rfl rfl rfl rfl ty111 rfl rfl (by intro u hu; simp only [List.mem_cons, List.not_mem_nil, or_false] at hu; rcases hu with rfl | rfl <;> rfl) rfl rfl rfl kp ?_
        refine ow_nil ?_
        refine x_qs ?_
        refine c_seq ?_
        refine c_seq ?_
        refine c_reg ?_
        refine ow_batch [.fa 35 0 0 fa35_0] rfl ?_
        refine ow_r rfl (dstOk_lt rfl) (ry_box1 (off := 0) rfl rfl ty33 (boxIn (i := 1) rfl) rfl) ?_
        refine ow_batch [.lenS 33 114 sl33, .p] rfl ?_
        refine ow_nil ?_
        refine x_qs ?_
        refine c_block ?_
        refine CW.weak ?_ (fun _ h => St.pushNil (e := eVal (Value.int .i64) (fun _ => rfl)) (T := 3) h)
        refine CW.at (loopI5 (fun (i1532 : Int) (l1533 : List Int) (a1534 : Option Addr) (c1535 : Nat) (F1536 : List Nat) => St w M0 [Res.own (eList (eVal (Value.int .i64) (fun _ => rfl)) 3) F37 y29 [.slice a34 y29.length c36], Res.box b24 35 [.slice a14 p0.Attrs_.length c15, .slice a16 p0.Classes_.length c17], Res.box b25 39 [.slice a22 p1.Nodes_.length c23, .int .i64 p1.Seen_], Res.own (eList (eTimpl_Way) 111) F767 l764 [.slice a765 l764.length c766], Res.box b1495 111 [.int .i64 e1493, .slice a1534 l1533.length c1535], Res.own (eList (eVal (Value.int .i64) (fun _ => rfl)) 3) F1536 l1533 [.slice a1534 l1533.length c1535]]) (fun (i1532 : Int) (l1533 : List Int) (a1534 : Option Addr) (c1535 : Nat) (F1536 : List Nat) => [(2, .pointer (some ⟨b24, 0, none⟩)), (3, .pointer (some ⟨b25, 0, none⟩)), (5, .slice a765 l764.length c766), (7, .int .i64 e1493), (8, .pointer (some ⟨b1495, 0, none⟩)), (19, .slice a34 y29.length c36), (20, .int .i64 (y29.length : Int)), (21, .int .i64 i763), (28, .slice a14 p0.Attrs_.length c15), (29, .int .i64 (p0.Attrs_.length : Int)), (30, .int .i64 i1532)]) (fun kk => fun (i1532 : Int) (l1533 : List Int) (a1534 : Option Addr) (c1535 : Nat) (F1536 : List Nat) => impl_WaysOf_L2 p0 p1 l764 e1493 (impl_WaysOf_L1 y29 p0 p1 k1) i763 kk i1532 l1533 = some r) (fun _ _ _ _ _ H => ?_) (fun k2 ihk2 i1532 l1533 a1534 c1535 F1536 H => ?_) Fuel (0) (([] : List Int)) (none) (0) ([]) (H)) (fun _ h => St.sel [0, 1, 2, 3, 4, 5] rfl rfl h) ⟨rfl, rfl, rfl, rfl, rfl, rfl, rfl, rfl, rfl, rfl, rfl,  trivial⟩
        · unfold impl_WaysOf_L2 at H
          exact absurd H (by simp)
        · unfold impl_WaysOf_L2 at H
          refine c_seq ?_
          refine c_reg ?_
          refine ow_batch [.p] rfl ?_
          refine ow_nil ?_
          refine x_qs ?_
          refine c_seq ?_
          refine c_if rfl (fun hb => ?_) (fun hb => ?_)
          · have H := of_if_t hb H
            refine c_skip ?_
            refine x_qs ?_
            refine c_seq ?_
            refine c_block ?_
            refine c_seq ?_
            refine c_reg ?_
            obtain ⟨e1571, h1572, H⟩ := of_bind H
            refine ow_ixB rfl rfl rfl rfl rfl sl33 ty114 rfl g12 h1572 (fun q1575 c1576 hd1573 hA1574 => ?_)
            obtain ⟨c1577, c1578, c1579, rfl, g1580, g1581, g1582⟩ := rdo_Timpl_Attr hd1573
            obtain rfl : c1577 = [vS e1571.Name_] := g1580
            obtain ⟨a1583, c1584, rfl⟩ := rd_sl1 g1581
            obtain ⟨a1585, c1586, rfl⟩ := rd_sl1 g1582
            refine ow_r rfl (dstOk_lt rfl) (ry_load (cs := [vS e1571.Name_, .slice a1583 e1571.Cuts_.length c1584, .slice a1585 e1571.Values_.length c1586]) rfl rfl ty114 (at_bor bor hA1574) rfl) ?_
            refine ow_alloc rfl rfl rfl rfl ty114 (fun _ => kp) (fun b1587 => ?_)
            refine ow_storeC (off := 0) [vS e1571.Name_, .slice a1583 e1571.Cuts_.length c1584, .slice a1585 e1571.Values_.length c1586] [_, _, _] (i := 6) rfl rfl rfl rfl rfl rfl ty114 rfl rfl (by intro u hu; simp only [List.mem_cons, List.not_mem_nil, or_false] at hu; rcases hu with rfl | rfl | rfl <;> rfl) rfl rfl rfl kp ?_
            refine ow_nil ?_
            refine x_qs ?_
            refine c_regHT 5 [(0, true), (1, true), (2, true), (3, false), (4, false)] (St w M0 [Res.own (eList (eVal (Value.int .i64) (fun _ => rfl)) 3) F37 y29 [.slice a34 y29.length c36], Res.box b24 35 [.slice a14 p0.Attrs_.length c15, .slice a16 p0.Classes_.length c17], Res.box b25 39 [.slice a22 p1.Nodes_.length c23, .int .i64 p1.Seen_], Res.own (eList (eTimpl_Way) 111) F767 l764 [.slice a765 l764.length c766], Res.box b1495 111 [.int .i64 e1493, .slice a1534 l1533.length c1535], Res.own (eList (eVal (Value.int .i64) (fun _ => rfl)) 3) F1536 l1533 [.slice a1534 l1533.length c1535], Res.box b1587 114 [vS e1571.Name_, .slice a1583 e1571.Cuts_.length c1584, .slice a1585 e1571.Values_.length c1586]]) mixed (by kernel_rfl) (panicOk_qb (panicOk_qs (panicOk_ql (panicOk_qb (panicOk_qs (panicOk_qb (panicOk_qs (panicOk_ql (panicOk_qb (panicOk_qs panicOk_body)))))))))) (fun _ h => St.mask [true, true, true, true, true, true, true] rfl h) ?_
            refine ow_batch [.fa 111 1 1 fa111_1] rfl ?_
            refine ow_rH rfl (dstOk_lt rfl) (ry_box1 (off := 1) rfl rfl ty59 (boxIn (i := 4) rfl) rfl) ?_
            refine ow_rH rfl (dstOk_lt rfl) (ry_box (off := 0) (ds := [vS e1571.Name_, .slice a1583 e1571.Cuts_.length c1584, .slice a1585 e1571.Values_.length c1586]) rfl rfl ty114 (boxIn (i := 6) rfl) rfl rfl) ?_
            obtain ⟨y1591, h1592, H⟩ := of_bind H
            refine ow_q rfl rfl (dstOk_lt rfl) (qy_call rfl fn61 rfl (fun w1 hw1 => impl_FullMask_ok w1 (cs0 := [vS e1571.Name_, .slice a1583 e1571.Cuts_.length c1584, .slice a1585 e1571.Values_.length c1586]) h1592 (rdm_Timpl_Attr (x := e1571) (c0 := [vS e1571.Name_]) (c1 := [.slice a1583 e1571.Cuts_.length c1584]) (c2 := [.slice a1585 e1571.Values_.length c1586]) rfl (rds_bor g1581 w1 hw1) (rds_bor g1582 w1 hw1)))) (fun _ h => St.mask [true, true, true, true, true, true, true] rfl h) ?_
            refine ow_blit (val := Value.int .i64) (h1 := fun _ => rfl) [y1591] [(0, [.int .i64 y1591])] rfl rfl rfl rfl rfl sl59 ty3 rfl rfl rfl ⟨rfl, rfl, Nat.le_of_ble_eq_true rfl,  trivial⟩ rfl rfl (fun _ => (fun _ h => St.mask [true, true, true, true, true, true, true] rfl h)) (fun b1593 => ?_)
            refine ow_nilH ?_
            refine x_qt ?_
            obtain ⟨l1594, h1595, H⟩ := of_bind H
            refine ow_appR (r := 5) (ys := ([y1591] : List Int)) rfl rfl rfl rfl rfl rfl sl59 ty3 rfl rfl rfl (fun w1 hw1 => rds_own (e := eList (eVal (Value.int .i64) (fun _ => rfl)) 3) (r := 7) rfl w1 hw1) h1595 (fun _ _ _ => kp) (fun a1596 c1597 F1598 => ?_)
            refine ow_fact rfl (fun w1 hw1 => own_nn (i := 5) hw1 rfl (app_ne h1595)) (fun hz1599 => ?_)
            refine ow_batch [.fa 111 1 1 fa111_1] rfl ?_
            refine ow_storeC (off := 1) [.slice a1596 l1594.length c1597] [_, _] (i := 4) rfl rfl rfl rfl rfl rfl ty59 rfl rfl (by intro u hu; simp only [List.mem_cons, List.not_mem_nil, or_false] at hu; rcases hu with rfl <;> rfl) rfl rfl rfl kp ?_
            refine ow_nil ?_
            refine x_qb ?_
            refine x_qs ?_
            refine c_reg ?_
            refine ow_batch [.p, .p] rfl ?_
            refine ow_nil ?_
            exact x_ql (RW.at (ihk2 (IntKind.i64.wrap (i1532 + 1)) (l1594) (a1596) (c1597) (F1598) (H)) (fun _ h => St.sel [0, 1, 2, 3, 4, 5] rfl rfl h) ⟨rfl, rfl, rfl, rfl, rfl, rfl, rfl, rfl, rfl, rfl, rfl, trivial⟩)
          · have H := of_if_f hb H
            refine c_exit ?_
            refine x_qs_exit ?_
            refine x_ql_exit ?_
            refine x_qb_here ?_
            refine x_qs ?_
            refine c_seq ?_
            refine c_seq ?_
            refine c_reg ?_
            refine ow_batch [.p, .p] rfl ?_
            refine ow_nil ?_
            refine x_qs ?_
            refine c_block ?_
            refine CW.at (loopI2 (fun (i1802 : Int) (l1803 : List Int) => St w M0 [Res.own (eList (eVal (Value.int .i64) (fun _ => rfl)) 3) F37 y29 [.slice a34 y29.length c36], Res.box b24 35 [.slice a14 p0.Attrs_.length c15, .slice a16 p0.Classes_.length c17], Res.box b25 39 [.slice a22 p1.Nodes_.length c23, .int .i64 p1.Seen_], Res.own (eList (eTimpl_Way) 111) F767 l764 [.slice a765 l764.length c766], Res.box b1495 111 [.int .i64 e1493, .slice a1534 l1533.length c1535], Res.own (eList (eVal (Value.int .i64) (fun _ => rfl)) 3) F1536 l1803 [.slice a1534 l1533.length c1535]]) (fun (i1802 : Int) (l1803 : List Int) => [(2, .pointer (some ⟨b24, 0, none⟩)), (3, .pointer (some ⟨b25, 0, none⟩)), (5, .slice a765 l764.length c766), (8, .pointer (some ⟨b1495, 0, none⟩)), (11, .int .i64 i1802), (19, .slice a34 y29.length c36), (20, .int .i64 (y29.length : Int)), (21, .int .i64 i763)]) (fun kk => fun (i1802 : Int) (l1803 : List Int) => impl_WaysOf_L3 p1 p0 l764 e1493 (impl_WaysOf_L1 y29 p0 p1 k1) i763 kk i1802 l1803 = some r) (fun _ _ H => ?_) (fun k3 ihk3 i1802 l1803 H => ?_) Fuel (e1493) (l1533) (H)) (fun _ h => St.sel [0, 1, 2, 3, 4, 5] rfl rfl h) ⟨rfl, rfl, rfl, rfl, rfl, rfl, rfl, rfl,  trivial⟩
            · unfold impl_WaysOf_L3 at H
              exact absurd H (by simp)
            · unfold impl_WaysOf_L3 at H
              refine c_seq ?_
              refine c_seq ?_
              refine c_reg ?_
              refine ow_batch [.p, .p] rfl ?_
              refine ow_nil ?_
              refine x_qs ?_
              refine c_if rfl (fun hb => ?_) (fun hb => ?_)
              · have H := of_if_t hb H
                refine c_skip ?_
                refine x_qs ?_
                refine c_seq ?_
                refine c_block ?_
                refine c_seq ?_
                refine c_regHT 11 [(0, true), (1, true), (2, true), (3, true), (4, true), (5, true), (6, true), (7, true), (8, true), (9, true), (10, false)] (St w M0 [Res.own (eList (eVal (Value.int .i64) (fun _ => rfl)) 3) F37 y29 [.slice a34 y29.length c36], Res.box b24 35 [.slice a14 p0.Attrs_.length c15, .slice a16 p0.Classes_.length c17], Res.box b25 39 [.slice a22 p1.Nodes_.length c23, .int .i64 p1.Seen_], Res.own (eList (eTimpl_Way) 111) F767 l764 [.slice a765 l764.length c766], Res.box b1495 111 [.int .i64 e1493, .slice a1534 l1533.length c1535], Res.own (eList (eVal (Value.int .i64) (fun _ => rfl)) 3) F1536 l1803 [.slice a1534 l1533.length c1535]]) mixed (by kernel_rfl) (panicOk_qs (panicOk_qb (panicOk_qs (panicOk_ql (panicOk_qb (panicOk_qs (panicOk_qb (panicOk_qs (panicOk_ql (panicOk_qb (panicOk_qs panicOk_body))))))))))) (fun _ h => St.mask [true, true, true, true, true, true] rfl h) ?_
                refine ow_batch [.fa 39 0 0 fa39_0] rfl ?_
                refine ow_rH rfl (dstOk_lt rfl) (ry_box1 (off := 0) rfl rfl ty37 (boxIn (i := 2) rfl) rfl) ?_
                refine ow_batch [.fa 39 0 0 fa39_0] rfl ?_
                refine ow_rH rfl (dstOk_lt rfl) (ry_box1 (off := 0) rfl rfl ty37 (boxIn (i := 2) rfl) rfl) ?_
                refine ow_batch [.p] rfl ?_
                obtain ⟨e2083, h2084, H⟩ := of_bind H
                refine ow_ixB rfl rfl rfl rfl rfl sl37 ty118 rfl g20 h2084 (fun q2087 c2088 hd2085 hA2086 => ?_)
                obtain ⟨c2089, c2090, c2091, c2092, c2093, c2094, c2095, c2096, c2097, c2098, rfl, g2099, g2100, g2101, g2102, g2103, g2104, g2105, g2106, g2107, g2108⟩ := rdo_Timpl_Node hd2085
                obtain rfl : c2089 = [.bool e2083.Leaf_] := g2099
                obtain rfl : c2090 = [.int .i64 e2083.Fork_.Attr_, .int .i64 e2083.Fork_.At_] := g2100
                obtain ⟨a2109, c2110, rfl⟩ := rd_sl1 g2101
                obtain rfl : c2092 = [.int .i64 e2083.Miss_] := g2102
                obtain ⟨c2111, c2112, rfl, g2113, g2114⟩ := rdo_Timpl_Stats g2103
                obtain ⟨a2115, c2116, rfl⟩ := rd_sl1 g2113
                obtain ⟨a2117, c2118, rfl⟩ := rd_sl1 g2114
                obtain rfl : c2094 = [.int .i64 e2083.Since_] := g2104
                obtain ⟨a2119, c2120, rfl⟩ := rd_sl1 g2105
                obtain rfl : c2096 = [.int .i64 e2083.Depth_] := g2106
                obtain rfl : c2097 = [.int .i64 e2083.Up_] := g2107
                obtain rfl : c2098 = [.int .i64 e2083.Born_] := g2108
                refine ow_batch [.fa 118 8 10 fa118_8] rfl ?_
                refine ow_rH rfl (dstOk_lt rfl) (ry_load1 rfl rfl ty3 (at_bor (fun _ h => h.ext) (at_K hA2086 10 1))) ?_
                obtain ⟨e2121, h2122, H⟩ := of_bind H
                refine ow_ixB rfl rfl rfl rfl rfl sl37 ty118 rfl g20 h2122 (fun q2125 c2126 hd2123 hA2124 => ?_)
                obtain ⟨c2127, c2128, c2129, c2130, c2131, c2132, c2133, c2134, c2135, c2136, rfl, g2137, g2138, g2139, g2140, g2141, g2142, g2143, g2144, g2145, g2146⟩ := rdo_Timpl_Node hd2123
                obtain rfl : c2127 = [.bool e2121.Leaf_] := g2137
                obtain rfl : c2128 = [.int .i64 e2121.Fork_.Attr_, .int .i64 e2121.Fork_.At_] := g2138
                obtain ⟨a2147, c2148, rfl⟩ := rd_sl1 g2139
                obtain rfl : c2130 = [.int .i64 e2121.Miss_] := g2140
                obtain ⟨c2149, c2150, rfl, g2151, g2152⟩ := rdo_Timpl_Stats g2141
                obtain ⟨a2153, c2154, rfl⟩ := rd_sl1 g2151
                obtain ⟨a2155, c2156, rfl⟩ := rd_sl1 g2152
                obtain rfl : c2132 = [.int .i64 e2121.Since_] := g2142
                obtain ⟨a2157, c2158, rfl⟩ := rd_sl1 g2143
                obtain rfl : c2134 = [.int .i64 e2121.Depth_] := g2144
                obtain rfl : c2135 = [.int .i64 e2121.Up_] := g2145
                obtain rfl : c2136 = [.int .i64 e2121.Born_] := g2146
                refine ow_rH rfl (dstOk_lt rfl) (ry_load (cs := [.bool e2121.Leaf_, .int .i64 e2121.Fork_.Attr_, .int .i64 e2121.Fork_.At_, .slice a2147 e2121.Kids_.length c2148, .int .i64 e2121.Miss_, .slice a2153 e2121.Stats_.Totals_.length c2154, .slice a2155 e2121.Stats_.Cells_.length c2156, .int .i64 e2121.Since_, .slice a2157 e2121.Attrs_.length c2158, .int .i64 e2121.Depth_, .int .i64 e2121.Up_, .int .i64 e2121.Born_]) rfl rfl ty118 (at_bor (fun _ h => h.ext) hA2124) rfl) ?_
                refine ow_alloc rfl rfl rfl rfl ty118 (fun _ => (fun _ h => St.mask [true, true, true, true, true, true] rfl h)) (fun b2159 => ?_)
                refine ow_nilH ?_
                refine x_qt ?_
                refine ow_storeC (off := 0) [.bool e2121.Leaf_, .int .i64 e2121.Fork_.Attr_, .int .i64 e2121.Fork_.At_, .slice a2147 e2121.Kids_.length c2148, .int .i64 e2121.Miss_, .slice a2153 e2121.Stats_.Totals_.length c2154, .slice a2155 e2121.Stats_.Cells_.length c2156, .int .i64 e2121.Since_, .slice a2157 e2121.Attrs_.length c2158, .int .i64 e2121.Depth_, .int .i64 e2121.Up_, .int .i64 e2121.Born_] [_, _, _, _, _, _, _, _, _, _, _, _] (i := 6) rfl rfl rfl rfl rfl rfl ty118 rfl rfl (by intro u hu; simp only [List.mem_cons, List.not_mem_nil, or_false] at hu; rcases hu with rfl | rfl | rfl | rfl | rfl | rfl | rfl | rfl | rfl | rfl | rfl | rfl <;> rfl) rfl rfl rfl kp ?_
                refine ow_nil ?_
                refine x_qs ?_
                refine c_regT 16 mixed (by kernel_rfl) ?_
                refine ow_batch [.fa 111 1 1 fa111_1] rfl ?_
                refine ow_r rfl (dstOk_lt rfl) (ry_box1 (off := 1) rfl rfl ty59 (boxIn (i := 4) rfl) rfl) ?_
                refine ow_batch [.fa 118 1 1 fa118_1, .fa 116 0 0 fa116_0] rfl ?_
                refine ow_r rfl (dstOk_lt rfl) (ry_box1 (off := 1) rfl rfl ty3 (boxIn (i := 6) rfl) rfl) ?_
                obtain ⟨e2160, h2161, H⟩ := of_bind H
                refine ow_ixE (e := eVal (Value.int .i64) (fun _ => rfl)) (xs := l1803) (j := e2121.Fork_.Attr_) rfl rfl rfl rfl rfl sl59 ty3 rfl (fun w1 hw1 => rds_own (e := eList (eVal (Value.int .i64) (fun _ => rfl)) 3) (r := 5) rfl w1 hw1) h2161 (by rw [Nat.mul_one]) ?_
                refine ow_r rfl (dstOk_lt rfl) (ry_load1 rfl rfl ty3 (at_elV (fun w1 hw1 => rds_own (e := eList (eVal (Value.int .i64) (fun _ => rfl)) 3) (r := 5) rfl w1 hw1) h2161)) ?_
                refine ow_r rfl (dstOk_lt rfl) (ry_box (off := 0) (ds := [.slice a14 p0.Attrs_.length c15, .slice a16 p0.Classes_.length c17]) rfl rfl ty35 (boxIn (i := 1) rfl) rfl rfl) ?_
                refine ow_r rfl (dstOk_lt rfl) (ry_box (off := 0) (ds := [.bool e2121.Leaf_, .int .i64 e2121.Fork_.Attr_, .int .i64 e2121.Fork_.At_, .slice a2147 e2121.Kids_.length c2148, .int .i64 e2121.Miss_, .slice a2153 e2121.Stats_.Totals_.length c2154, .slice a2155 e2121.Stats_.Cells_.length c2156, .int .i64 e2121.Since_, .slice a2157 e2121.Attrs_.length c2158, .int .i64 e2121.Depth_, .int .i64 e2121.Up_, .int .i64 e2121.Born_]) rfl rfl ty118 (boxIn (i := 6) rfl) rfl rfl) ?_
                refine ow_batch [.fa 118 2 3 fa118_2] rfl ?_
                refine ow_r rfl (dstOk_lt rfl) (ry_box1 (off := 3) rfl rfl ty59 (boxIn (i := 6) rfl) rfl) ?_
                refine ow_batch [.p] rfl ?_
                obtain ⟨y2162, h2163, H⟩ := of_bind H
                refine ow_q rfl rfl (dstOk_lt rfl) (qy_call rfl fn63 rfl (fun w1 hw1 => lib_slices_Index___int_int__ok w1  h2163 (rds_bor g2139 w1 hw1))) (fun _ _ => trivial) ?_
                obtain ⟨y2164, h2165, H⟩ := of_bind H
                refine ow_q rfl rfl (dstOk_lt rfl) (qy_call rfl fn62 rfl (fun w1 hw1 => impl_branchMask_ok w1 (cs0 := [.slice a14 p0.Attrs_.length c15, .slice a16 p0.Classes_.length c17]) (cs1 := [.bool e2121.Leaf_, .int .i64 e2121.Fork_.Attr_, .int .i64 e2121.Fork_.At_, .slice a2147 e2121.Kids_.length c2148, .int .i64 e2121.Miss_, .slice a2153 e2121.Stats_.Totals_.length c2154, .slice a2155 e2121.Stats_.Cells_.length c2156, .int .i64 e2121.Since_, .slice a2157 e2121.Attrs_.length c2158, .int .i64 e2121.Depth_, .int .i64 e2121.Up_, .int .i64 e2121.Born_]) h2165 (rdm_Timpl_Schema (x := p0) (c0 := [.slice a14 p0.Attrs_.length c15]) (c1 := [.slice a16 p0.Classes_.length c17]) (rds_bor g12 w1 hw1) (rds_bor g13 w1 hw1)) (rdm_Timpl_Node (x := e2121) (c0 := [.bool e2121.Leaf_]) (c1 := [.int .i64 e2121.Fork_.Attr_, .int .i64 e2121.Fork_.At_]) (c2 := [.slice a2147 e2121.Kids_.length c2148]) (c3 := [.int .i64 e2121.Miss_]) (c4 := [.slice a2153 e2121.Stats_.Totals_.length c2154, .slice a2155 e2121.Stats_.Cells_.length c2156]) (c5 := [.int .i64 e2121.Since_]) (c6 := [.slice a2157 e2121.Attrs_.length c2158]) (c7 := [.int .i64 e2121.Depth_]) (c8 := [.int .i64 e2121.Up_]) (c9 := [.int .i64 e2121.Born_]) rfl rfl (rds_bor g2139 w1 hw1) rfl (rdm_Timpl_Stats (x := e2121.Stats_) (c0 := [.slice a2153 e2121.Stats_.Totals_.length c2154]) (c1 := [.slice a2155 e2121.Stats_.Cells_.length c2156]) (rds_bor g2151 w1 hw1) (rds_bor g2152 w1 hw1)) rfl (rds_bor g2143 w1 hw1) rfl rfl rfl))) (fun _ _ => trivial) ?_
                refine ow_batch [.p] rfl ?_
                obtain ⟨e2166, h2167, H⟩ := of_bind H
                refine ow_ixE (e := eVal (Value.int .i64) (fun _ => rfl)) (xs := l1803) (j := e2121.Fork_.Attr_) rfl rfl rfl rfl rfl sl59 ty3 rfl (fun w1 hw1 => rds_own (e := eList (eVal (Value.int .i64) (fun _ => rfl)) 3) (r := 5) rfl w1 hw1) h2167 (by rw [Nat.mul_one]) ?_
                refine ow_nilQ ?_
                refine ow_storeV (i := 5) (j := e2121.Fork_.Attr_) rfl rfl rfl rfl rfl rfl ty3 rfl h2167 (fun _ => rfl) kp ?_
                refine ow_nil ?_
                refine x_qb ?_
                refine x_qs ?_
                refine c_reg ?_
                refine ow_batch [.fa 39 0 0 fa39_0] rfl ?_
                refine ow_r rfl (dstOk_lt rfl) (ry_box1 (off := 0) rfl rfl ty37 (boxIn (i := 2) rfl) rfl) ?_
                refine ow_batch [.p] rfl ?_
                obtain ⟨e2168, h2169, H⟩ := of_bind H
                refine ow_ixB rfl rfl rfl rfl rfl sl37 ty118 rfl g20 h2169 (fun q2172 c2173 hd2170 hA2171 => ?_)
                obtain ⟨c2174, c2175, c2176, c2177, c2178, c2179, c2180, c2181, c2182, c2183, rfl, g2184, g2185, g2186, g2187, g2188, g2189, g2190, g2191, g2192, g2193⟩ := rdo_Timpl_Node hd2170
                obtain rfl : c2174 = [.bool e2168.Leaf_] := g2184
                obtain rfl : c2175 = [.int .i64 e2168.Fork_.Attr_, .int .i64 e2168.Fork_.At_] := g2185
                obtain ⟨a2194, c2195, rfl⟩ := rd_sl1 g2186
                obtain rfl : c2177 = [.int .i64 e2168.Miss_] := g2187
                obtain ⟨c2196, c2197, rfl, g2198, g2199⟩ := rdo_Timpl_Stats g2188
                obtain ⟨a2200, c2201, rfl⟩ := rd_sl1 g2198
                obtain ⟨a2202, c2203, rfl⟩ := rd_sl1 g2199
                obtain rfl : c2179 = [.int .i64 e2168.Since_] := g2189
                obtain ⟨a2204, c2205, rfl⟩ := rd_sl1 g2190
                obtain rfl : c2181 = [.int .i64 e2168.Depth_] := g2191
                obtain rfl : c2182 = [.int .i64 e2168.Up_] := g2192
                obtain rfl : c2183 = [.int .i64 e2168.Born_] := g2193
                refine ow_batch [.fa 118 8 10 fa118_8] rfl ?_
                refine ow_r rfl (dstOk_lt rfl) (ry_load1 rfl rfl ty3 (at_bor bor (at_K hA2171 10 1))) ?_
                refine ow_batch [.p] rfl ?_
                refine ow_nil ?_
                exact x_ql (RW.at (ihk3 (e2168.Up_) ((l1803.set e2121.Fork_.Attr_.toNat (ibits .and .i64 e2160 y2164))) (H)) (fun _ h => St.sel [0, 1, 2, 3, 4, 5] rfl rfl h) ⟨rfl, rfl, rfl, rfl, rfl, rfl, rfl, rfl, trivial⟩)
              · have H := of_if_f hb H
                refine c_exit ?_
                refine x_qs_exit ?_
                refine x_ql_exit ?_
                refine x_qb_here ?_
                refine x_qs ?_
                refine c_reg ?_
                refine ow_batch [.p] rfl ?_
                refine ow_r rfl (dstOk_lt rfl) (ry_box (off := 0) (ds := [.int .i64 e1493, .slice a1534 l1533.length c1535]) rfl rfl ty111 (boxIn (i := 4) rfl) rfl rfl) ?_
                refine ow_ex rfl (fun w1 hw1 => fus_Timpl_Way (x0 := e1493) [5] hw1 rfl rfl) (fun F2207 => ?_)
                refine ow_st (C' := St w M0 [_, _, _, _, _, _, _]) rfl (fun _ h => h) ?_
                refine ow_bslice [(0, [.int .i64 e1493, .slice a1534 l1533.length c1535])] rfl rfl rfl rfl rfl sl31 ty111 rfl rfl ⟨rfl, rfl, Nat.le_of_ble_eq_true rfl,  trivial⟩ [.int .i64 e1493, .slice a1534 l1533.length c1535] rfl (fun _ => kp) (fun b2206 => ?_)
                refine ow_st rfl (fun _ h => lit1 (p := 7) (q := 6) h rfl rfl rfl) ?_
                obtain ⟨l2208, h2209, H⟩ := of_bind H
                refine ow_appM (r := 3) (j := 8) rfl rfl rfl rfl rfl rfl sl31 ty111 rfl rfl rfl rfl rfl rfl rfl h2209 (fun _ _ _ => kp) (fun a2210 c2211 F2212 => ?_)
                refine ow_batch [.p] rfl ?_
                refine ow_nil ?_
                refine x_qb ?_
                refine x_qs ?_
                refine CW.weak (C' := St w M0 [_, _, _, _, _]) ?_ (fun _ h => St.sel [0, 1, 2, 4, 9] rfl rfl h)
                refine c_reg ?_
                refine ow_batch [.p, .p] rfl ?_
                refine ow_nil ?_
                exact x_ql (RW.at (ihk1 (IntKind.i64.wrap (i763 + 1)) (l2208) (a2210) (c2211) (F2212) (H)) (fun _ h => St.sel [0, 1, 2, 4] rfl rfl h) ⟨rfl, rfl, rfl, rfl, rfl, rfl, trivial⟩)
      · have H := of_if_f hb H
        refine c_exit ?_
        refine x_qs_exit ?_
        refine x_ql_exit ?_
        refine x_qb_here ?_
        refine x_qs ?_
        refine c_seq ?_
        refine c_reg ?_
        refine ow_batch [.p, .p] rfl ?_
        refine ow_nil ?_
        refine x_qs ?_
        refine c_ret ?_
        exact x_retR (rs := [.tmp 4]) (vs := [.slice a765 l764.length c766]) rfl ⟨rfl, trivial⟩ (fun w' hw' => by
            obtain rfl := of_some H
            exact ⟨_, rfl, a765, l764.length, c766, F767, rfl, hw'.sel [3] rfl rfl⟩)
set_option maxHeartbeats 4000000 in
set_option maxRecDepth 100000 in
theorem laws_eqWay_ok (w : World) {p0 : Timpl_Way} {p1 : Timpl_Way} {cs0 : List Value} {cs1 : List Value} {r : Bool} (H : laws_eqWay p0 p1 = some r)  (g0 : (eTimpl_Way).rd w [] p0 cs0) (g1 : (eTimpl_Way).rd w [] p1 cs1) :
    Calls Tryz.prog 64 #[.agg cs0.toArray, .agg cs1.toArray] w (fun en w' => en = .returned (.bool r) ∧ Ext [] w w') := by
  obtain ⟨c10, c11, rfl, g12, g13⟩ := rdo_Timpl_Way g0
  obtain rfl : c10 = [.int .i64 p0.Leaf_] := g12
  obtain ⟨a14, c15, rfl⟩ := rd_sl1 g13
  obtain ⟨c16, c17, rfl, g18, g19⟩ := rdo_Timpl_Way g1
  obtain rfl : c16 = [.int .i64 p1.Leaf_] := g18
  obtain ⟨a20, c21, rfl⟩ := rd_sl1 g19
  unfold laws_eqWay at H
  refine f_enter (vs := [.agg #[.int .i64 p0.Leaf_, .slice a14 p0.Masks_.length c15], .agg #[.int .i64 p1.Leaf_, .slice a20 p1.Masks_.length c21]]) Tryz.func64 rfl Tryz.ntmps64 rfl (St.init w []) ?_
  refine c_seq ?_
  refine c_reg ?_
  refine ow_box (cs := [.int .i64 p0.Leaf_, .slice a14 p0.Masks_.length c15]) rfl rfl rfl rfl rfl rfl (fun _ => kp) (fun b22 => ?_)
  refine ow_box (cs := [.int .i64 p1.Leaf_, .slice a20 p1.Masks_.length c21]) rfl rfl rfl rfl rfl rfl (fun _ => kp) (fun b23 => ?_)
  refine ow_batch [.p] rfl ?_
  refine ow_nil ?_
  refine x_qs ?_
  refine c_seq ?_
  refine c_seq ?_
  refine c_reg ?_
  refine ow_batch [.fa 111 0 0 fa111_0] rfl ?_
  refine ow_r rfl (dstOk_lt rfl) (ry_box1 (off := 0) rfl rfl ty3 (boxIn (i := 0) rfl) rfl) ?_
  refine ow_batch [.fa 111 0 0 fa111_0] rfl ?_
  refine ow_r rfl (dstOk_lt rfl) (ry_box1 (off := 0) rfl rfl ty3 (boxIn (i := 1) rfl) rfl) ?_
  refine ow_batch [.p] rfl ?_
  refine ow_nil ?_
  refine x_qs ?_
  refine c_if rfl (fun hb => ?_) (fun hb => ?_)
  · have H := of_if_t hb H
    refine c_seq ?_
    refine c_reg ?_
    refine ow_batch [.p] rfl ?_
    refine ow_nil ?_
    refine x_qs ?_
    refine c_ret ?_
    refine x_qs_ret ?_
    exact x_retR (rs := [.tmp 4]) (vs := [.bool false]) rfl ⟨rfl, trivial⟩ (fun w' hw' => by
        obtain rfl := of_some H
        exact ⟨rfl, hw'.ext⟩)
  · have H := of_if_f hb H
    refine c_skip ?_
    refine x_qs ?_
    refine c_seq ?_
    refine c_seq ?_
    refine c_reg ?_
    refine ow_batch [.fa 111 1 1 fa111_1] rfl ?_
    refine ow_r rfl (dstOk_lt rfl) (ry_box1 (off := 1) rfl rfl ty59 (boxIn (i := 0) rfl) rfl) ?_
    refine ow_batch [.fa 111 1 1 fa111_1] rfl ?_
    refine ow_r rfl (dstOk_lt rfl) (ry_box1 (off := 1) rfl rfl ty59 (boxIn (i := 1) rfl) rfl) ?_
    obtain ⟨y24, h25, H⟩ := of_bind H
    refine ow_q rfl rfl (dstOk_lt rfl) (qy_call rfl fn92 rfl (fun w1 hw1 => laws_eqIntS_ok w1  h25 (rds_bor g13 w1 hw1) (rds_bor g19 w1 hw1))) (fun _ _ => trivial) ?_
    refine ow_batch [.p] rfl ?_
    refine ow_nil ?_
    refine x_qs ?_
    refine c_if rfl (fun hb => ?_) (fun hb => ?_)
    · have H := of_if_t hb H
      refine c_seq ?_
      refine c_reg ?_
      refine ow_batch [.p] rfl ?_
      refine ow_nil ?_
      refine x_qs ?_
      refine c_ret ?_
      refine x_qs_ret ?_
      exact x_retR (rs := [.tmp 4]) (vs := [.bool false]) rfl ⟨rfl, trivial⟩ (fun w' hw' => by
          obtain rfl := of_some H
          exact ⟨rfl, hw'.ext⟩)
    · have H := of_if_f hb H
      refine c_skip ?_
      refine x_qs ?_
      refine c_seq ?_
      refine c_reg ?_
      refine ow_batch [.p] rfl ?_
      refine ow_nil ?_
      refine x_qs ?_
      refine c_ret ?_
      exact x_retR (rs := [.tmp 4]) (vs := [.bool true]) rfl ⟨rfl, trivial⟩ (fun w' hw' => by
          obtain rfl := of_some H
          exact ⟨rfl, hw'.ext⟩)
set_option maxHeartbeats 4000000 in
set_option maxRecDepth 100000 in
theorem laws_eqWayS_ok (w : World) {p0 : List Timpl_Way} {p1 : List Timpl_Way} {a_0 : Option Addr} {n_0 c_0 : Nat} {a_1 : Option Addr} {n_1 c_1 : Nat} {r : Bool} (H : laws_eqWayS p0 p1 = some r)  (g0 : (eList (eTimpl_Way) 111).rd w [] p0 [.slice a_0 n_0 c_0]) (g1 : (eList (eTimpl_Way) 111).rd w [] p1 [.slice a_1 n_1 c_1]) :
    Calls Tryz.prog 14 #[.slice a_0 n_0 c_0, .slice a_1 n_1 c_1] w (fun en w' => en = .returned (.bool r) ∧ Ext [] w w') := by
  obtain rfl := rd_n g0
  obtain rfl := rd_n g1
  unfold laws_eqWayS at H
  refine f_enter (vs := [.slice a_0 p0.length c_0, .slice a_1 p1.length c_1]) Tryz.func14 rfl Tryz.ntmps14 rfl (St.init w []) ?_
  refine c_seq ?_
  refine c_reg ?_
  refine ow_batch [.p] rfl ?_
  refine ow_nil ?_
  refine x_qs ?_
  refine c_seq ?_
  refine c_seq ?_
  refine c_reg ?_
  refine ow_batch [.p, .lenS 31 111 sl31, .p, .lenS 31 111 sl31, .p] rfl ?_
  refine ow_nil ?_
  refine x_qs ?_
  refine c_if rfl (fun hb => ?_) (fun hb => ?_)
  · have H := of_if_t hb H
    refine c_seq ?_
    refine c_reg ?_
    refine ow_batch [.p] rfl ?_
    refine ow_nil ?_
    refine x_qs ?_
    refine c_ret ?_
    refine x_qs_ret ?_
    exact x_retR (rs := [.tmp 4]) (vs := [.bool false]) rfl ⟨rfl, trivial⟩ (fun w' hw' => by
        obtain rfl := of_some H
        exact ⟨rfl, hw'.ext⟩)
  · have H := of_if_f hb H
    refine c_skip ?_
    refine x_qs ?_
    refine c_seq ?_
    refine c_seq ?_
    refine c_reg ?_
    refine ow_batch [.p] rfl ?_
    refine ow_nil ?_
    refine x_qs ?_
    refine c_block ?_
    refine CW.at (loopI1 (fun (i37 : Int) => St w [] []) (fun (i37 : Int) => [(0, .slice a_0 p0.length c_0), (1, .slice a_1 p1.length c_1), (5, .int .i64 i37)]) (fun kk => fun (i37 : Int) => laws_eqWayS_L1 p0 p1 kk i37 = some r) (fun _ H => ?_) (fun k1 ihk1 i37 H => ?_) Fuel (0) (H)) (fun _ h => St.sel [] rfl rfl h) ⟨rfl, rfl, rfl,  trivial⟩
    · unfold laws_eqWayS_L1 at H
      exact absurd H (by simp)
    · unfold laws_eqWayS_L1 at H
      refine c_seq ?_
      refine c_seq ?_
      refine c_reg ?_
      refine ow_batch [.p, .p, .lenS 31 111 sl31, .p] rfl ?_
      refine ow_nil ?_
      refine x_qs ?_
      refine c_if rfl (fun hb => ?_) (fun hb => ?_)
      · have H := of_if_t hb H
        refine c_skip ?_
        refine x_qs ?_
        refine c_seq ?_
        refine c_block ?_
        refine c_seq ?_
        refine c_regQ mixed (by kernel_rfl) ?_
        refine ow_batch [.p, .p] rfl ?_
        obtain ⟨e66, h67, H⟩ := of_bind H
        refine ow_ixB rfl rfl rfl rfl rfl sl31 ty111 rfl g0 h67 (fun q70 c71 hd68 hA69 => ?_)
        obtain ⟨c72, c73, rfl, g74, g75⟩ := rdo_Timpl_Way hd68
        obtain rfl : c72 = [.int .i64 e66.Leaf_] := g74
        obtain ⟨a76, c77, rfl⟩ := rd_sl1 g75
        refine ow_r rfl (dstOk_lt rfl) (ry_load (cs := [.int .i64 e66.Leaf_, .slice a76 e66.Masks_.length c77]) rfl rfl ty111 (at_bor bor hA69) rfl) ?_
        refine ow_batch [.p, .p] rfl ?_
        obtain ⟨e78, h79, H⟩ := of_bind H
        refine ow_ixB rfl rfl rfl rfl rfl sl31 ty111 rfl g1 h79 (fun q82 c83 hd80 hA81 => ?_)
        obtain ⟨c84, c85, rfl, g86, g87⟩ := rdo_Timpl_Way hd80
        obtain rfl : c84 = [.int .i64 e78.Leaf_] := g86
        obtain ⟨a88, c89, rfl⟩ := rd_sl1 g87
        refine ow_r rfl (dstOk_lt rfl) (ry_load (cs := [.int .i64 e78.Leaf_, .slice a88 e78.Masks_.length c89]) rfl rfl ty111 (at_bor bor hA81) rfl) ?_
        obtain ⟨y90, h91, H⟩ := of_bind H
        refine ow_q rfl rfl (dstOk_lt rfl) (qy_call rfl fn64 rfl (fun w1 hw1 => laws_eqWay_ok w1 (cs0 := [.int .i64 e66.Leaf_, .slice a76 e66.Masks_.length c77]) (cs1 := [.int .i64 e78.Leaf_, .slice a88 e78.Masks_.length c89]) h91 (rdm_Timpl_Way (x := e66) (c0 := [.int .i64 e66.Leaf_]) (c1 := [.slice a76 e66.Masks_.length c77]) rfl (rds_bor g75 w1 hw1)) (rdm_Timpl_Way (x := e78) (c0 := [.int .i64 e78.Leaf_]) (c1 := [.slice a88 e78.Masks_.length c89]) rfl (rds_bor g87 w1 hw1)))) (fun _ _ => trivial) ?_
        refine ow_batch [.p] rfl ?_
        refine ow_nilQ ?_
        refine x_qs ?_
        refine c_if rfl (fun hb => ?_) (fun hb => ?_)
        · have H := of_if_t hb H
          refine c_seq ?_
          refine c_reg ?_
          refine ow_batch [.p] rfl ?_
          refine ow_nil ?_
          refine x_qs ?_
          refine c_ret ?_
          refine x_qb_ret ?_
          refine x_qs_ret ?_
          refine x_ql_ret ?_
          refine x_qb_ret ?_
          refine x_qs_ret ?_
          exact x_retR (rs := [.tmp 4]) (vs := [.bool false]) rfl ⟨rfl, trivial⟩ (fun w' hw' => by
              obtain rfl := of_some H
              exact ⟨rfl, hw'.ext⟩)
        · have H := of_if_f hb H
          refine c_skip ?_
          refine x_qb ?_
          refine x_qs ?_
          refine c_reg ?_
          refine ow_batch [.p, .p, .p] rfl ?_
          refine ow_nil ?_
          exact x_ql (RW.at (ihk1 (IntKind.i64.wrap (i37 + 1)) (H)) (fun _ h => St.sel [] rfl rfl h) ⟨rfl, rfl, rfl, trivial⟩)
      · have H := of_if_f hb H
        refine c_exit ?_
        refine x_qs_exit ?_
        refine x_ql_exit ?_
        refine x_qb_here ?_
        refine x_qs ?_
        refine c_seq ?_
        refine c_reg ?_
        refine ow_batch [.p] rfl ?_
        refine ow_nil ?_
        refine x_qs ?_
        refine c_ret ?_
        exact x_retR (rs := [.tmp 4]) (vs := [.bool true]) rfl ⟨rfl, trivial⟩ (fun w' hw' => by
            obtain rfl := of_some H
            exact ⟨rfl, hw'.ext⟩)
set_option maxHeartbeats 4000000 in
set_option maxRecDepth 100000 in
theorem laws_markText_ok (w : World) {p0 : Int}  {r : List UInt8} (H : laws_markText p0 = some r)   :
    Calls Tryz.prog 142 #[.int .i64 p0] w (fun en w' => en = .returned (vS r) ∧ Ext [] w w') := by
  unfold laws_markText at H
  refine f_enter (vs := [.int .i64 p0]) Tryz.func142 rfl Tryz.ntmps142 rfl (St.init w []) ?_
  refine c_seq ?_
  refine c_reg ?_
  refine ow_batch [.p] rfl ?_
  refine ow_nil ?_
  refine x_qs ?_
  refine c_seq ?_
  refine c_seq ?_
  refine c_reg ?_
  refine ow_batch [.p, .p] rfl ?_
  refine ow_nil ?_
  refine x_qs ?_
  refine c_if rfl (fun hb => ?_) (fun hb => ?_)
  · have H := of_if_t hb H
    refine c_seq ?_
    refine c_reg ?_
    refine ow_batch [.p] rfl ?_
    refine ow_nil ?_
    refine x_qs ?_
    refine c_ret ?_
    refine x_qs_ret ?_
    exact x_retR (rs := [.tmp 2]) (vs := [vS ([109, 48] : List UInt8)]) rfl ⟨rfl, trivial⟩ (fun w' hw' => by
        obtain rfl := of_some H
        exact ⟨rfl, hw'.ext⟩)
  · have H := of_if_f hb H
    refine c_skip ?_
    refine x_qs ?_
    refine c_seq ?_
    refine c_reg ?_
    refine ow_batch [.p] rfl ?_
    refine ow_nil ?_
    refine x_qs ?_
    refine c_seq ?_
    refine c_block ?_
    refine CW.at (loopI2 (fun (i15 : Int) (s16 : List UInt8) => St w [] []) (fun (i15 : Int) (s16 : List UInt8) => [(0, .int .i64 i15), (3, vS s16)]) (fun kk => fun (i15 : Int) (s16 : List UInt8) => laws_markText_L1 kk i15 s16 = some r) (fun _ _ H => ?_) (fun k1 ihk1 i15 s16 H => ?_) Fuel (p0) (([] : List UInt8)) (H)) (fun _ h => St.sel [] rfl rfl h) ⟨rfl, rfl,  trivial⟩
    · unfold laws_markText_L1 at H
      exact absurd H (by simp)
    · unfold laws_markText_L1 at H
      refine c_seq ?_
      refine c_seq ?_
      refine c_reg ?_
      refine ow_batch [.p, .p] rfl ?_
      refine ow_nil ?_
      refine x_qs ?_
      refine c_if rfl (fun hb => ?_) (fun hb => ?_)
      · have H := of_if_t hb H
        refine c_skip ?_
        refine x_qs ?_
        refine c_block ?_
        refine c_seq ?_
        refine c_reg ?_
        refine ow_batch [.p, .p, .p, .cv 3 5 .u8 us3 in5] rfl ?_
        refine ow_blit (val := Value.int .u8) (h1 := fun _ => rfl) [IntKind.u8.wrap (IntKind.i64.wrap (48 + (Int.tmod i15 10)))] [(0, [.int .u8 (IntKind.u8.wrap (IntKind.i64.wrap (48 + (Int.tmod i15 10))))])] rfl rfl rfl rfl rfl sl70 ty5 rfl rfl rfl ⟨rfl, rfl, Nat.le_of_ble_eq_true rfl,  trivial⟩ rfl rfl (fun _ => kp) (fun b22 => ?_)
        refine ow_r rfl (dstOk_lt rfl) (ry_bts (xs := ([IntKind.u8.wrap (IntKind.i64.wrap (48 + (Int.tmod i15 10)))] : List Int)) rfl rfl sl70 in5 st9 (fun w1 hw1 => rds_own (e := eList (eVal (Value.int .u8) (fun _ => rfl)) 5) (r := 0) rfl w1 hw1)) ?_
        refine ow_batch [.p] rfl ?_
        obtain ⟨s23, h24, H⟩ := of_bind H
        refine ow_r rfl (dstOk_lt rfl) (ry_sadd rfl rfl rfl h24) ?_
        refine ow_batch [.p] rfl ?_
        refine ow_nil ?_
        refine x_qs ?_
        refine c_reg ?_
        refine ow_batch [.p, .p, .p] rfl ?_
        refine ow_nil ?_
        refine x_qb ?_
        exact x_ql (RW.at (ihk1 (IntKind.i64.wrap (Int.tdiv i15 10)) (s23) (H)) (fun _ h => St.sel [] rfl rfl h) ⟨rfl, rfl, trivial⟩)
      · have H := of_if_f hb H
        refine c_exit ?_
        refine x_qs_exit ?_
        refine x_ql_exit ?_
        refine x_qb_here ?_
        refine x_qs ?_
        refine c_seq ?_
        refine c_reg ?_
        refine ow_batch [.p] rfl ?_
        obtain ⟨s25, h26, H⟩ := of_bind H
        refine ow_r rfl (dstOk_lt rfl) (ry_sadd rfl rfl rfl h26) ?_
        refine ow_batch [.p] rfl ?_
        refine ow_nil ?_
        refine x_qs ?_
        refine c_ret ?_
        exact x_retR (rs := [.tmp 2]) (vs := [vS s25]) rfl ⟨rfl, trivial⟩ (fun w' hw' => by
            obtain rfl := of_some H
            exact ⟨rfl, hw'.ext⟩)
set_option maxHeartbeats 4000000 in
set_option maxRecDepth 100000 in
theorem laws_markIntS_ok (w : World) {M0 : List Nat} {p0 : List Int} {p1 : Int} {a_0_0 : Option Addr} {n_0_0 c_0_0 : Nat} {F_0_0 : List Nat} {r : Int × (List Int)} (H : laws_markIntS p0 p1 = some r) (HS : St w M0 [Res.own (eList (eVal (Value.int .i64) (fun _ => rfl)) 3) F_0_0 p0 [.slice a_0_0 n_0_0 c_0_0]] w)  :
    Calls Tryz.prog 71 #[.slice a_0_0 n_0_0 c_0_0, .int .i64 p1] w (fun en w' => ∃ v, en = .returned v ∧ ∃ (F0 : List Nat), v = .int .i64 r.1 ∧ St w M0 [Res.own (eList (eVal (Value.int .i64) (fun _ => rfl)) 3) F0 r.2 [.slice a_0_0 n_0_0 c_0_0]] w') := by
  obtain rfl := own_nS (i := 0) HS rfl
  unfold laws_markIntS at H
  refine f_enter (vs := [.slice a_0_0 p0.length c_0_0, .int .i64 p1]) Tryz.func71 rfl Tryz.ntmps71 rfl (HS) ?_
  refine c_seq ?_
  refine c_reg ?_
  refine ow_batch [.p] rfl ?_
  refine ow_nil ?_
  refine x_qs ?_
  refine c_seq ?_
  refine c_seq ?_
  refine c_reg ?_
  refine ow_batch [.p] rfl ?_
  refine ow_nil ?_
  refine x_qs ?_
  refine c_block ?_
  refine CW.at (loopI3 (fun (l15 : List Int) (i17 : Int) (i18 : Int) => St w M0 [Res.own (eList (eVal (Value.int .i64) (fun _ => rfl)) 3) F_0_0 l15 [.slice a_0_0 p0.length c_0_0]]) (fun (l15 : List Int) (i17 : Int) (i18 : Int) => [(0, .slice a_0_0 p0.length c_0_0), (1, .int .i64 i17), (5, .int .i64 i18)]) (fun kk => fun (l15 : List Int) (i17 : Int) (i18 : Int) => laws_markIntS_L1 p0 kk l15 i17 i18 = some r) (fun _ _ _ H => ?_) (fun k1 ihk1 l15 i17 i18 H => ?_) Fuel (p0) (p1) (0) (H)) (fun _ h => St.sel [0] rfl rfl h) ⟨rfl, rfl, rfl,  trivial⟩
  · unfold laws_markIntS_L1 at H
    exact absurd H (by simp)
  · unfold laws_markIntS_L1 at H
    refine c_seq ?_
    refine c_seq ?_
    refine c_reg ?_
    refine ow_batch [.p, .p, .lenS 59 3 sl59, .p] rfl ?_
    refine ow_nil ?_
    refine x_qs ?_
    refine c_if rfl (fun hb => ?_) (fun hb => ?_)
    · have H := of_if_t hb H
      refine c_skip ?_
      refine x_qs ?_
      refine c_seq ?_
      refine c_block ?_
      refine c_seq ?_
      refine c_reg ?_
      refine ow_batch [.p, .p, .p] rfl ?_
      obtain ⟨e24, h25, H⟩ := of_bind H
      refine ow_ixE (e := eVal (Value.int .i64) (fun _ => rfl)) (xs := l15) (j := i18) rfl rfl rfl rfl rfl sl59 ty3 rfl (fun w1 hw1 => rds_own (e := eList (eVal (Value.int .i64) (fun _ => rfl)) 3) (r := 0) rfl w1 hw1) h25 (by rw [Nat.mul_one]) ?_
      refine ow_storeV (i := 0) (j := i18) rfl rfl rfl rfl rfl rfl ty3 rfl h25 (fun _ => rfl) kp ?_
      refine ow_nil ?_
      refine x_qs ?_
      refine c_reg ?_
      refine ow_batch [.p, .p, .p] rfl ?_
      refine ow_nil ?_
      refine x_qb ?_
      refine x_qs ?_
      refine c_reg ?_
      refine ow_batch [.p, .p, .p] rfl ?_
      refine ow_nil ?_
      exact x_ql (RW.at (ihk1 ((l15.set i18.toNat i17)) (IntKind.i64.wrap (i17 + 1)) (IntKind.i64.wrap (i18 + 1)) (H)) (fun _ h => St.sel [0] rfl rfl h) ⟨rfl, rfl, rfl, trivial⟩)
    · have H := of_if_f hb H
      refine c_exit ?_
      refine x_qs_exit ?_
      refine x_ql_exit ?_
      refine x_qb_here ?_
      refine x_qs ?_
      refine c_seq ?_
      refine c_reg ?_
      refine ow_batch [.p, .p] rfl ?_
      refine ow_nil ?_
      refine x_qs ?_
      refine c_ret ?_
      exact x_retR (rs := [.tmp 4]) (vs := [.int .i64 i17]) rfl ⟨rfl, trivial⟩ (fun w' hw' => by
          obtain rfl := of_some H
          exact ⟨_, rfl, F_0_0, rfl, hw'.sel [0] rfl rfl⟩)
set_option maxHeartbeats 4000000 in
set_option maxRecDepth 100000 in
theorem laws_markStringS_ok (w : World) {M0 : List Nat} {p0 : List (List UInt8)} {p1 : Int} {a_0_0 : Option Addr} {n_0_0 c_0_0 : Nat} {F_0_0 : List Nat} {r : Int × (List (List UInt8))} (H : laws_markStringS p0 p1 = some r) (HS : St w M0 [Res.own (eList (eStr) 9) F_0_0 p0 [.slice a_0_0 n_0_0 c_0_0]] w)  :
    Calls Tryz.prog 69 #[.slice a_0_0 n_0_0 c_0_0, .int .i64 p1] w (fun en w' => ∃ v, en = .returned v ∧ ∃ (F0 : List Nat), v = .int .i64 r.1 ∧ St w M0 [Res.own (eList (eStr) 9) F0 r.2 [.slice a_0_0 n_0_0 c_0_0]] w') := by
  obtain rfl := own_nS (i := 0) HS rfl
  unfold laws_markStringS at H
  refine f_enter (vs := [.slice a_0_0 p0.length c_0_0, .int .i64 p1]) Tryz.func69 rfl Tryz.ntmps69 rfl (HS) ?_
  refine c_seq ?_
  refine c_reg ?_
  refine ow_batch [.p] rfl ?_
  refine ow_nil ?_
  refine x_qs ?_
  refine c_seq ?_
  refine c_seq ?_
  refine c_reg ?_
  refine ow_batch [.p] rfl ?_
  refine ow_nil ?_
  refine x_qs ?_
  refine c_block ?_
  refine CW.at (loopI3 (fun (l18 : List (List UInt8)) (i19 : Int) (i20 : Int) => St w M0 [Res.own (eList (eStr) 9) F_0_0 l18 [.slice a_0_0 p0.length c_0_0]]) (fun (l18 : List (List UInt8)) (i19 : Int) (i20 : Int) => [(0, .slice a_0_0 p0.length c_0_0), (1, .int .i64 i19), (5, .int .i64 i20)]) (fun kk => fun (l18 : List (List UInt8)) (i19 : Int) (i20 : Int) => laws_markStringS_L1 p0 kk l18 i19 i20 = some r) (fun _ _ _ H => ?_) (fun k1 ihk1 l18 i19 i20 H => ?_) Fuel (p0) (p1) (0) (H)) (fun _ h => St.sel [0] rfl rfl h) ⟨rfl, rfl, rfl,  trivial⟩
  · unfold laws_markStringS_L1 at H
    exact absurd H (by simp)
  · unfold laws_markStringS_L1 at H
    refine c_seq ?_
    refine c_seq ?_
    refine c_reg ?_
    refine ow_batch [.p, .p, .lenS 23 9 sl23, .p] rfl ?_
    refine ow_nil ?_
    refine x_qs ?_
    refine c_if rfl (fun hb => ?_) (fun hb => ?_)
    · have H := of_if_t hb H
      refine c_skip ?_
      refine x_qs ?_
      refine c_seq ?_
      refine c_block ?_
      refine c_seq ?_
      refine c_reg ?_
      refine ow_batch [.p, .p, .p] rfl ?_
      obtain ⟨y28, h29, H⟩ := of_bind H
      refine ow_q rfl rfl (dstOk_lt rfl) (qy_call rfl fn142 rfl (fun w1 hw1 => laws_markText_ok w1  h29)) (fun _ _ => trivial) ?_
      obtain ⟨e30, h31, H⟩ := of_bind H
      refine ow_ixE (e := eStr) (xs := l18) (j := i20) rfl rfl rfl rfl rfl sl23 ty9 rfl (fun w1 hw1 => rds_own (e := eList (eStr) 9) (r := 0) rfl w1 hw1) h31 (by rw [Nat.mul_one]) ?_
      refine ow_storeV (i := 0) (j := i20) rfl rfl rfl rfl rfl rfl ty9 rfl h31 (fun _ => rfl) kp ?_
      refine ow_nil ?_
      refine x_qs ?_
      refine c_reg ?_
      refine ow_batch [.p, .p, .p] rfl ?_
      refine ow_nil ?_
      refine x_qb ?_
      refine x_qs ?_
      refine c_reg ?_
      refine ow_batch [.p, .p, .p] rfl ?_
      refine ow_nil ?_
      exact x_ql (RW.at (ihk1 ((l18.set i20.toNat y28)) (IntKind.i64.wrap (i19 + 1)) (IntKind.i64.wrap (i20 + 1)) (H)) (fun _ h => St.sel [0] rfl rfl h) ⟨rfl, rfl, rfl, trivial⟩)
    · have H := of_if_f hb H
      refine c_exit ?_
      refine x_qs_exit ?_
      refine x_ql_exit ?_
      refine x_qb_here ?_
      refine x_qs ?_
      refine c_seq ?_
      refine c_reg ?_
      refine ow_batch [.p, .p] rfl ?_
      refine ow_nil ?_
      refine x_qs ?_
      refine c_ret ?_
      exact x_retR (rs := [.tmp 4]) (vs := [.int .i64 i19]) rfl ⟨rfl, trivial⟩ (fun w' hw' => by
          obtain rfl := of_some H
          exact ⟨_, rfl, F_0_0, rfl, hw'.sel [0] rfl rfl⟩)
set_option maxHeartbeats 4000000 in
set_option maxRecDepth 100000 in
theorem laws_markAttrS_ok (w : World) {M0 : List Nat} {p0 : List Timpl_Attr} {p1 : Int} {a_0_0 : Option Addr} {n_0_0 c_0_0 : Nat} {F_0_0 : List Nat} {r : Int × (List Timpl_Attr)} (H : laws_markAttrS p0 p1 = some r) (HS : St w M0 [Res.own (eList (eTimpl_Attr) 114) F_0_0 p0 [.slice a_0_0 n_0_0 c_0_0]] w)  :
    Calls Tryz.prog 68 #[.slice a_0_0 n_0_0 c_0_0, .int .i64 p1] w (fun en w' => ∃ v, en = .returned v ∧ ∃ (F0 : List Nat), v = .int .i64 r.1 ∧ St w M0 [Res.own (eList (eTimpl_Attr) 114) F0 r.2 [.slice a_0_0 n_0_0 c_0_0]] w') := by
  obtain rfl := own_nS (i := 0) HS rfl
  unfold laws_markAttrS at H
  refine f_enter (vs := [.slice a_0_0 p0.length c_0_0, .int .i64 p1]) Tryz.func68 rfl Tryz.ntmps68 rfl (HS) ?_
  refine c_seq ?_
  refine c_reg ?_
  refine ow_batch [.p] rfl ?_
  refine ow_nil ?_
  refine x_qs ?_
  refine c_seq ?_
  refine c_seq ?_
  refine c_reg ?_
  refine ow_batch [.p] rfl ?_
  refine ow_nil ?_
  refine x_qs ?_
  refine c_block ?_
  refine CW.at (loopI4 (fun (l46 : List Timpl_Attr) (F47 : List Nat) (i48 : Int) (i49 : Int) => St w M0 [Res.own (eList (eTimpl_Attr) 114) F47 l46 [.slice a_0_0 p0.length c_0_0]]) (fun (l46 : List Timpl_Attr) (F47 : List Nat) (i48 : Int) (i49 : Int) => [(0, .slice a_0_0 p0.length c_0_0), (1, .int .i64 i48), (5, .int .i64 i49)]) (fun kk => fun (l46 : List Timpl_Attr) (F47 : List Nat) (i48 : Int) (i49 : Int) => laws_markAttrS_L1 p0 kk l46 i48 i49 = some r) (fun _ _ _ _ H => ?_) (fun k1 ihk1 l46 F47 i48 i49 H => ?_) Fuel (p0) (F_0_0) (p1) (0) (H)) (fun _ h => St.sel [0] rfl rfl h) ⟨rfl, rfl, rfl,  trivial⟩
  · unfold laws_markAttrS_L1 at H
    exact absurd H (by simp)
  · unfold laws_markAttrS_L1 at H
    refine c_seq ?_
    refine c_seq ?_
    refine c_reg ?_
    refine ow_batch [.p, .p, .lenS 33 114 sl33, .p] rfl ?_
    refine ow_nil ?_
    refine x_qs ?_
    refine c_if rfl (fun hb => ?_) (fun hb => ?_)
    · have H := of_if_t hb H
      refine c_skip ?_
      refine x_qs ?_
      refine c_seq ?_
      refine c_block ?_
      refine c_seq ?_
      refine c_reg ?_
      refine ow_batch [.p, .p, .p] rfl ?_
      obtain ⟨y86, h87, H⟩ := of_bind H
      refine ow_q rfl rfl (dstOk_lt rfl) (qy_call rfl fn142 rfl (fun w1 hw1 => laws_markText_ok w1  h87)) (fun _ _ => trivial) ?_
      obtain ⟨e88, h89, H⟩ := of_bind H
      refine ow_ex4 rfl (fun w1 hw1 => foc (r := 0) hw1 rfl h89) (fun b91 G92 F93 c94 => ?_)
      refine ow_fact rfl (fun w1 hw1 => hw1.1) (fun q90 => ?_)
      obtain ⟨ha95, hn96⟩ := q90
      refine ow_st (C' := St w M0 [_, _, _]) rfl (fun w1 hw1 => hw1.2) ?_
      refine ow_ex3 rfl (fun w1 hw1 => opn_Timpl_Attr (i := 2) hw1 rfl) (fun a98 c99 F100 => ?_)
      refine ow_ex3 rfl (fun _ h => h) (fun a101 c102 F103 => ?_)
      refine ow_fact rfl (fun w1 hw1 => hw1.1) (fun q97 => ?_)
      subst q97
      refine ow_st (C' := St w M0 [_, _, _, _, _]) rfl (fun w1 hw1 => hw1.2) ?_
      refine ow_ixH rfl rfl rfl rfl rfl sl33 ty114 rfl (holeIn (p := 1) rfl) hn96 ha95 (idx_some h89).1 ?_
      refine ow_batch [.fa 114 0 0 fa114_0] rfl ?_
      refine ow_storeH (off := 0) [vS y86] (p := 1) (c' := [_, _, _]) rfl rfl rfl rfl rfl (by first | rfl | simp only [add_lit, add_add, add_zero]) rfl ty9 rfl rfl (by intro u hu; simp only [List.mem_cons, List.not_mem_nil, or_false] at hu; rcases hu with rfl <;> rfl) rfl rfl rfl kp ?_
      refine ow_nil ?_
      refine x_qs ?_
      refine c_seq ?_
      refine CW.weak (C' := St w M0 [_, _, _]) ?_ (fun _ h => St.sel [1, 3, 4] rfl rfl h)
      refine c_reg ?_
      refine ow_batch [.p, .p, .p] rfl ?_
      refine ow_nil ?_
      refine x_qs ?_
      refine c_seq ?_
      refine c_reg ?_
      refine ow_batch [.p, .p] rfl ?_
      refine ow_ixH rfl rfl rfl rfl rfl sl33 ty114 rfl (holeIn (p := 0) rfl) hn96 ha95 (idx_some h89).1 ?_
      refine ow_batch [.fa 114 1 1 fa114_1] rfl ?_
      refine ow_r rfl (dstOk_lt rfl) (ry_hole1 0 1 rfl rfl rfl ty59 (by first | rfl | simp only [add_lit, add_add, add_zero]) rfl) ?_
      refine ow_batch [.p] rfl ?_
      obtain ⟨y104, h105, H⟩ := of_bind H
      refine ow_callS rfl fn71 rfl rfl rfl rfl (fun w1 hw1 => laws_markIntS_ok w1  h105 (hw1.carve [1] rfl rfl)) (fun v106 w1 w2 hw1 hR108 => ?_)
      obtain ⟨F109, rfl, hS107⟩ := hR108
      refine ⟨St w M0 [_, _, _, _], hw1.comp [1] rfl rfl hS107, fun _ _ => trivial, ?_⟩
      refine ow_batch [.p] rfl ?_
      refine ow_nil ?_
      refine x_qs ?_
      refine c_reg ?_
      refine ow_batch [.p, .p] rfl ?_
      refine ow_ixH rfl rfl rfl rfl rfl sl33 ty114 rfl (holeIn (p := 0) rfl) hn96 ha95 (idx_some h89).1 ?_
      refine ow_batch [.fa 114 2 2 fa114_2] rfl ?_
      refine ow_r rfl (dstOk_lt rfl) (ry_hole1 0 2 rfl rfl rfl ty23 (by first | rfl | simp only [add_lit, add_add, add_zero]) rfl) ?_
      refine ow_batch [.p] rfl ?_
      obtain ⟨y110, h111, H⟩ := of_bind H
      refine ow_callS rfl fn69 rfl rfl rfl rfl (fun w1 hw1 => laws_markStringS_ok w1  h111 (hw1.carve [2] rfl rfl)) (fun v112 w1 w2 hw1 hR114 => ?_)
      obtain ⟨F115, rfl, hS113⟩ := hR114
      refine ⟨St w M0 [_, _, _, _, _], hw1.comp [2] rfl rfl hS113, fun _ _ => trivial, ?_⟩
      refine ow_batch [.p] rfl ?_
      refine ow_nil ?_
      refine x_qb ?_
      refine x_qs ?_
      refine CW.weak (C' := St w M0 [_, _, _]) ?_ (fun _ h => St.sel [0, 3, 4] rfl rfl h)
      refine c_reg ?_
      refine ow_batch [.p, .p, .p] rfl ?_
      refine ow_nil ?_
      refine xw_ex (fun w1 hw1 => fus_Timpl_Attr (x0 := y86) [1, 2] hw1 rfl rfl) (fun F116 => ?_)
      refine xw_st (C' := St w M0 [_, _, _, _]) (fun _ h => h) ?_
      refine xw_ex (fun w1 hw1 => unf (p := 0) (q := 3) hw1 rfl rfl rfl hn96 ha95) (fun F117 => ?_)
      refine xw_st (C' := St w M0 [_, _, _, _, _]) (fun _ h => h) ?_
      exact x_ql (RW.at (ihk1 ((l46.set i49.toNat (Timpl_Attr.mk y86 y104.2 y110.2))) (F117) (y110.1) (IntKind.i64.wrap (i49 + 1)) (H)) (fun _ h => St.sel [4] rfl rfl h) ⟨rfl, rfl, rfl, trivial⟩)
    · have H := of_if_f hb H
      refine c_exit ?_
      refine x_qs_exit ?_
      refine x_ql_exit ?_
      refine x_qb_here ?_
      refine x_qs ?_
      refine c_seq ?_
      refine c_reg ?_
      refine ow_batch [.p, .p] rfl ?_
      refine ow_nil ?_
      refine x_qs ?_
      refine c_ret ?_
      exact x_retR (rs := [.tmp 4]) (vs := [.int .i64 i48]) rfl ⟨rfl, trivial⟩ (fun w' hw' => by
          obtain rfl := of_some H
          exact ⟨_, rfl, F47, rfl, hw'.sel [0] rfl rfl⟩)
set_option maxHeartbeats 4000000 in
set_option maxRecDepth 100000 in
theorem laws_markSchema_ok (w : World) {M0 : List Nat} {p0 : Timpl_Schema} {p1 : Int} {a_0_0 : Option Addr} {n_0_0 c_0_0 : Nat} {F_0_0 : List Nat} {a_0_1 : Option Addr} {n_0_1 c_0_1 : Nat} {F_0_1 : List Nat} {r : Int × Timpl_Schema} (H : laws_markSchema p0 p1 = some r) (HS : St w M0 [Res.own (eList (eTimpl_Attr) 114) F_0_0 p0.Attrs_ [.slice a_0_0 n_0_0 c_0_0], Res.own (eList (eStr) 9) F_0_1 p0.Classes_ [.slice a_0_1 n_0_1 c_0_1]] w)  :
    Calls Tryz.prog 17 #[.agg #[.slice a_0_0 n_0_0 c_0_0, .slice a_0_1 n_0_1 c_0_1], .int .i64 p1] w (fun en w' => ∃ v, en = .returned v ∧ ∃ (F0 : List Nat), ∃ (F1 : List Nat), v = .int .i64 r.1 ∧ St w M0 [Res.own (eList (eTimpl_Attr) 114) F0 r.2.Attrs_ [.slice a_0_0 n_0_0 c_0_0], Res.own (eList (eStr) 9) F1 r.2.Classes_ [.slice a_0_1 n_0_1 c_0_1]] w') := by
  obtain rfl := own_nS (i := 0) HS rfl
  obtain rfl := own_nS (i := 1) HS rfl
  unfold laws_markSchema at H
  refine f_enter (vs := [.agg #[.slice a_0_0 p0.Attrs_.length c_0_0, .slice a_0_1 p0.Classes_.length c_0_1], .int .i64 p1]) Tryz.func17 rfl Tryz.ntmps17 rfl (HS) ?_
  refine c_seq ?_
  refine c_reg ?_
  refine ow_box (cs := [.slice a_0_0 p0.Attrs_.length c_0_0, .slice a_0_1 p0.Classes_.length c_0_1]) rfl rfl rfl rfl rfl rfl (fun _ => kp) (fun b10 => ?_)
  refine ow_batch [.p] rfl ?_
  refine ow_nil ?_
  refine x_qs ?_
  refine c_seq ?_
  refine c_reg ?_
  refine ow_batch [.fa 35 0 0 fa35_0] rfl ?_
  refine ow_r rfl (dstOk_lt rfl) (ry_box1 (off := 0) rfl rfl ty33 (boxIn (i := 2) rfl) rfl) ?_
  refine ow_batch [.p] rfl ?_
  obtain ⟨y11, h12, H⟩ := of_bind H
  refine ow_callS rfl fn68 rfl rfl rfl rfl (fun w1 hw1 => laws_markAttrS_ok w1  h12 (hw1.carve [0] rfl rfl)) (fun v13 w1 w2 hw1 hR15 => ?_)
  obtain ⟨F16, rfl, hS14⟩ := hR15
  refine ⟨St w M0 [_, _, _, _], hw1.comp [0] rfl rfl hS14, fun _ _ => trivial, ?_⟩
  refine ow_batch [.p] rfl ?_
  refine ow_nil ?_
  refine x_qs ?_
  refine c_seq ?_
  refine c_reg ?_
  refine ow_batch [.fa 35 1 1 fa35_1] rfl ?_
  refine ow_r rfl (dstOk_lt rfl) (ry_box1 (off := 1) rfl rfl ty23 (boxIn (i := 2) rfl) rfl) ?_
  refine ow_batch [.p] rfl ?_
  obtain ⟨y17, h18, H⟩ := of_bind H
  refine ow_callS rfl fn69 rfl rfl rfl rfl (fun w1 hw1 => laws_markStringS_ok w1  h18 (hw1.carve [1] rfl rfl)) (fun v19 w1 w2 hw1 hR21 => ?_)
  obtain ⟨F22, rfl, hS20⟩ := hR21
  refine ⟨St w M0 [_, _, _, _, _], hw1.comp [1] rfl rfl hS20, fun _ _ => trivial, ?_⟩
  refine ow_batch [.p] rfl ?_
  refine ow_nil ?_
  refine x_qs ?_
  refine c_seq ?_
  refine CW.weak (C' := St w M0 [_, _, _]) ?_ (fun _ h => St.sel [2, 3, 4] rfl rfl h)
  refine c_reg ?_
  refine ow_batch [.p, .p] rfl ?_
  refine ow_nil ?_
  refine x_qs ?_
  refine c_ret ?_
  exact x_retR (rs := [.tmp 4]) (vs := [.int .i64 y17.1]) rfl ⟨rfl, trivial⟩ (fun w' hw' => by
      obtain rfl := of_some H
      exact ⟨_, rfl, F16, F22, rfl, hw'.sel [1, 2] rfl rfl⟩)
set_option maxHeartbeats 4000000 in
set_option maxRecDepth 100000 in
theorem laws_markIntSS_ok (w : World) {M0 : List Nat} {p0 : List (List Int)} {p1 : Int} {a_0_0 : Option Addr} {n_0_0 c_0_0 : Nat} {F_0_0 : List Nat} {r : Int × (List (List Int))} (H : laws_markIntSS p0 p1 = some r) (HS : St w M0 [Res.own (eList (eList (eVal (Value.int .i64) (fun _ => rfl)) 3) 59) F_0_0 p0 [.slice a_0_0 n_0_0 c_0_0]] w)  :
    Calls Tryz.prog 94 #[.slice a_0_0 n_0_0 c_0_0, .int .i64 p1] w (fun en w' => ∃ v, en = .returned v ∧ ∃ (F0 : List Nat), v = .int .i64 r.1 ∧ St w M0 [Res.own (eList (eList (eVal (Value.int .i64) (fun _ => rfl)) 3) 59) F0 r.2 [.slice a_0_0 n_0_0 c_0_0]] w') := by
  obtain rfl := own_nS (i := 0) HS rfl
  unfold laws_markIntSS at H
  refine f_enter (vs := [.slice a_0_0 p0.length c_0_0, .int .i64 p1]) Tryz.func94 rfl Tryz.ntmps94 rfl (HS) ?_
  refine c_seq ?_
  refine c_reg ?_
  refine ow_batch [.p] rfl ?_
  refine ow_nil ?_
  refine x_qs ?_
  refine c_seq ?_
  refine c_seq ?_
  refine c_reg ?_
  refine ow_batch [.p] rfl ?_
  refine ow_nil ?_
  refine x_qs ?_
  refine c_block ?_
  refine CW.at (loopI4 (fun (l34 : List (List Int)) (F35 : List Nat) (i36 : Int) (i37 : Int) => St w M0 [Res.own (eList (eList (eVal (Value.int .i64) (fun _ => rfl)) 3) 59) F35 l34 [.slice a_0_0 p0.length c_0_0]]) (fun (l34 : List (List Int)) (F35 : List Nat) (i36 : Int) (i37 : Int) => [(0, .slice a_0_0 p0.length c_0_0), (1, .int .i64 i36), (5, .int .i64 i37)]) (fun kk => fun (l34 : List (List Int)) (F35 : List Nat) (i36 : Int) (i37 : Int) => laws_markIntSS_L1 p0 kk l34 i36 i37 = some r) (fun _ _ _ _ H => ?_) (fun k1 ihk1 l34 F35 i36 i37 H => ?_) Fuel (p0) (F_0_0) (p1) (0) (H)) (fun _ h => St.sel [0] rfl rfl h) ⟨rfl, rfl, rfl,  trivial⟩
  · unfold laws_markIntSS_L1 at H
    exact absurd H (by simp)
  · unfold laws_markIntSS_L1 at H
    refine c_seq ?_
    refine c_seq ?_
    refine c_reg ?_
    refine ow_batch [.p, .p, .lenS 60 59 sl60, .p] rfl ?_
    refine ow_nil ?_
    refine x_qs ?_
    refine c_if rfl (fun hb => ?_) (fun hb => ?_)
    · have H := of_if_t hb H
      refine c_skip ?_
      refine x_qs ?_
      refine c_seq ?_
      refine c_block ?_
      refine c_reg ?_
      refine ow_batch [.p, .p] rfl ?_
      obtain ⟨e61, h62, H⟩ := of_bind H
      refine ow_ex4 rfl (fun w1 hw1 => foc (r := 0) hw1 rfl h62) (fun b64 G65 F66 c67 => ?_)
      refine ow_fact rfl (fun w1 hw1 => hw1.1) (fun q63 => ?_)
      obtain ⟨ha68, hn69⟩ := q63
      refine ow_st (C' := St w M0 [_, _, _]) rfl (fun w1 hw1 => hw1.2) ?_
      refine ow_ex2 rfl (fun w1 hw1 => opn_sl (i := 2) hw1 rfl) (fun a70 c71 => ?_)
      refine ow_fact rfl (fun w1 hw1 => hw1.1) (fun q72 => ?_)
      subst q72
      refine ow_st (C' := St w M0 [_, _, _]) rfl (fun w1 hw1 => hw1.2) ?_
      refine ow_ixH rfl rfl rfl rfl rfl sl60 ty59 rfl (holeIn (p := 1) rfl) hn69 ha68 (idx_some h62).1 ?_
      refine ow_r rfl (dstOk_lt rfl) (ry_hole1 1 0 rfl rfl rfl ty59 (by first | rfl | simp only [add_lit, add_add, add_zero]) rfl) ?_
      refine ow_batch [.p] rfl ?_
      obtain ⟨y73, h74, H⟩ := of_bind H
      refine ow_callS rfl fn71 rfl rfl rfl rfl (fun w1 hw1 => laws_markIntS_ok w1  h74 (hw1.carve [2] rfl rfl)) (fun v75 w1 w2 hw1 hR77 => ?_)
      obtain ⟨F78, rfl, hS76⟩ := hR77
      refine ⟨St w M0 [_, _, _, _], hw1.comp [2] rfl rfl hS76, fun _ _ => trivial, ?_⟩
      refine ow_batch [.p] rfl ?_
      refine ow_nil ?_
      refine x_qb ?_
      refine x_qs ?_
      refine CW.weak (C' := St w M0 [_, _]) ?_ (fun _ h => St.sel [1, 3] rfl rfl h)
      refine c_reg ?_
      refine ow_batch [.p, .p, .p] rfl ?_
      refine ow_nil ?_
      refine xw_ex (fun w1 hw1 => unf (p := 0) (q := 1) hw1 rfl rfl rfl hn69 ha68) (fun F79 => ?_)
      refine xw_st (C' := St w M0 [_, _, _]) (fun _ h => h) ?_
      exact x_ql (RW.at (ihk1 ((l34.set i37.toNat y73.2)) (F79) (y73.1) (IntKind.i64.wrap (i37 + 1)) (H)) (fun _ h => St.sel [2] rfl rfl h) ⟨rfl, rfl, rfl, trivial⟩)
    · have H := of_if_f hb H
      refine c_exit ?_
      refine x_qs_exit ?_
      refine x_ql_exit ?_
      refine x_qb_here ?_
      refine x_qs ?_
      refine c_seq ?_
      refine c_reg ?_
      refine ow_batch [.p, .p] rfl ?_
      refine ow_nil ?_
      refine x_qs ?_
      refine c_ret ?_
      exact x_retR (rs := [.tmp 4]) (vs := [.int .i64 i36]) rfl ⟨rfl, trivial⟩ (fun w' hw' => by
          obtain rfl := of_some H
          exact ⟨_, rfl, F35, rfl, hw'.sel [0] rfl rfl⟩)
set_option maxHeartbeats 4000000 in
set_option maxRecDepth 100000 in
theorem laws_markNodeS_ok (w : World) {M0 : List Nat} {p0 : List Timpl_Node} {p1 : Int} {a_0_0 : Option Addr} {n_0_0 c_0_0 : Nat} {F_0_0 : List Nat} {r : Int × (List Timpl_Node)} (H : laws_markNodeS p0 p1 = some r) (HS : St w M0 [Res.own (eList (eTimpl_Node) 118) F_0_0 p0 [.slice a_0_0 n_0_0 c_0_0]] w)  :
    Calls Tryz.prog 70 #[.slice a_0_0 n_0_0 c_0_0, .int .i64 p1] w (fun en w' => ∃ v, en = .returned v ∧ ∃ (F0 : List Nat), v = .int .i64 r.1 ∧ St w M0 [Res.own (eList (eTimpl_Node) 118) F0 r.2 [.slice a_0_0 n_0_0 c_0_0]] w') := by
  obtain rfl := own_nS (i := 0) HS rfl
  unfold laws_markNodeS at H
  refine f_enter (vs := [.slice a_0_0 p0.length c_0_0, .int .i64 p1]) Tryz.func70 rfl Tryz.ntmps70 rfl (HS) ?_
  refine c_seq ?_
  refine c_reg ?_
  refine ow_batch [.p] rfl ?_
  refine ow_nil ?_
  refine x_qs ?_
  refine c_seq ?_
  refine c_seq ?_
  refine c_reg ?_
  refine ow_batch [.p] rfl ?_
  refine ow_nil ?_
  refine x_qs ?_
  refine c_block ?_
  refine CW.at (loopI4 (fun (l62 : List Timpl_Node) (F63 : List Nat) (i65 : Int) (i66 : Int) => St w M0 [Res.own (eList (eTimpl_Node) 118) F63 l62 [.slice a_0_0 p0.length c_0_0]]) (fun (l62 : List Timpl_Node) (F63 : List Nat) (i65 : Int) (i66 : Int) => [(0, .slice a_0_0 p0.length c_0_0), (1, .int .i64 i65), (5, .int .i64 i66)]) (fun kk => fun (l62 : List Timpl_Node) (F63 : List Nat) (i65 : Int) (i66 : Int) => laws_markNodeS_L1 p0 kk l62 i65 i66 = some r) (fun _ _ _ _ H => ?_) (fun k1 ihk1 l62 F63 i65 i66 H => ?_) Fuel (p0) (F_0_0) (p1) (0) (H)) (fun _ h => St.sel [0] rfl rfl h) ⟨rfl, rfl, rfl,  trivial⟩
  · unfold laws_markNodeS_L1 at H
    exact absurd H (by simp)
  · unfold laws_markNodeS_L1 at H
    refine c_seq ?_
    refine c_seq ?_
    refine c_reg ?_
    refine ow_batch [.p, .p, .lenS 37 118 sl37, .p] rfl ?_
    refine ow_nil ?_
    refine x_qs ?_
    refine c_if rfl (fun hb => ?_) (fun hb => ?_)
    · have H := of_if_t hb H
      refine c_skip ?_
      refine x_qs ?_
      refine c_seq ?_
      refine c_block ?_
      refine c_seq ?_
      refine c_reg ?_
      refine ow_batch [.p, .p, .p, .p, .p] rfl ?_
      obtain ⟨e119, h120, H⟩ := of_bind H
      refine ow_ex4 rfl (fun w1 hw1 => foc (r := 0) hw1 rfl h120) (fun b122 G123 F124 c125 => ?_)
      refine ow_fact rfl (fun w1 hw1 => hw1.1) (fun q121 => ?_)
      obtain ⟨ha126, hn127⟩ := q121
      refine ow_st (C' := St w M0 [_, _, _]) rfl (fun w1 hw1 => hw1.2) ?_
      refine ow_ex3 rfl (fun w1 hw1 => opn_Timpl_Node (i := 2) hw1 rfl) (fun a129 c130 F131 => ?_)
      refine ow_ex3 rfl (fun _ h => h) (fun a132 c133 F134 => ?_)
      refine ow_ex3 rfl (fun _ h => h) (fun a135 c136 F137 => ?_)
      refine ow_ex3 rfl (fun _ h => h) (fun a138 c139 F140 => ?_)
      refine ow_fact rfl (fun w1 hw1 => hw1.1) (fun q128 => ?_)
      subst q128
      refine ow_st (C' := St w M0 [_, _, _, _, _, _, _]) rfl (fun w1 hw1 => hw1.2) ?_
      refine ow_ixH rfl rfl rfl rfl rfl sl37 ty118 rfl (holeIn (p := 1) rfl) hn127 ha126 (idx_some h120).1 ?_
      refine ow_batch [.fa 118 0 0 fa118_0] rfl ?_
      refine ow_storeH (off := 0) [.bool ((Int.tmod i65 3) == 0)] (p := 1) (c' := [_, _, _, _, _, _, _, _, _, _, _, _]) rfl rfl rfl rfl rfl (by first | rfl | simp only [add_lit, add_add, add_zero]) rfl ty4 rfl rfl (by intro u hu; simp only [List.mem_cons, List.not_mem_nil, or_false] at hu; rcases hu with rfl <;> rfl) rfl rfl rfl kp ?_
      refine ow_nil ?_
      refine x_qs ?_
      refine c_seq ?_
      refine CW.weak (C' := St w M0 [_, _, _, _, _]) ?_ (fun _ h => St.sel [1, 3, 4, 5, 6] rfl rfl h)
      refine c_reg ?_
      refine ow_batch [.p, .p, .p] rfl ?_
      refine ow_nil ?_
      refine x_qs ?_
      refine c_seq ?_
      refine c_reg ?_
      refine ow_batch [.p, .p, .p] rfl ?_
      refine ow_ixH rfl rfl rfl rfl rfl sl37 ty118 rfl (holeIn (p := 0) rfl) hn127 ha126 (idx_some h120).1 ?_
      refine ow_batch [.fa 118 1 1 fa118_1, .fa 116 0 0 fa116_0] rfl ?_
      refine ow_storeH (off := 1) [.int .i64 (IntKind.i64.wrap (i65 + 1))] (p := 0) (c' := [_, _, _, _, _, _, _, _, _, _, _, _]) rfl rfl rfl rfl rfl (by first | rfl | simp only [add_lit, add_add, add_zero]) rfl ty3 rfl rfl (by intro u hu; simp only [List.mem_cons, List.not_mem_nil, or_false] at hu; rcases hu with rfl <;> rfl) rfl rfl rfl kp ?_
      refine ow_nil ?_
      refine x_qs ?_
      refine c_seq ?_
      refine c_reg ?_
      refine ow_batch [.p, .p, .p] rfl ?_
      refine ow_nil ?_
      refine x_qs ?_
      refine c_seq ?_
      refine c_reg ?_
      refine ow_batch [.p, .p, .p] rfl ?_
      refine ow_ixH rfl rfl rfl rfl rfl sl37 ty118 rfl (holeIn (p := 0) rfl) hn127 ha126 (idx_some h120).1 ?_
      refine ow_batch [.fa 118 1 1 fa118_1, .fa 116 1 1 fa116_1] rfl ?_
      refine ow_storeH (off := 2) [.int .i64 (IntKind.i64.wrap ((IntKind.i64.wrap (i65 + 1)) + 1))] (p := 0) (c' := [_, _, _, _, _, _, _, _, _, _, _, _]) rfl rfl rfl rfl rfl (by first | rfl | simp only [add_lit, add_add, add_zero]) rfl ty3 rfl rfl (by intro u hu; simp only [List.mem_cons, List.not_mem_nil, or_false] at hu; rcases hu with rfl <;> rfl) rfl rfl rfl kp ?_
      refine ow_nil ?_
      refine x_qs ?_
      refine c_seq ?_
      refine c_reg ?_
      refine ow_batch [.p, .p, .p] rfl ?_
      refine ow_nil ?_
      refine x_qs ?_
      refine c_seq ?_
      refine c_reg ?_
      refine ow_batch [.p, .p] rfl ?_
      refine ow_ixH rfl rfl rfl rfl rfl sl37 ty118 rfl (holeIn (p := 0) rfl) hn127 ha126 (idx_some h120).1 ?_
      refine ow_batch [.fa 118 2 3 fa118_2] rfl ?_
      refine ow_r rfl (dstOk_lt rfl) (ry_hole1 0 3 rfl rfl rfl ty59 (by first | rfl | simp only [add_lit, add_add, add_zero]) rfl) ?_
      refine ow_batch [.p] rfl ?_
      obtain ⟨y141, h142, H⟩ := of_bind H
      refine ow_callS rfl fn71 rfl rfl rfl rfl (fun w1 hw1 => laws_markIntS_ok w1  h142 (hw1.carve [1] rfl rfl)) (fun v143 w1 w2 hw1 hR145 => ?_)
      obtain ⟨F146, rfl, hS144⟩ := hR145
      refine ⟨St w M0 [_, _, _, _, _, _], hw1.comp [1] rfl rfl hS144, fun _ _ => trivial, ?_⟩
      refine ow_batch [.p] rfl ?_
      refine ow_nil ?_
      refine x_qs ?_
      refine c_seq ?_
      refine c_reg ?_
      refine ow_batch [.p, .p, .p] rfl ?_
      refine ow_ixH rfl rfl rfl rfl rfl sl37 ty118 rfl (holeIn (p := 0) rfl) hn127 ha126 (idx_some h120).1 ?_
      refine ow_batch [.fa 118 3 4 fa118_3] rfl ?_
      refine ow_storeH (off := 4) [.int .i64 y141.1] (p := 0) (c' := [_, _, _, _, _, _, _, _, _, _, _, _]) rfl rfl rfl rfl rfl (by first | rfl | simp only [add_lit, add_add, add_zero]) rfl ty3 rfl rfl (by intro u hu; simp only [List.mem_cons, List.not_mem_nil, or_false] at hu; rcases hu with rfl <;> rfl) rfl rfl rfl kp ?_
      refine ow_nil ?_
      refine x_qs ?_
      refine c_seq ?_
      refine c_reg ?_
      refine ow_batch [.p, .p, .p] rfl ?_
      refine ow_nil ?_
      refine x_qs ?_
      refine c_seq ?_
      refine c_reg ?_
      refine ow_batch [.p, .p] rfl ?_
      refine ow_ixH rfl rfl rfl rfl rfl sl37 ty118 rfl (holeIn (p := 0) rfl) hn127 ha126 (idx_some h120).1 ?_
      refine ow_batch [.fa 118 4 5 fa118_4, .fa 62 0 0 fa62_0] rfl ?_
      refine ow_r rfl (dstOk_lt rfl) (ry_hole1 0 5 rfl rfl rfl ty59 (by first | rfl | simp only [add_lit, add_add, add_zero]) rfl) ?_
      refine ow_batch [.p] rfl ?_
      obtain ⟨y147, h148, H⟩ := of_bind H
      refine ow_callS rfl fn71 rfl rfl rfl rfl (fun w1 hw1 => laws_markIntS_ok w1  h148 (hw1.carve [2] rfl rfl)) (fun v149 w1 w2 hw1 hR151 => ?_)
      obtain ⟨F152, rfl, hS150⟩ := hR151
      refine ⟨St w M0 [_, _, _, _, _, _, _], hw1.comp [2] rfl rfl hS150, fun _ _ => trivial, ?_⟩
      refine ow_batch [.p] rfl ?_
      refine ow_nil ?_
      refine x_qs ?_
      refine c_seq ?_
      refine CW.weak (C' := St w M0 [_, _, _, _, _]) ?_ (fun _ h => St.sel [0, 3, 4, 5, 6] rfl rfl h)
      refine c_reg ?_
      refine ow_batch [.p, .p] rfl ?_
      refine ow_ixH rfl rfl rfl rfl rfl sl37 ty118 rfl (holeIn (p := 0) rfl) hn127 ha126 (idx_some h120).1 ?_
      refine ow_batch [.fa 118 4 5 fa118_4, .fa 62 1 1 fa62_1] rfl ?_
      refine ow_r rfl (dstOk_lt rfl) (ry_hole1 0 6 rfl rfl rfl ty60 (by first | rfl | simp only [add_lit, add_add, add_zero]) rfl) ?_
      refine ow_batch [.p] rfl ?_
      obtain ⟨y153, h154, H⟩ := of_bind H
      refine ow_callS rfl fn94 rfl rfl rfl rfl (fun w1 hw1 => laws_markIntSS_ok w1  h154 (hw1.carve [1] rfl rfl)) (fun v155 w1 w2 hw1 hR157 => ?_)
      obtain ⟨F158, rfl, hS156⟩ := hR157
      refine ⟨St w M0 [_, _, _, _, _, _], hw1.comp [1] rfl rfl hS156, fun _ _ => trivial, ?_⟩
      refine ow_batch [.p] rfl ?_
      refine ow_nil ?_
      refine x_qs ?_
      refine c_seq ?_
      refine c_reg ?_
      refine ow_batch [.p, .p, .p] rfl ?_
      refine ow_ixH rfl rfl rfl rfl rfl sl37 ty118 rfl (holeIn (p := 0) rfl) hn127 ha126 (idx_some h120).1 ?_
      refine ow_batch [.fa 118 5 7 fa118_5] rfl ?_
      refine ow_storeH (off := 7) [.int .i64 y153.1] (p := 0) (c' := [_, _, _, _, _, _, _, _, _, _, _, _]) rfl rfl rfl rfl rfl (by first | rfl | simp only [add_lit, add_add, add_zero]) rfl ty3 rfl rfl (by intro u hu; simp only [List.mem_cons, List.not_mem_nil, or_false] at hu; rcases hu with rfl <;> rfl) rfl rfl rfl kp ?_
      refine ow_nil ?_
      refine x_qs ?_
      refine c_seq ?_
      refine c_reg ?_
      refine ow_batch [.p, .p, .p] rfl ?_
      refine ow_nil ?_
      refine x_qs ?_
      refine c_seq ?_
      refine c_reg ?_
      refine ow_batch [.p, .p] rfl ?_
      refine ow_ixH rfl rfl rfl rfl rfl sl37 ty118 rfl (holeIn (p := 0) rfl) hn127 ha126 (idx_some h120).1 ?_
      refine ow_batch [.fa 118 6 8 fa118_6] rfl ?_
      refine ow_r rfl (dstOk_lt rfl) (ry_hole1 0 8 rfl rfl rfl ty59 (by first | rfl | simp only [add_lit, add_add, add_zero]) rfl) ?_
      refine ow_batch [.p] rfl ?_
      obtain ⟨y159, h160, H⟩ := of_bind H
      refine ow_callS rfl fn71 rfl rfl rfl rfl (fun w1 hw1 => laws_markIntS_ok w1  h160 (hw1.carve [2] rfl rfl)) (fun v161 w1 w2 hw1 hR163 => ?_)
      obtain ⟨F164, rfl, hS162⟩ := hR163
      refine ⟨St w M0 [_, _, _, _, _, _, _], hw1.comp [2] rfl rfl hS162, fun _ _ => trivial, ?_⟩
      refine ow_batch [.p] rfl ?_
      refine ow_nil ?_
      refine x_qs ?_
      refine c_seq ?_
      refine CW.weak (C' := St w M0 [_, _, _, _, _]) ?_ (fun _ h => St.sel [0, 3, 4, 5, 6] rfl rfl h)
      refine c_reg ?_
      refine ow_batch [.p, .p, .p] rfl ?_
      refine ow_ixH rfl rfl rfl rfl rfl sl37 ty118 rfl (holeIn (p := 0) rfl) hn127 ha126 (idx_some h120).1 ?_
      refine ow_batch [.fa 118 7 9 fa118_7] rfl ?_
      refine ow_storeH (off := 9) [.int .i64 y159.1] (p := 0) (c' := [_, _, _, _, _, _, _, _, _, _, _, _]) rfl rfl rfl rfl rfl (by first | rfl | simp only [add_lit, add_add, add_zero]) rfl ty3 rfl rfl (by intro u hu; simp only [List.mem_cons, List.not_mem_nil, or_false] at hu; rcases hu with rfl <;> rfl) rfl rfl rfl kp ?_
      refine ow_nil ?_
      refine x_qs ?_
      refine c_seq ?_
      refine c_reg ?_
      refine ow_batch [.p, .p, .p] rfl ?_
      refine ow_nil ?_
      refine x_qs ?_
      refine c_seq ?_
      refine c_reg ?_
      refine ow_batch [.p, .p, .p] rfl ?_
      refine ow_ixH rfl rfl rfl rfl rfl sl37 ty118 rfl (holeIn (p := 0) rfl) hn127 ha126 (idx_some h120).1 ?_
      refine ow_batch [.fa 118 8 10 fa118_8] rfl ?_
      refine ow_storeH (off := 10) [.int .i64 (IntKind.i64.wrap (y159.1 + 1))] (p := 0) (c' := [_, _, _, _, _, _, _, _, _, _, _, _]) rfl rfl rfl rfl rfl (by first | rfl | simp only [add_lit, add_add, add_zero]) rfl ty3 rfl rfl (by intro u hu; simp only [List.mem_cons, List.not_mem_nil, or_false] at hu; rcases hu with rfl <;> rfl) rfl rfl rfl kp ?_
      refine ow_nil ?_
      refine x_qs ?_
      refine c_seq ?_
      refine c_reg ?_
      refine ow_batch [.p, .p, .p] rfl ?_
      refine ow_nil ?_
      refine x_qs ?_
      refine c_seq ?_
      refine c_reg ?_
      refine ow_batch [.p, .p, .p] rfl ?_
      refine ow_ixH rfl rfl rfl rfl rfl sl37 ty118 rfl (holeIn (p := 0) rfl) hn127 ha126 (idx_some h120).1 ?_
      refine ow_batch [.fa 118 9 11 fa118_9] rfl ?_
      refine ow_storeH (off := 11) [.int .i64 (IntKind.i64.wrap ((IntKind.i64.wrap (y159.1 + 1)) + 1))] (p := 0) (c' := [_, _, _, _, _, _, _, _, _, _, _, _]) rfl rfl rfl rfl rfl (by first | rfl | simp only [add_lit, add_add, add_zero]) rfl ty3 rfl rfl (by intro u hu; simp only [List.mem_cons, List.not_mem_nil, or_false] at hu; rcases hu with rfl <;> rfl) rfl rfl rfl kp ?_
      refine ow_nil ?_
      refine x_qs ?_
      refine c_reg ?_
      refine ow_batch [.p, .p, .p] rfl ?_
      refine ow_nil ?_
      refine x_qb ?_
      refine x_qs ?_
      refine c_reg ?_
      refine ow_batch [.p, .p, .p] rfl ?_
      refine ow_nil ?_
      refine xw_ex (fun w1 hw1 => fus_Timpl_Node (x0 := ((Int.tmod i65 3) == 0)) (x1 := IntKind.i64.wrap (i65 + 1)) (x2 := IntKind.i64.wrap ((IntKind.i64.wrap (i65 + 1)) + 1)) (x4 := y141.1) (x7 := y153.1) (x9 := y159.1) (x10 := IntKind.i64.wrap (y159.1 + 1)) (x11 := IntKind.i64.wrap ((IntKind.i64.wrap (y159.1 + 1)) + 1)) [1, 2, 3, 4] hw1 rfl rfl) (fun F165 => ?_)
      refine xw_st (C' := St w M0 [_, _, _, _, _, _]) (fun _ h => h) ?_
      refine xw_ex (fun w1 hw1 => unf (p := 0) (q := 5) hw1 rfl rfl rfl hn127 ha126) (fun F166 => ?_)
      refine xw_st (C' := St w M0 [_, _, _, _, _, _, _]) (fun _ h => h) ?_
      exact x_ql (RW.at (ihk1 ((l62.set i66.toNat (Timpl_Node.mk ((Int.tmod i65 3) == 0) (Timpl_Fork.mk (IntKind.i64.wrap (i65 + 1)) (IntKind.i64.wrap ((IntKind.i64.wrap (i65 + 1)) + 1))) y141.2 y141.1 (Timpl_Stats.mk y147.2 y153.2) y153.1 y159.2 y159.1 (IntKind.i64.wrap (y159.1 + 1)) (IntKind.i64.wrap ((IntKind.i64.wrap (y159.1 + 1)) + 1))))) (F166) (IntKind.i64.wrap ((IntKind.i64.wrap ((IntKind.i64.wrap (y159.1 + 1)) + 1)) + 1)) (IntKind.i64.wrap (i66 + 1)) (H)) (fun _ h => St.sel [6] rfl rfl h) ⟨rfl, rfl, rfl, trivial⟩)
    · have H := of_if_f hb H
      refine c_exit ?_
      refine x_qs_exit ?_
      refine x_ql_exit ?_
      refine x_qb_here ?_
      refine x_qs ?_
      refine c_seq ?_
      refine c_reg ?_
      refine ow_batch [.p, .p] rfl ?_
      refine ow_nil ?_
      refine x_qs ?_
      refine c_ret ?_
      exact x_retR (rs := [.tmp 4]) (vs := [.int .i64 i65]) rfl ⟨rfl, trivial⟩ (fun w' hw' => by
          obtain rfl := of_some H
          exact ⟨_, rfl, F63, rfl, hw'.sel [0] rfl rfl⟩)
set_option maxHeartbeats 4000000 in
set_option maxRecDepth 100000 in
theorem laws_markTree_ok (w : World) {M0 : List Nat} {p0 : Timpl_Tree} {p1 : Int} {a_0_0 : Option Addr} {n_0_0 c_0_0 : Nat} {F_0_0 : List Nat} {r : Int × Timpl_Tree} (H : laws_markTree p0 p1 = some r) (HS : St w M0 [Res.own (eList (eTimpl_Node) 118) F_0_0 p0.Nodes_ [.slice a_0_0 n_0_0 c_0_0]] w)  :
    Calls Tryz.prog 18 #[.agg #[.slice a_0_0 n_0_0 c_0_0, .int .i64 p0.Seen_], .int .i64 p1] w (fun en w' => ∃ v, en = .returned v ∧ ∃ (F0 : List Nat), v = .int .i64 r.1 ∧ St w M0 [Res.own (eList (eTimpl_Node) 118) F0 r.2.Nodes_ [.slice a_0_0 n_0_0 c_0_0]] w') := by
  obtain rfl := own_nS (i := 0) HS rfl
  unfold laws_markTree at H
  refine f_enter (vs := [.agg #[.slice a_0_0 p0.Nodes_.length c_0_0, .int .i64 p0.Seen_], .int .i64 p1]) Tryz.func18 rfl Tryz.ntmps18 rfl (HS) ?_
  refine c_seq ?_
  refine c_reg ?_
  refine ow_box (cs := [.slice a_0_0 p0.Nodes_.length c_0_0, .int .i64 p0.Seen_]) rfl rfl rfl rfl rfl rfl (fun _ => kp) (fun b10 => ?_)
  refine ow_batch [.p] rfl ?_
  refine ow_nil ?_
  refine x_qs ?_
  refine c_seq ?_
  refine c_reg ?_
  refine ow_batch [.fa 39 0 0 fa39_0] rfl ?_
  refine ow_r rfl (dstOk_lt rfl) (ry_box1 (off := 0) rfl rfl ty37 (boxIn (i := 1) rfl) rfl) ?_
  refine ow_batch [.p] rfl ?_
  obtain ⟨y11, h12, H⟩ := of_bind H
  refine ow_callS rfl fn70 rfl rfl rfl rfl (fun w1 hw1 => laws_markNodeS_ok w1  h12 (hw1.carve [0] rfl rfl)) (fun v13 w1 w2 hw1 hR15 => ?_)
  obtain ⟨F16, rfl, hS14⟩ := hR15
  refine ⟨St w M0 [_, _, _], hw1.comp [0] rfl rfl hS14, fun _ _ => trivial, ?_⟩
  refine ow_batch [.p] rfl ?_
  refine ow_nil ?_
  refine x_qs ?_
  refine c_seq ?_
  refine c_reg ?_
  refine ow_batch [.p, .p] rfl ?_
  refine ow_nil ?_
  refine x_qs ?_
  refine c_ret ?_
  exact x_retR (rs := [.tmp 4]) (vs := [.int .i64 y11.1]) rfl ⟨rfl, trivial⟩ (fun w' hw' => by
      obtain rfl := of_some H
      exact ⟨_, rfl, F16, rfl, hw'.sel [2] rfl rfl⟩)
set_option maxHeartbeats 4000000 in
set_option maxRecDepth 100000 in
theorem laws_markWayS_ok (w : World) {M0 : List Nat} {p0 : List Timpl_Way} {p1 : Int} {a_0_0 : Option Addr} {n_0_0 c_0_0 : Nat} {F_0_0 : List Nat} {r : Int × (List Timpl_Way)} (H : laws_markWayS p0 p1 = some r) (HS : St w M0 [Res.own (eList (eTimpl_Way) 111) F_0_0 p0 [.slice a_0_0 n_0_0 c_0_0]] w)  :
    Calls Tryz.prog 19 #[.slice a_0_0 n_0_0 c_0_0, .int .i64 p1] w (fun en w' => ∃ v, en = .returned v ∧ ∃ (F0 : List Nat), v = .int .i64 r.1 ∧ St w M0 [Res.own (eList (eTimpl_Way) 111) F0 r.2 [.slice a_0_0 n_0_0 c_0_0]] w') := by
  obtain rfl := own_nS (i := 0) HS rfl
  unfold laws_markWayS at H
  refine f_enter (vs := [.slice a_0_0 p0.length c_0_0, .int .i64 p1]) Tryz.func19 rfl Tryz.ntmps19 rfl (HS) ?_
  refine c_seq ?_
  refine c_reg ?_
  refine ow_batch [.p] rfl ?_
  refine ow_nil ?_
  refine x_qs ?_
  refine c_seq ?_
  refine c_seq ?_
  refine c_reg ?_
  refine ow_batch [.p] rfl ?_
  refine ow_nil ?_
  refine x_qs ?_
  refine c_block ?_
  refine CW.at (loopI4 (fun (l35 : List Timpl_Way) (F36 : List Nat) (i37 : Int) (i38 : Int) => St w M0 [Res.own (eList (eTimpl_Way) 111) F36 l35 [.slice a_0_0 p0.length c_0_0]]) (fun (l35 : List Timpl_Way) (F36 : List Nat) (i37 : Int) (i38 : Int) => [(0, .slice a_0_0 p0.length c_0_0), (1, .int .i64 i37), (5, .int .i64 i38)]) (fun kk => fun (l35 : List Timpl_Way) (F36 : List Nat) (i37 : Int) (i38 : Int) => laws_markWayS_L1 p0 kk l35 i37 i38 = some r) (fun _ _ _ _ H => ?_) (fun k1 ihk1 l35 F36 i37 i38 H => ?_) Fuel (p0) (F_0_0) (p1) (0) (H)) (fun _ h => St.sel [0] rfl rfl h) ⟨rfl, rfl, rfl,  trivial⟩
  · unfold laws_markWayS_L1 at H
    exact absurd H (by simp)
  · unfold laws_markWayS_L1 at H
    refine c_seq ?_
    refine c_seq ?_
    refine c_reg ?_
    refine ow_batch [.p, .p, .lenS 31 111 sl31, .p] rfl ?_
    refine ow_nil ?_
    refine x_qs ?_
    refine c_if rfl (fun hb => ?_) (fun hb => ?_)
    · have H := of_if_t hb H
      refine c_skip ?_
      refine x_qs ?_
      refine c_seq ?_
      refine c_block ?_
      refine c_seq ?_
      refine c_reg ?_
      refine ow_batch [.p, .p, .p] rfl ?_
      obtain ⟨e64, h65, H⟩ := of_bind H
      refine ow_ex4 rfl (fun w1 hw1 => foc (r := 0) hw1 rfl h65) (fun b67 G68 F69 c70 => ?_)
      refine ow_fact rfl (fun w1 hw1 => hw1.1) (fun q66 => ?_)
      obtain ⟨ha71, hn72⟩ := q66
      refine ow_st (C' := St w M0 [_, _, _]) rfl (fun w1 hw1 => hw1.2) ?_
      refine ow_ex3 rfl (fun w1 hw1 => opn_Timpl_Way (i := 2) hw1 rfl) (fun a74 c75 F76 => ?_)
      refine ow_fact rfl (fun w1 hw1 => hw1.1) (fun q73 => ?_)
      subst q73
      refine ow_st (C' := St w M0 [_, _, _, _]) rfl (fun w1 hw1 => hw1.2) ?_
      refine ow_ixH rfl rfl rfl rfl rfl sl31 ty111 rfl (holeIn (p := 1) rfl) hn72 ha71 (idx_some h65).1 ?_
      refine ow_batch [.fa 111 0 0 fa111_0] rfl ?_
      refine ow_storeH (off := 0) [.int .i64 i37] (p := 1) (c' := [_, _]) rfl rfl rfl rfl rfl (by first | rfl | simp only [add_lit, add_add, add_zero]) rfl ty3 rfl rfl (by intro u hu; simp only [List.mem_cons, List.not_mem_nil, or_false] at hu; rcases hu with rfl <;> rfl) rfl rfl rfl kp ?_
      refine ow_nil ?_
      refine x_qs ?_
      refine c_seq ?_
      refine CW.weak (C' := St w M0 [_, _]) ?_ (fun _ h => St.sel [1, 3] rfl rfl h)
      refine c_reg ?_
      refine ow_batch [.p, .p, .p] rfl ?_
      refine ow_nil ?_
      refine x_qs ?_
      refine c_reg ?_
      refine ow_batch [.p, .p] rfl ?_
      refine ow_ixH rfl rfl rfl rfl rfl sl31 ty111 rfl (holeIn (p := 0) rfl) hn72 ha71 (idx_some h65).1 ?_
      refine ow_batch [.fa 111 1 1 fa111_1] rfl ?_
      refine ow_r rfl (dstOk_lt rfl) (ry_hole1 0 1 rfl rfl rfl ty59 (by first | rfl | simp only [add_lit, add_add, add_zero]) rfl) ?_
      refine ow_batch [.p] rfl ?_
      obtain ⟨y77, h78, H⟩ := of_bind H
      refine ow_callS rfl fn71 rfl rfl rfl rfl (fun w1 hw1 => laws_markIntS_ok w1  h78 (hw1.carve [1] rfl rfl)) (fun v79 w1 w2 hw1 hR81 => ?_)
      obtain ⟨F82, rfl, hS80⟩ := hR81
      refine ⟨St w M0 [_, _, _], hw1.comp [1] rfl rfl hS80, fun _ _ => trivial, ?_⟩
      refine ow_batch [.p] rfl ?_
      refine ow_nil ?_
      refine x_qb ?_
      refine x_qs ?_
      refine c_reg ?_
      refine ow_batch [.p, .p, .p] rfl ?_
      refine ow_nil ?_
      refine xw_ex (fun w1 hw1 => fus_Timpl_Way (x0 := i37) [2] hw1 rfl rfl) (fun F83 => ?_)
      refine xw_st (C' := St w M0 [_, _, _, _]) (fun _ h => h) ?_
      refine xw_ex (fun w1 hw1 => unf (p := 0) (q := 3) hw1 rfl rfl rfl hn72 ha71) (fun F84 => ?_)
      refine xw_st (C' := St w M0 [_, _, _, _, _]) (fun _ h => h) ?_
      exact x_ql (RW.at (ihk1 ((l35.set i38.toNat (Timpl_Way.mk i37 y77.2))) (F84) (y77.1) (IntKind.i64.wrap (i38 + 1)) (H)) (fun _ h => St.sel [4] rfl rfl h) ⟨rfl, rfl, rfl, trivial⟩)
    · have H := of_if_f hb H
      refine c_exit ?_
      refine x_qs_exit ?_
      refine x_ql_exit ?_
      refine x_qb_here ?_
      refine x_qs ?_
      refine c_seq ?_
      refine c_reg ?_
      refine ow_batch [.p, .p] rfl ?_
      refine ow_nil ?_
      refine x_qs ?_
      refine c_ret ?_
      exact x_retR (rs := [.tmp 4]) (vs := [.int .i64 i37]) rfl ⟨rfl, trivial⟩ (fun w' hw' => by
          obtain rfl := of_some H
          exact ⟨_, rfl, F36, rfl, hw'.sel [0] rfl rfl⟩)
set_option maxHeartbeats 4000000 in
set_option maxRecDepth 100000 in
theorem laws_heldIntS_ok (w : World) {p0 : List Int} {p1 : Int} {a_0 : Option Addr} {n_0 c_0 : Nat} {r : Int} (H : laws_heldIntS p0 p1 = some r)  (g0 : (eList (eVal (Value.int .i64) (fun _ => rfl)) 3).rd w [] p0 [.slice a_0 n_0 c_0]) :
    Calls Tryz.prog 72 #[.slice a_0 n_0 c_0, .int .i64 p1] w (fun en w' => en = .returned (.int .i64 r) ∧ Ext [] w w') := by
  obtain rfl := rd_n g0
  unfold laws_heldIntS at H
  refine f_enter (vs := [.slice a_0 p0.length c_0, .int .i64 p1]) Tryz.func72 rfl Tryz.ntmps72 rfl (St.init w []) ?_
  refine c_seq ?_
  refine c_reg ?_
  refine ow_batch [.p] rfl ?_
  refine ow_nil ?_
  refine x_qs ?_
  refine c_seq ?_
  refine c_seq ?_
  refine c_reg ?_
  refine ow_batch [.p] rfl ?_
  refine ow_nil ?_
  refine x_qs ?_
  refine c_block ?_
  refine CW.at (loopI2 (fun (i14 : Int) (i15 : Int) => St w [] []) (fun (i14 : Int) (i15 : Int) => [(0, .slice a_0 p0.length c_0), (1, .int .i64 i14), (5, .int .i64 i15)]) (fun kk => fun (i14 : Int) (i15 : Int) => laws_heldIntS_L1 p0 kk i14 i15 = some r) (fun _ _ H => ?_) (fun k1 ihk1 i14 i15 H => ?_) Fuel (p1) (0) (H)) (fun _ h => St.sel [] rfl rfl h) ⟨rfl, rfl, rfl,  trivial⟩
  · unfold laws_heldIntS_L1 at H
    exact absurd H (by simp)
  · unfold laws_heldIntS_L1 at H
    refine c_seq ?_
    refine c_seq ?_
    refine c_reg ?_
    refine ow_batch [.p, .p, .lenS 59 3 sl59, .p] rfl ?_
    refine ow_nil ?_
    refine x_qs ?_
    refine c_if rfl (fun hb => ?_) (fun hb => ?_)
    · have H := of_if_t hb H
      refine c_skip ?_
      refine x_qs ?_
      refine c_seq ?_
      refine c_block ?_
      refine c_seq ?_
      refine c_seq ?_
      refine c_reg ?_
      refine ow_batch [.p, .p] rfl ?_
      obtain ⟨e20, h21, H⟩ := of_bind H
      refine ow_ixE (e := eVal (Value.int .i64) (fun _ => rfl)) (xs := p0) (j := i15) rfl rfl rfl rfl rfl sl59 ty3 rfl (fun w1 hw1 => rds_bor g0 w1 hw1) h21 (by rw [Nat.mul_one]) ?_
      refine ow_r rfl (dstOk_lt rfl) (ry_load1 rfl rfl ty3 (at_elV (fun w1 hw1 => rds_bor g0 w1 hw1) h21)) ?_
      refine ow_batch [.p, .p] rfl ?_
      refine ow_nil ?_
      refine x_qs ?_
      refine c_if rfl (fun hb => ?_) (fun hb => ?_)
      · have H := of_if_t hb H
        refine c_seq ?_
        refine c_reg ?_
        refine ow_batch [.p] rfl ?_
        refine ow_nil ?_
        refine x_qs ?_
        refine c_ret ?_
        refine x_qs_ret ?_
        refine x_qb_ret ?_
        refine x_qs_ret ?_
        refine x_ql_ret ?_
        refine x_qb_ret ?_
        refine x_qs_ret ?_
        exact x_retR (rs := [.tmp 4]) (vs := [.int .i64 (-1)]) rfl ⟨rfl, trivial⟩ (fun w' hw' => by
            obtain rfl := of_some H
            exact ⟨rfl, hw'.ext⟩)
      · have H := of_if_f hb H
        refine c_skip ?_
        refine x_qs ?_
        refine c_reg ?_
        refine ow_batch [.p, .p, .p] rfl ?_
        refine ow_nil ?_
        refine x_qb ?_
        refine x_qs ?_
        refine c_reg ?_
        refine ow_batch [.p, .p, .p] rfl ?_
        refine ow_nil ?_
        exact x_ql (RW.at (ihk1 (IntKind.i64.wrap (i14 + 1)) (IntKind.i64.wrap (i15 + 1)) (H)) (fun _ h => St.sel [] rfl rfl h) ⟨rfl, rfl, rfl, trivial⟩)
    · have H := of_if_f hb H
      refine c_exit ?_
      refine x_qs_exit ?_
      refine x_ql_exit ?_
      refine x_qb_here ?_
      refine x_qs ?_
      refine c_seq ?_
      refine c_reg ?_
      refine ow_batch [.p, .p] rfl ?_
      refine ow_nil ?_
      refine x_qs ?_
      refine c_ret ?_
      exact x_retR (rs := [.tmp 4]) (vs := [.int .i64 i14]) rfl ⟨rfl, trivial⟩ (fun w' hw' => by
          obtain rfl := of_some H
          exact ⟨rfl, hw'.ext⟩)
set_option maxHeartbeats 4000000 in
set_option maxRecDepth 100000 in
theorem laws_heldWayS_ok (w : World) {p0 : List Timpl_Way} {p1 : Int} {a_0 : Option Addr} {n_0 c_0 : Nat} {r : Int} (H : laws_heldWayS p0 p1 = some r)  (g0 : (eList (eTimpl_Way) 111).rd w [] p0 [.slice a_0 n_0 c_0]) :
    Calls Tryz.prog 20 #[.slice a_0 n_0 c_0, .int .i64 p1] w (fun en w' => en = .returned (.int .i64 r) ∧ Ext [] w w') := by
  obtain rfl := rd_n g0
  unfold laws_heldWayS at H
  refine f_enter (vs := [.slice a_0 p0.length c_0, .int .i64 p1]) Tryz.func20 rfl Tryz.ntmps20 rfl (St.init w []) ?_
  refine c_seq ?_
  refine c_reg ?_
  refine ow_batch [.p] rfl ?_
  refine ow_nil ?_
  refine x_qs ?_
  refine c_seq ?_
  refine c_seq ?_
  refine c_reg ?_
  refine ow_batch [.p] rfl ?_
  refine ow_nil ?_
  refine x_qs ?_
  refine c_block ?_
  refine CW.at (loopI2 (fun (i38 : Int) (i39 : Int) => St w [] []) (fun (i38 : Int) (i39 : Int) => [(0, .slice a_0 p0.length c_0), (1, .int .i64 i38), (5, .int .i64 i39)]) (fun kk => fun (i38 : Int) (i39 : Int) => laws_heldWayS_L1 p0 kk i38 i39 = some r) (fun _ _ H => ?_) (fun k1 ihk1 i38 i39 H => ?_) Fuel (p1) (0) (H)) (fun _ h => St.sel [] rfl rfl h) ⟨rfl, rfl, rfl,  trivial⟩
  · unfold laws_heldWayS_L1 at H
    exact absurd H (by simp)
  · unfold laws_heldWayS_L1 at H
    refine c_seq ?_
    refine c_seq ?_
    refine c_reg ?_
    refine ow_batch [.p, .p, .lenS 31 111 sl31, .p] rfl ?_
    refine ow_nil ?_
    refine x_qs ?_
    refine c_if rfl (fun hb => ?_) (fun hb => ?_)
    · have H := of_if_t hb H
      refine c_skip ?_
      refine x_qs ?_
      refine c_seq ?_
      refine c_block ?_
      refine c_seq ?_
      refine c_seq ?_
      refine c_reg ?_
      refine ow_batch [.p, .p] rfl ?_
      obtain ⟨e68, h69, H⟩ := of_bind H
      refine ow_ixB rfl rfl rfl rfl rfl sl31 ty111 rfl g0 h69 (fun q72 c73 hd70 hA71 => ?_)
      obtain ⟨c74, c75, rfl, g76, g77⟩ := rdo_Timpl_Way hd70
      obtain rfl : c74 = [.int .i64 e68.Leaf_] := g76
      obtain ⟨a78, c79, rfl⟩ := rd_sl1 g77
      refine ow_batch [.fa 111 0 0 fa111_0] rfl ?_
      refine ow_r rfl (dstOk_lt rfl) (ry_load1 rfl rfl ty3 (at_bor bor (at_K hA71 0 1))) ?_
      refine ow_batch [.p, .p] rfl ?_
      refine ow_nil ?_
      refine x_qs ?_
      refine c_if rfl (fun hb => ?_) (fun hb => ?_)
      · have H := of_if_t hb H
        refine c_seq ?_
        refine c_reg ?_
        refine ow_batch [.p] rfl ?_
        refine ow_nil ?_
        refine x_qs ?_
        refine c_ret ?_
        refine x_qs_ret ?_
        refine x_qb_ret ?_
        refine x_qs_ret ?_
        refine x_ql_ret ?_
        refine x_qb_ret ?_
        refine x_qs_ret ?_
        exact x_retR (rs := [.tmp 4]) (vs := [.int .i64 (-1)]) rfl ⟨rfl, trivial⟩ (fun w' hw' => by
            obtain rfl := of_some H
            exact ⟨rfl, hw'.ext⟩)
      · have H := of_if_f hb H
        refine c_skip ?_
        refine x_qs ?_
        refine c_seq ?_
        refine c_reg ?_
        refine ow_batch [.p, .p, .p] rfl ?_
        refine ow_nil ?_
        refine x_qs ?_
        refine c_seq ?_
        refine c_reg ?_
        refine ow_batch [.p, .p] rfl ?_
        obtain ⟨e80, h81, H⟩ := of_bind H
        refine ow_ixB rfl rfl rfl rfl rfl sl31 ty111 rfl g0 h81 (fun q84 c85 hd82 hA83 => ?_)
        obtain ⟨c86, c87, rfl, g88, g89⟩ := rdo_Timpl_Way hd82
        obtain rfl : c86 = [.int .i64 e80.Leaf_] := g88
        obtain ⟨a90, c91, rfl⟩ := rd_sl1 g89
        refine ow_batch [.fa 111 1 1 fa111_1] rfl ?_
        refine ow_r rfl (dstOk_lt rfl) (ry_load1 rfl rfl ty59 (at_bor bor (at_K hA83 1 1))) ?_
        refine ow_batch [.p] rfl ?_
        obtain ⟨y92, h93, H⟩ := of_bind H
        refine ow_q rfl rfl (dstOk_lt rfl) (qy_call rfl fn72 rfl (fun w1 hw1 => laws_heldIntS_ok w1  h93 (rds_bor g89 w1 hw1))) (fun _ _ => trivial) ?_
        refine ow_batch [.p] rfl ?_
        refine ow_nil ?_
        refine x_qs ?_
        refine c_seq ?_
        refine c_reg ?_
        refine ow_batch [.p, .p] rfl ?_
        refine ow_nil ?_
        refine x_qs ?_
        refine c_if rfl (fun hb => ?_) (fun hb => ?_)
        · have H := of_if_t hb H
          refine c_seq ?_
          refine c_reg ?_
          refine ow_batch [.p] rfl ?_
          refine ow_nil ?_
          refine x_qs ?_
          refine c_ret ?_
          refine x_qb_ret ?_
          refine x_qs_ret ?_
          refine x_ql_ret ?_
          refine x_qb_ret ?_
          refine x_qs_ret ?_
          exact x_retR (rs := [.tmp 4]) (vs := [.int .i64 (-1)]) rfl ⟨rfl, trivial⟩ (fun w' hw' => by
              obtain rfl := of_some H
              exact ⟨rfl, hw'.ext⟩)
        · have H := of_if_f hb H
          refine c_skip ?_
          refine x_qb ?_
          refine x_qs ?_
          refine c_reg ?_
          refine ow_batch [.p, .p, .p] rfl ?_
          refine ow_nil ?_
          exact x_ql (RW.at (ihk1 (y92) (IntKind.i64.wrap (i39 + 1)) (H)) (fun _ h => St.sel [] rfl rfl h) ⟨rfl, rfl, rfl, trivial⟩)
    · have H := of_if_f hb H
      refine c_exit ?_
      refine x_qs_exit ?_
      refine x_ql_exit ?_
      refine x_qb_here ?_
      refine x_qs ?_
      refine c_seq ?_
      refine c_reg ?_
      refine ow_batch [.p, .p] rfl ?_
      refine ow_nil ?_
      refine x_qs ?_
      refine c_ret ?_
      exact x_retR (rs := [.tmp 4]) (vs := [.int .i64 i38]) rfl ⟨rfl, trivial⟩ (fun w' hw' => by
          obtain rfl := of_some H
          exact ⟨rfl, hw'.ext⟩)
set_option maxHeartbeats 4000000 in
set_option maxRecDepth 100000 in
theorem laws_FnExactWaysOf_ok (w : World) {p0 : Tlaws_Schema} {p1 : Tlaws_Tree} {cs0 : List Value} {cs1 : List Value} {r : Bool} (H : laws_FnExactWaysOf p0 p1 = some r)  (g0 : (eTlaws_Schema).rd w [] p0 cs0) (g1 : (eTlaws_Tree).rd w [] p1 cs1) :
    Calls Tryz.prog 3 #[.agg cs0.toArray, .agg cs1.toArray] w (fun en w' => en = .returned (.bool r) ∧ Ext [] w w') := by
  obtain ⟨c10, c11, rfl, g12, g13⟩ := rdo_Tlaws_Schema g0
  obtain ⟨a14, c15, rfl⟩ := rd_sl1 g12
  obtain ⟨a16, c17, rfl⟩ := rd_sl1 g13
  obtain ⟨c18, c19, rfl, g20, g21⟩ := rdo_Tlaws_Tree g1
  obtain ⟨a22, c23, rfl⟩ := rd_sl1 g20
  obtain rfl : c19 = [.int .i64 p1.Seen_] := g21
  unfold laws_FnExactWaysOf at H
  refine f_enter (vs := [.agg #[.slice a14 p0.Attrs_.length c15, .slice a16 p0.Classes_.length c17], .agg #[.slice a22 p1.Nodes_.length c23, .int .i64 p1.Seen_]]) Tryz.func3 rfl Tryz.ntmps3 rfl (St.init w []) ?_
  refine c_seq ?_
  refine c_reg ?_
  refine ow_box (cs := [.slice a14 p0.Attrs_.length c15, .slice a16 p0.Classes_.length c17]) rfl rfl rfl rfl rfl rfl (fun _ => kp) (fun b24 => ?_)
  refine ow_box (cs := [.slice a22 p1.Nodes_.length c23, .int .i64 p1.Seen_]) rfl rfl rfl rfl rfl rfl (fun _ => kp) (fun b25 => ?_)
  refine ow_batch [.p] rfl ?_
  refine ow_nil ?_
  refine x_qs ?_
  refine c_seq ?_
  refine c_reg ?_
  refine ow_batch [.p] rfl ?_
  refine ow_nil ?_
  refine x_qs ?_
  refine c_seq ?_
  refine c_reg ?_
  refine ow_r rfl (dstOk_lt rfl) (ry_box (off := 0) (ds := [.slice a14 p0.Attrs_.length c15, .slice a16 p0.Classes_.length c17]) rfl rfl ty25 (boxIn (i := 0) rfl) rfl rfl) ?_
  refine ow_batch [.p] rfl ?_
  obtain ⟨y26, h27, H⟩ := of_bind H
  refine ow_q rfl rfl (dstOk_lt rfl) (qy_call rfl fn8 rfl (fun w1 hw1 => laws_szSchema_ok w1 (cs0 := [.slice a14 p0.Attrs_.length c15, .slice a16 p0.Classes_.length c17]) h27 (rdm_Tlaws_Schema (x := p0) (c0 := [.slice a14 p0.Attrs_.length c15]) (c1 := [.slice a16 p0.Classes_.length c17]) (rds_bor g12 w1 hw1) (rds_bor g13 w1 hw1)))) (fun _ _ => trivial) ?_
  refine ow_batch [.p] rfl ?_
  refine ow_nil ?_
  refine x_qs ?_
  refine c_seq ?_
  refine c_seq ?_
  refine c_reg ?_
  refine ow_batch [.p, .p] rfl ?_
  refine ow_nil ?_
  refine x_qs ?_
  refine c_if rfl (fun hb => ?_) (fun hb => ?_)
  · have H := of_if_t hb H
    refine c_seq ?_
    refine c_reg ?_
    refine ow_batch [.p] rfl ?_
    refine ow_nil ?_
    refine x_qs ?_
    refine c_ret ?_
    refine x_qs_ret ?_
    exact x_retR (rs := [.tmp 4]) (vs := [.bool true]) rfl ⟨rfl, trivial⟩ (fun w' hw' => by
        obtain rfl := of_some H
        exact ⟨rfl, hw'.ext⟩)
  · have H := of_if_f hb H
    refine c_skip ?_
    refine x_qs ?_
    refine c_seq ?_
    refine c_reg ?_
    refine ow_r rfl (dstOk_lt rfl) (ry_box (off := 0) (ds := [.slice a22 p1.Nodes_.length c23, .int .i64 p1.Seen_]) rfl rfl ty28 (boxIn (i := 1) rfl) rfl rfl) ?_
    refine ow_batch [.p] rfl ?_
    obtain ⟨y28, h29, H⟩ := of_bind H
    refine ow_q rfl rfl (dstOk_lt rfl) (qy_call rfl fn9 rfl (fun w1 hw1 => laws_szTree_ok w1 (cs0 := [.slice a22 p1.Nodes_.length c23, .int .i64 p1.Seen_]) h29 (rdm_Tlaws_Tree (x := p1) (c0 := [.slice a22 p1.Nodes_.length c23]) (c1 := [.int .i64 p1.Seen_]) (rds_bor g20 w1 hw1) rfl))) (fun _ _ => trivial) ?_
    refine ow_batch [.p] rfl ?_
    refine ow_nil ?_
    refine x_qs ?_
    refine c_seq ?_
    refine c_seq ?_
    refine c_reg ?_
    refine ow_batch [.p, .p] rfl ?_
    refine ow_nil ?_
    refine x_qs ?_
    refine c_if rfl (fun hb => ?_) (fun hb => ?_)
    · have H := of_if_t hb H
      refine c_seq ?_
      refine c_reg ?_
      refine ow_batch [.p] rfl ?_
      refine ow_nil ?_
      refine x_qs ?_
      refine c_ret ?_
      refine x_qs_ret ?_
      exact x_retR (rs := [.tmp 4]) (vs := [.bool true]) rfl ⟨rfl, trivial⟩ (fun w' hw' => by
          obtain rfl := of_some H
          exact ⟨rfl, hw'.ext⟩)
    · have H := of_if_f hb H
      refine c_skip ?_
      refine x_qs ?_
      refine c_seq ?_
      refine c_regHT 3 [(0, true), (2, true), (1, false)] (St w [] [Res.box b24 25 [.slice a14 p0.Attrs_.length c15, .slice a16 p0.Classes_.length c17], Res.box b25 28 [.slice a22 p1.Nodes_.length c23, .int .i64 p1.Seen_]]) mixed (by kernel_rfl) (panicOk_qs panicOk_body) (fun _ h => St.mask [true, true] rfl h) ?_
      refine ow_rH rfl (dstOk_lt rfl) (ry_box (off := 0) (ds := [.slice a14 p0.Attrs_.length c15, .slice a16 p0.Classes_.length c17]) rfl rfl ty25 (boxIn (i := 0) rfl) rfl rfl) ?_
      refine ow_rH rfl (dstOk_lt rfl) (ry_box (off := 0) (ds := [.slice a22 p1.Nodes_.length c23, .int .i64 p1.Seen_]) rfl rfl ty28 (boxIn (i := 1) rfl) rfl rfl) ?_
      obtain ⟨y43, h44, H⟩ := of_bind H
      refine ow_callS rfl fn11 rfl rfl rfl rfl (fun w1 hw1 => laws_toSchema_ok w1 (cs0 := [.slice a14 p0.Attrs_.length c15, .slice a16 p0.Classes_.length c17]) h44 (hw1.carve [] rfl rfl) (rdm_Tlaws_Schema (x := p0) (c0 := [.slice a14 p0.Attrs_.length c15]) (c1 := [.slice a16 p0.Classes_.length c17]) (rds_bor g12 w1 hw1) (rds_bor g13 w1 hw1))) (fun v45 w1 w2 hw1 hR47 => ?_)
      obtain ⟨a48, n49, c50, F51, a52, n53, c54, F55, rfl, hS46⟩ := hR47
      obtain rfl := own_nS (i := 0) hS46 rfl
      obtain rfl := own_nS (i := 1) hS46 rfl
      refine ⟨St w [] [_, _, _, _], hw1.comp [] rfl rfl hS46, (fun _ h => St.mask [true, true] rfl h), ?_⟩
      refine ow_nilH ?_
      refine x_qt ?_
      obtain ⟨y56, h57, H⟩ := of_bind H
      refine ow_callS rfl fn12 rfl rfl rfl rfl (fun w1 hw1 => laws_toTree_ok w1 (cs0 := [.slice a22 p1.Nodes_.length c23, .int .i64 p1.Seen_]) h57 (hw1.carve [] rfl rfl) (rdm_Tlaws_Tree (x := p1) (c0 := [.slice a22 p1.Nodes_.length c23]) (c1 := [.int .i64 p1.Seen_]) (rds_bor g20 w1 hw1) rfl)) (fun v58 w1 w2 hw1 hR60 => ?_)
      obtain ⟨a61, n62, c63, F64, rfl, hS59⟩ := hR60
      obtain rfl := own_nS (i := 0) hS59 rfl
      refine ⟨St w [] [_, _, _, _, _], hw1.comp [] rfl rfl hS59, fun _ _ => trivial, ?_⟩
      obtain ⟨y65, h66, H⟩ := of_bind H
      refine ow_callS rfl fn10 rfl rfl rfl rfl (fun w1 hw1 => spec_WaysOf_ok w1 (cs0 := [.slice a48 y43.Attrs_.length c50, .slice a52 y43.Classes_.length c54]) (cs1 := [.slice a61 y56.Nodes_.length c63, .int .i64 y56.Seen_]) h66 (hw1.carve [] rfl rfl) (rdm_Timpl_Schema (x := y43) (c0 := [.slice a48 y43.Attrs_.length c50]) (c1 := [.slice a52 y43.Classes_.length c54]) (rds_own (e := eList (eTimpl_Attr) 114) (r := 2) rfl w1 hw1) (rds_own (e := eList (eStr) 9) (r := 3) rfl w1 hw1)) (rdm_Timpl_Tree (x := y56) (c0 := [.slice a61 y56.Nodes_.length c63]) (c1 := [.int .i64 y56.Seen_]) (rds_own (e := eList (eTimpl_Node) 118) (r := 4) rfl w1 hw1) rfl)) (fun v67 w1 w2 hw1 hR69 => ?_)
      obtain ⟨a70, n71, c72, F73, rfl, hS68⟩ := hR69
      obtain rfl := own_nS (i := 0) hS68 rfl
      refine ⟨St w [] [_, _, _, _, _, _], hw1.comp [] rfl rfl hS68, fun _ _ => trivial, ?_⟩
      refine ow_batch [.p] rfl ?_
      refine ow_nil ?_
      refine x_qs ?_
      refine c_seq ?_
      refine c_reg ?_
      refine ow_r rfl (dstOk_lt rfl) (ry_box (off := 0) (ds := [.slice a14 p0.Attrs_.length c15, .slice a16 p0.Classes_.length c17]) rfl rfl ty25 (boxIn (i := 0) rfl) rfl rfl) ?_
      obtain ⟨y74, h75, H⟩ := of_bind H
      refine ow_callS rfl fn11 rfl rfl rfl rfl (fun w1 hw1 => laws_toSchema_ok w1 (cs0 := [.slice a14 p0.Attrs_.length c15, .slice a16 p0.Classes_.length c17]) h75 (hw1.carve [] rfl rfl) (rdm_Tlaws_Schema (x := p0) (c0 := [.slice a14 p0.Attrs_.length c15]) (c1 := [.slice a16 p0.Classes_.length c17]) (rds_bor g12 w1 hw1) (rds_bor g13 w1 hw1))) (fun v76 w1 w2 hw1 hR78 => ?_)
      obtain ⟨a79, n80, c81, F82, a83, n84, c85, F86, rfl, hS77⟩ := hR78
      obtain rfl := own_nS (i := 0) hS77 rfl
      obtain rfl := own_nS (i := 1) hS77 rfl
      refine ⟨St w [] [_, _, _, _, _, _, _, _], hw1.comp [] rfl rfl hS77, fun _ _ => trivial, ?_⟩
      refine ow_alloc rfl rfl rfl rfl ty35 (fun _ => kp) (fun b87 => ?_)
      refine ow_storeC (off := 0) [.slice a79 y74.Attrs_.length c81, .slice a83 y74.Classes_.length c85] [_, _] (i := 8) rfl rfl rfl rfl rfl rfl ty35 rfl rfl (by intro u hu; simp only [List.mem_cons, List.not_mem_nil, or_false] at hu; rcases hu with rfl | rfl <;> rfl) rfl rfl rfl kp ?_
      refine ow_nil ?_
      refine x_qs ?_
      refine c_seq ?_
      refine c_reg ?_
      refine ow_r rfl (dstOk_lt rfl) (ry_box (off := 0) (ds := [.slice a22 p1.Nodes_.length c23, .int .i64 p1.Seen_]) rfl rfl ty28 (boxIn (i := 1) rfl) rfl rfl) ?_
      obtain ⟨y88, h89, H⟩ := of_bind H
      refine ow_callS rfl fn12 rfl rfl rfl rfl (fun w1 hw1 => laws_toTree_ok w1 (cs0 := [.slice a22 p1.Nodes_.length c23, .int .i64 p1.Seen_]) h89 (hw1.carve [] rfl rfl) (rdm_Tlaws_Tree (x := p1) (c0 := [.slice a22 p1.Nodes_.length c23]) (c1 := [.int .i64 p1.Seen_]) (rds_bor g20 w1 hw1) rfl)) (fun v90 w1 w2 hw1 hR92 => ?_)
      obtain ⟨a93, n94, c95, F96, rfl, hS91⟩ := hR92
      obtain rfl := own_nS (i := 0) hS91 rfl
      refine ⟨St w [] [_, _, _, _, _, _, _, _, _, _], hw1.comp [] rfl rfl hS91, fun _ _ => trivial, ?_⟩
      refine ow_alloc rfl rfl rfl rfl ty39 (fun _ => kp) (fun b97 => ?_)
      refine ow_storeC (off := 0) [.slice a93 y88.Nodes_.length c95, .int .i64 y88.Seen_] [_, _] (i := 10) rfl rfl rfl rfl rfl rfl ty39 rfl rfl (by intro u hu; simp only [List.mem_cons, List.not_mem_nil, or_false] at hu; rcases hu with rfl | rfl <;> rfl) rfl rfl rfl kp ?_
      refine ow_nil ?_
      refine x_qs ?_
      refine c_seq ?_
      refine c_reg ?_
      refine ow_r rfl (dstOk_lt rfl) (ry_box (off := 0) (ds := [.slice a79 y74.Attrs_.length c81, .slice a83 y74.Classes_.length c85]) rfl rfl ty35 (boxIn (i := 8) rfl) rfl rfl) ?_
      refine ow_r rfl (dstOk_lt rfl) (ry_box (off := 0) (ds := [.slice a93 y88.Nodes_.length c95, .int .i64 y88.Seen_]) rfl rfl ty39 (boxIn (i := 10) rfl) rfl rfl) ?_
      obtain ⟨y98, h99, H⟩ := of_bind H
      refine ow_callS rfl fn13 rfl rfl rfl rfl (fun w1 hw1 => impl_WaysOf_ok w1 (cs0 := [.slice a79 y74.Attrs_.length c81, .slice a83 y74.Classes_.length c85]) (cs1 := [.slice a93 y88.Nodes_.length c95, .int .i64 y88.Seen_]) h99 (hw1.carve [] rfl rfl) (rdm_Timpl_Schema (x := y74) (c0 := [.slice a79 y74.Attrs_.length c81]) (c1 := [.slice a83 y74.Classes_.length c85]) (rds_own (e := eList (eTimpl_Attr) 114) (r := 6) rfl w1 hw1) (rds_own (e := eList (eStr) 9) (r := 7) rfl w1 hw1)) (rdm_Timpl_Tree (x := y88) (c0 := [.slice a93 y88.Nodes_.length c95]) (c1 := [.int .i64 y88.Seen_]) (rds_own (e := eList (eTimpl_Node) 118) (r := 9) rfl w1 hw1) rfl)) (fun v100 w1 w2 hw1 hR102 => ?_)
      obtain ⟨a103, n104, c105, F106, rfl, hS101⟩ := hR102
      obtain rfl := own_nS (i := 0) hS101 rfl
      refine ⟨St w [] [_, _, _, _, _, _, _, _, _, _, _, _], hw1.comp [] rfl rfl hS101, fun _ _ => trivial, ?_⟩
      refine ow_batch [.p] rfl ?_
      refine ow_nil ?_
      refine x_qs ?_
      refine c_seq ?_
      refine c_seq ?_
      refine c_reg ?_
      refine ow_batch [.p, .p] rfl ?_
      obtain ⟨y107, h108, H⟩ := of_bind H
      refine ow_q rfl rfl (dstOk_lt rfl) (qy_call rfl fn14 rfl (fun w1 hw1 => laws_eqWayS_ok w1  h108 (rds_own (e := eList (eTimpl_Way) 111) (r := 11) rfl w1 hw1) (rds_own (e := eList (eTimpl_Way) 111) (r := 5) rfl w1 hw1))) (fun _ _ => trivial) ?_
      refine ow_batch [.p] rfl ?_
      refine ow_nil ?_
      refine x_qs ?_
      refine c_if rfl (fun hb => ?_) (fun hb => ?_)
      · have H := of_if_t hb H
        refine c_seq ?_
        refine c_reg ?_
        refine ow_batch [.p] rfl ?_
        refine ow_nil ?_
        refine x_qs ?_
        refine c_ret ?_
        refine x_qs_ret ?_
        exact x_retR (rs := [.tmp 4]) (vs := [.bool false]) rfl ⟨rfl, trivial⟩ (fun w' hw' => by
            obtain rfl := of_some H
            exact ⟨rfl, hw'.ext⟩)
      · have H := of_if_f hb H
        refine c_skip ?_
        refine x_qs ?_
        refine c_seq ?_
        refine c_seq ?_
        refine c_regHT 3 [(0, true), (1, true), (2, false)] (St w [] [Res.box b24 25 [.slice a14 p0.Attrs_.length c15, .slice a16 p0.Classes_.length c17], Res.box b25 28 [.slice a22 p1.Nodes_.length c23, .int .i64 p1.Seen_], Res.own (eList (eTimpl_Attr) 114) F51 y43.Attrs_ [.slice a48 y43.Attrs_.length c50], Res.own (eList (eStr) 9) F55 y43.Classes_ [.slice a52 y43.Classes_.length c54], Res.own (eList (eTimpl_Node) 118) F64 y56.Nodes_ [.slice a61 y56.Nodes_.length c63], Res.own (eList (eTimpl_Way) 111) F73 y65 [.slice a70 y65.length c72], Res.own (eList (eTimpl_Attr) 114) F82 y74.Attrs_ [.slice a79 y74.Attrs_.length c81], Res.own (eList (eStr) 9) F86 y74.Classes_ [.slice a83 y74.Classes_.length c85], Res.box b87 35 [.slice a79 y74.Attrs_.length c81, .slice a83 y74.Classes_.length c85], Res.own (eList (eTimpl_Node) 118) F96 y88.Nodes_ [.slice a93 y88.Nodes_.length c95], Res.box b97 39 [.slice a93 y88.Nodes_.length c95, .int .i64 y88.Seen_], Res.own (eList (eTimpl_Way) 111) F106 y98 [.slice a103 y98.length c105]]) mixed (by kernel_rfl) (panicOk_qs (panicOk_qs panicOk_body)) (fun _ h => St.mask [true, true, true, true, true, true, true, true, true, true, true, true] rfl h) ?_
        refine ow_rH rfl (dstOk_lt rfl) (ry_box (off := 0) (ds := [.slice a79 y74.Attrs_.length c81, .slice a83 y74.Classes_.length c85]) rfl rfl ty35 (boxIn (i := 8) rfl) rfl rfl) ?_
        refine ow_rH rfl (dstOk_lt rfl) (ry_box (off := 0) (ds := [.slice a14 p0.Attrs_.length c15, .slice a16 p0.Classes_.length c17]) rfl rfl ty25 (boxIn (i := 0) rfl) rfl rfl) ?_
        obtain ⟨y122, h123, H⟩ := of_bind H
        refine ow_callS rfl fn11 rfl rfl rfl rfl (fun w1 hw1 => laws_toSchema_ok w1 (cs0 := [.slice a14 p0.Attrs_.length c15, .slice a16 p0.Classes_.length c17]) h123 (hw1.carve [] rfl rfl) (rdm_Tlaws_Schema (x := p0) (c0 := [.slice a14 p0.Attrs_.length c15]) (c1 := [.slice a16 p0.Classes_.length c17]) (rds_bor g12 w1 hw1) (rds_bor g13 w1 hw1))) (fun v124 w1 w2 hw1 hR126 => ?_)
        obtain ⟨a127, n128, c129, F130, a131, n132, c133, F134, rfl, hS125⟩ := hR126
        obtain rfl := own_nS (i := 0) hS125 rfl
        obtain rfl := own_nS (i := 1) hS125 rfl
        refine ⟨St w [] [_, _, _, _, _, _, _, _, _, _, _, _, _, _], hw1.comp [] rfl rfl hS125, (fun _ h => St.mask [true, true, true, true, true, true, true, true, true, true, true, true] rfl h), ?_⟩
        refine ow_nilH ?_
        refine x_qt ?_
        obtain ⟨y135, h136, H⟩ := of_bind H
        refine ow_q rfl rfl (dstOk_lt rfl) (qy_call rfl fn15 rfl (fun w1 hw1 => laws_eqSchema_ok w1 (cs0 := [.slice a79 y74.Attrs_.length c81, .slice a83 y74.Classes_.length c85]) (cs1 := [.slice a127 y122.Attrs_.length c129, .slice a131 y122.Classes_.length c133]) h136 (rdm_Timpl_Schema (x := y74) (c0 := [.slice a79 y74.Attrs_.length c81]) (c1 := [.slice a83 y74.Classes_.length c85]) (rds_own (e := eList (eTimpl_Attr) 114) (r := 6) rfl w1 hw1) (rds_own (e := eList (eStr) 9) (r := 7) rfl w1 hw1)) (rdm_Timpl_Schema (x := y122) (c0 := [.slice a127 y122.Attrs_.length c129]) (c1 := [.slice a131 y122.Classes_.length c133]) (rds_own (e := eList (eTimpl_Attr) 114) (r := 12) rfl w1 hw1) (rds_own (e := eList (eStr) 9) (r := 13) rfl w1 hw1)))) (fun _ _ => trivial) ?_
        refine ow_batch [.p] rfl ?_
        refine ow_nil ?_
        refine x_qs ?_
        refine c_if rfl (fun hb => ?_) (fun hb => ?_)
        · have H := of_if_t hb H
          refine c_seq ?_
          refine c_reg ?_
          refine ow_batch [.p] rfl ?_
          refine ow_nil ?_
          refine x_qs ?_
          refine c_ret ?_
          refine x_qs_ret ?_
          exact x_retR (rs := [.tmp 4]) (vs := [.bool false]) rfl ⟨rfl, trivial⟩ (fun w' hw' => by
              obtain rfl := of_some H
              exact ⟨rfl, hw'.ext⟩)
        · have H := of_if_f hb H
          refine c_skip ?_
          refine x_qs ?_
          refine c_seq ?_
          refine c_seq ?_
          refine c_regHT 3 [(0, true), (1, true), (2, false)] (St w [] [Res.box b24 25 [.slice a14 p0.Attrs_.length c15, .slice a16 p0.Classes_.length c17], Res.box b25 28 [.slice a22 p1.Nodes_.length c23, .int .i64 p1.Seen_], Res.own (eList (eTimpl_Attr) 114) F51 y43.Attrs_ [.slice a48 y43.Attrs_.length c50], Res.own (eList (eStr) 9) F55 y43.Classes_ [.slice a52 y43.Classes_.length c54], Res.own (eList (eTimpl_Node) 118) F64 y56.Nodes_ [.slice a61 y56.Nodes_.length c63], Res.own (eList (eTimpl_Way) 111) F73 y65 [.slice a70 y65.length c72], Res.own (eList (eTimpl_Attr) 114) F82 y74.Attrs_ [.slice a79 y74.Attrs_.length c81], Res.own (eList (eStr) 9) F86 y74.Classes_ [.slice a83 y74.Classes_.length c85], Res.box b87 35 [.slice a79 y74.Attrs_.length c81, .slice a83 y74.Classes_.length c85], Res.own (eList (eTimpl_Node) 118) F96 y88.Nodes_ [.slice a93 y88.Nodes_.length c95], Res.box b97 39 [.slice a93 y88.Nodes_.length c95, .int .i64 y88.Seen_], Res.own (eList (eTimpl_Way) 111) F106 y98 [.slice a103 y98.length c105], Res.own (eList (eTimpl_Attr) 114) F130 y122.Attrs_ [.slice a127 y122.Attrs_.length c129], Res.own (eList (eStr) 9) F134 y122.Classes_ [.slice a131 y122.Classes_.length c133]]) mixed (by kernel_rfl) (panicOk_qs (panicOk_qs panicOk_body)) (fun _ h => St.mask [true, true, true, true, true, true, true, true, true, true, true, true, true, true] rfl h) ?_
          refine ow_rH rfl (dstOk_lt rfl) (ry_box (off := 0) (ds := [.slice a93 y88.Nodes_.length c95, .int .i64 y88.Seen_]) rfl rfl ty39 (boxIn (i := 10) rfl) rfl rfl) ?_
          refine ow_rH rfl (dstOk_lt rfl) (ry_box (off := 0) (ds := [.slice a22 p1.Nodes_.length c23, .int .i64 p1.Seen_]) rfl rfl ty28 (boxIn (i := 1) rfl) rfl rfl) ?_
          obtain ⟨y146, h147, H⟩ := of_bind H
          refine ow_callS rfl fn12 rfl rfl rfl rfl (fun w1 hw1 => laws_toTree_ok w1 (cs0 := [.slice a22 p1.Nodes_.length c23, .int .i64 p1.Seen_]) h147 (hw1.carve [] rfl rfl) (rdm_Tlaws_Tree (x := p1) (c0 := [.slice a22 p1.Nodes_.length c23]) (c1 := [.int .i64 p1.Seen_]) (rds_bor g20 w1 hw1) rfl)) (fun v148 w1 w2 hw1 hR150 => ?_)
          obtain ⟨a151, n152, c153, F154, rfl, hS149⟩ := hR150
          obtain rfl := own_nS (i := 0) hS149 rfl
          refine ⟨St w [] [_, _, _, _, _, _, _, _, _, _, _, _, _, _, _], hw1.comp [] rfl rfl hS149, (fun _ h => St.mask [true, true, true, true, true, true, true, true, true, true, true, true, true, true] rfl h), ?_⟩
          refine ow_nilH ?_
          refine x_qt ?_
          obtain ⟨y155, h156, H⟩ := of_bind H
          refine ow_q rfl rfl (dstOk_lt rfl) (qy_call rfl fn16 rfl (fun w1 hw1 => laws_eqTree_ok w1 (cs0 := [.slice a93 y88.Nodes_.length c95, .int .i64 y88.Seen_]) (cs1 := [.slice a151 y146.Nodes_.length c153, .int .i64 y146.Seen_]) h156 (rdm_Timpl_Tree (x := y88) (c0 := [.slice a93 y88.Nodes_.length c95]) (c1 := [.int .i64 y88.Seen_]) (rds_own (e := eList (eTimpl_Node) 118) (r := 9) rfl w1 hw1) rfl) (rdm_Timpl_Tree (x := y146) (c0 := [.slice a151 y146.Nodes_.length c153]) (c1 := [.int .i64 y146.Seen_]) (rds_own (e := eList (eTimpl_Node) 118) (r := 14) rfl w1 hw1) rfl))) (fun _ _ => trivial) ?_
          refine ow_batch [.p] rfl ?_
          refine ow_nil ?_
          refine x_qs ?_
          refine c_if rfl (fun hb => ?_) (fun hb => ?_)
          · have H := of_if_t hb H
            refine c_seq ?_
            refine c_reg ?_
            refine ow_batch [.p] rfl ?_
            refine ow_nil ?_
            refine x_qs ?_
            refine c_ret ?_
            refine x_qs_ret ?_
            exact x_retR (rs := [.tmp 4]) (vs := [.bool false]) rfl ⟨rfl, trivial⟩ (fun w' hw' => by
                obtain rfl := of_some H
                exact ⟨rfl, hw'.ext⟩)
          · have H := of_if_f hb H
            refine c_skip ?_
            refine x_qs ?_
            refine c_seq ?_
            refine c_reg ?_
            refine ow_batch [.p] rfl ?_
            refine ow_nil ?_
            refine x_qs ?_
            refine c_seq ?_
            refine c_reg ?_
            refine ow_r rfl (dstOk_lt rfl) (ry_box (off := 0) (ds := [.slice a79 y74.Attrs_.length c81, .slice a83 y74.Classes_.length c85]) rfl rfl ty35 (boxIn (i := 8) rfl) rfl rfl) ?_
            refine ow_batch [.p] rfl ?_
            obtain ⟨y157, h158, H⟩ := of_bind H
            refine ow_callS rfl fn17 rfl rfl rfl rfl (fun w1 hw1 => laws_markSchema_ok w1  h158 (hw1.carve [6, 7] rfl rfl)) (fun v159 w1 w2 hw1 hR161 => ?_)
            obtain ⟨F162, F163, rfl, hS160⟩ := hR161
            refine ⟨St w [] [_, _, _, _, _, _, _, _, _, _, _, _, _, _, _, _, _], hw1.comp [6, 7] rfl rfl hS160, fun _ _ => trivial, ?_⟩
            refine ow_batch [.p] rfl ?_
            refine ow_nil ?_
            refine x_qs ?_
            refine c_seq ?_
            refine CW.weak (C' := St w [] [_, _, _, _, _, _, _, _, _, _, _, _, _, _, _]) ?_ (fun _ h => St.sel [0, 1, 2, 3, 4, 5, 8, 9, 10, 11, 12, 13, 14, 15, 16] rfl rfl h)
            refine c_reg ?_
            refine ow_r rfl (dstOk_lt rfl) (ry_box (off := 0) (ds := [.slice a93 y88.Nodes_.length c95, .int .i64 y88.Seen_]) rfl rfl ty39 (boxIn (i := 8) rfl) rfl rfl) ?_
            refine ow_batch [.p] rfl ?_
            obtain ⟨y164, h165, H⟩ := of_bind H
            refine ow_callS rfl fn18 rfl rfl rfl rfl (fun w1 hw1 => laws_markTree_ok w1  h165 (hw1.carve [7] rfl rfl)) (fun v166 w1 w2 hw1 hR168 => ?_)
            obtain ⟨F169, rfl, hS167⟩ := hR168
            refine ⟨St w [] [_, _, _, _, _, _, _, _, _, _, _, _, _, _, _, _], hw1.comp [7] rfl rfl hS167, fun _ _ => trivial, ?_⟩
            refine ow_batch [.p] rfl ?_
            refine ow_nil ?_
            refine x_qs ?_
            refine c_seq ?_
            refine c_seq ?_
            refine c_reg ?_
            refine ow_batch [.p, .p, .p] rfl ?_
            obtain ⟨u170, hu174, H⟩ := of_bind H
            refine ow_cut [(63, .bool u170), (2, .pointer (some ⟨b24, 0, none⟩)), (3, .pointer (some ⟨b25, 0, none⟩)), (6, .slice a70 y65.length c72), (9, .slice a103 y98.length c105)] 5 ?_ (fun key => OW.sub (R := [(2, .pointer (some ⟨b24, 0, none⟩)), (3, .pointer (some ⟨b25, 0, none⟩)), (6, .slice a70 y65.length c72), (9, .slice a103 y98.length c105), (58, .bool (decide (y164.1 < 0)))]) ?_ ⟨rfl, rfl, rfl, rfl, rfl, trivial⟩)
            · refine ow_nil ?_
              refine x_qs ?_
              refine c_if rfl (fun hb => ?_) (fun hb => ?_)
              · have H := of_if_t hb H
                refine c_seq ?_
                refine c_reg ?_
                refine ow_batch [.p] rfl ?_
                refine ow_nil ?_
                refine x_qs ?_
                refine c_ret ?_
                refine x_qs_ret ?_
                exact x_retR (rs := [.tmp 4]) (vs := [.bool false]) rfl ⟨rfl, trivial⟩ (fun w' hw' => by
                    obtain rfl := of_some H
                    exact ⟨rfl, hw'.ext⟩)
              · have H := of_if_f hb H
                refine c_skip ?_
                refine x_qs ?_
                refine c_seq ?_
                refine c_reg ?_
                refine ow_batch [.p] rfl ?_
                refine ow_nil ?_
                refine x_qs ?_
                refine c_seq ?_
                refine c_reg ?_
                refine ow_batch [.p, .p] rfl ?_
                obtain ⟨y175, h176, H⟩ := of_bind H
                refine ow_callS rfl fn19 rfl rfl rfl rfl (fun w1 hw1 => laws_markWayS_ok w1  h176 (hw1.carve [9] rfl rfl)) (fun v177 w1 w2 hw1 hR179 => ?_)
                obtain ⟨F180, rfl, hS178⟩ := hR179
                refine ⟨St w [] [_, _, _, _, _, _, _, _, _, _, _, _, _, _, _, _, _], hw1.comp [9] rfl rfl hS178, fun _ _ => trivial, ?_⟩
                refine ow_batch [.p] rfl ?_
                refine ow_nil ?_
                refine x_qs ?_
                refine c_seq ?_
                refine CW.weak (C' := St w [] [_, _, _, _, _, _, _, _, _, _, _, _, _, _, _]) ?_ (fun _ h => St.sel [0, 1, 2, 3, 4, 5, 6, 8, 10, 11, 12, 13, 14, 15, 16] rfl rfl h)
                refine c_reg ?_
                refine ow_batch [.p] rfl ?_
                refine ow_nil ?_
                refine x_qs ?_
                refine c_seq ?_
                refine c_reg ?_
                refine ow_batch [.p, .p] rfl ?_
                obtain ⟨y181, h182, H⟩ := of_bind H
                refine ow_q rfl rfl (dstOk_lt rfl) (qy_call rfl fn20 rfl (fun w1 hw1 => laws_heldWayS_ok w1  h182 (rds_own (e := eList (eTimpl_Way) 111) (r := 14) rfl w1 hw1))) (fun _ _ => trivial) ?_
                refine ow_batch [.p] rfl ?_
                refine ow_nil ?_
                refine x_qs ?_
                refine c_seq ?_
                refine c_seq ?_
                refine c_reg ?_
                refine ow_batch [.p, .p] rfl ?_
                refine ow_nil ?_
                refine x_qs ?_
                refine c_if rfl (fun hb => ?_) (fun hb => ?_)
                · have H := of_if_t hb H
                  refine c_seq ?_
                  refine c_reg ?_
                  refine ow_batch [.p] rfl ?_
                  refine ow_nil ?_
                  refine x_qs ?_
                  refine c_ret ?_
                  refine x_qs_ret ?_
                  exact x_retR (rs := [.tmp 4]) (vs := [.bool false]) rfl ⟨rfl, trivial⟩ (fun w' hw' => by
                      obtain rfl := of_some H
                      exact ⟨rfl, hw'.ext⟩)
                · have H := of_if_f hb H
                  refine c_skip ?_
                  refine x_qs ?_
                  refine c_seq ?_
                  refine c_seq ?_
                  refine c_reg ?_
                  refine ow_batch [.p, .p, .p] rfl ?_
                  refine ow_nil ?_
                  refine x_qs ?_
                  refine c_if rfl (fun hb => ?_) (fun hb => ?_)
                  · have H := of_if_t hb H
                    refine c_seq ?_
                    refine c_reg ?_
                    refine ow_batch [.p] rfl ?_
                    refine ow_nil ?_
                    refine x_qs ?_
                    refine c_ret ?_
                    refine x_qs_ret ?_
                    exact x_retR (rs := [.tmp 4]) (vs := [.bool false]) rfl ⟨rfl, trivial⟩ (fun w' hw' => by
                        obtain rfl := of_some H
                        exact ⟨rfl, hw'.ext⟩)
                  · have H := of_if_f hb H
                    refine c_skip ?_
                    refine x_qs ?_
                    refine c_seq ?_
                    refine c_regHT 3 [(0, true), (2, true), (1, false)] (St w [] [Res.box b24 25 [.slice a14 p0.Attrs_.length c15, .slice a16 p0.Classes_.length c17], Res.box b25 28 [.slice a22 p1.Nodes_.length c23, .int .i64 p1.Seen_], Res.own (eList (eTimpl_Attr) 114) F51 y43.Attrs_ [.slice a48 y43.Attrs_.length c50], Res.own (eList (eStr) 9) F55 y43.Classes_ [.slice a52 y43.Classes_.length c54], Res.own (eList (eTimpl_Node) 118) F64 y56.Nodes_ [.slice a61 y56.Nodes_.length c63], Res.own (eList (eTimpl_Way) 111) F73 y65 [.slice a70 y65.length c72], Res.box b87 35 [.slice a79 y74.Attrs_.length c81, .slice a83 y74.Classes_.length c85], Res.box b97 39 [.slice a93 y88.Nodes_.length c95, .int .i64 y88.Seen_], Res.own (eList (eTimpl_Attr) 114) F130 y122.Attrs_ [.slice a127 y122.Attrs_.length c129], Res.own (eList (eStr) 9) F134 y122.Classes_ [.slice a131 y122.Classes_.length c133], Res.own (eList (eTimpl_Node) 118) F154 y146.Nodes_ [.slice a151 y146.Nodes_.length c153], Res.own (eList (eTimpl_Attr) 114) F162 y157.2.Attrs_ [.slice a79 y74.Attrs_.length c81], Res.own (eList (eStr) 9) F163 y157.2.Classes_ [.slice a83 y74.Classes_.length c85], Res.own (eList (eTimpl_Node) 118) F169 y164.2.Nodes_ [.slice a93 y88.Nodes_.length c95], Res.own (eList (eTimpl_Way) 111) F180 y175.2 [.slice a103 y98.length c105]]) mixed (by kernel_rfl) (panicOk_qs panicOk_body) (fun _ h => St.mask [true, true, true, true, true, true, true, true, true, true, true, true, true, true, true] rfl h) ?_
                    refine ow_rH rfl (dstOk_lt rfl) (ry_box (off := 0) (ds := [.slice a14 p0.Attrs_.length c15, .slice a16 p0.Classes_.length c17]) rfl rfl ty25 (boxIn (i := 0) rfl) rfl rfl) ?_
                    refine ow_rH rfl (dstOk_lt rfl) (ry_box (off := 0) (ds := [.slice a22 p1.Nodes_.length c23, .int .i64 p1.Seen_]) rfl rfl ty28 (boxIn (i := 1) rfl) rfl rfl) ?_
                    obtain ⟨y196, h197, H⟩ := of_bind H
                    refine ow_callS rfl fn11 rfl rfl rfl rfl (fun w1 hw1 => laws_toSchema_ok w1 (cs0 := [.slice a14 p0.Attrs_.length c15, .slice a16 p0.Classes_.length c17]) h197 (hw1.carve [] rfl rfl) (rdm_Tlaws_Schema (x := p0) (c0 := [.slice a14 p0.Attrs_.length c15]) (c1 := [.slice a16 p0.Classes_.length c17]) (rds_bor g12 w1 hw1) (rds_bor g13 w1 hw1))) (fun v198 w1 w2 hw1 hR200 => ?_)
                    obtain ⟨a201, n202, c203, F204, a205, n206, c207, F208, rfl, hS199⟩ := hR200
                    obtain rfl := own_nS (i := 0) hS199 rfl
                    obtain rfl := own_nS (i := 1) hS199 rfl
                    refine ⟨St w [] [_, _, _, _, _, _, _, _, _, _, _, _, _, _, _, _, _], hw1.comp [] rfl rfl hS199, (fun _ h => St.mask [true, true, true, true, true, true, true, true, true, true, true, true, true, true, true] rfl h), ?_⟩
                    refine ow_nilH ?_
                    refine x_qt ?_
                    obtain ⟨y209, h210, H⟩ := of_bind H
                    refine ow_callS rfl fn12 rfl rfl rfl rfl (fun w1 hw1 => laws_toTree_ok w1 (cs0 := [.slice a22 p1.Nodes_.length c23, .int .i64 p1.Seen_]) h210 (hw1.carve [] rfl rfl) (rdm_Tlaws_Tree (x := p1) (c0 := [.slice a22 p1.Nodes_.length c23]) (c1 := [.int .i64 p1.Seen_]) (rds_bor g20 w1 hw1) rfl)) (fun v211 w1 w2 hw1 hR213 => ?_)
                    obtain ⟨a214, n215, c216, F217, rfl, hS212⟩ := hR213
                    obtain rfl := own_nS (i := 0) hS212 rfl
                    refine ⟨St w [] [_, _, _, _, _, _, _, _, _, _, _, _, _, _, _, _, _, _], hw1.comp [] rfl rfl hS212, fun _ _ => trivial, ?_⟩
                    obtain ⟨y218, h219, H⟩ := of_bind H
                    refine ow_callS rfl fn13 rfl rfl rfl rfl (fun w1 hw1 => impl_WaysOf_ok w1 (cs0 := [.slice a201 y196.Attrs_.length c203, .slice a205 y196.Classes_.length c207]) (cs1 := [.slice a214 y209.Nodes_.length c216, .int .i64 y209.Seen_]) h219 (hw1.carve [] rfl rfl) (rdm_Timpl_Schema (x := y196) (c0 := [.slice a201 y196.Attrs_.length c203]) (c1 := [.slice a205 y196.Classes_.length c207]) (rds_own (e := eList (eTimpl_Attr) 114) (r := 15) rfl w1 hw1) (rds_own (e := eList (eStr) 9) (r := 16) rfl w1 hw1)) (rdm_Timpl_Tree (x := y209) (c0 := [.slice a214 y209.Nodes_.length c216]) (c1 := [.int .i64 y209.Seen_]) (rds_own (e := eList (eTimpl_Node) 118) (r := 17) rfl w1 hw1) rfl)) (fun v220 w1 w2 hw1 hR222 => ?_)
                    obtain ⟨a223, n224, c225, F226, rfl, hS221⟩ := hR222
                    obtain rfl := own_nS (i := 0) hS221 rfl
                    refine ⟨St w [] [_, _, _, _, _, _, _, _, _, _, _, _, _, _, _, _, _, _, _], hw1.comp [] rfl rfl hS221, fun _ _ => trivial, ?_⟩
                    refine ow_batch [.p] rfl ?_
                    refine ow_nil ?_
                    refine x_qs ?_
                    refine c_seq ?_
                    refine c_seq ?_
                    refine c_reg ?_
                    refine ow_batch [.p, .p] rfl ?_
                    obtain ⟨y227, h228, H⟩ := of_bind H
                    refine ow_q rfl rfl (dstOk_lt rfl) (qy_call rfl fn14 rfl (fun w1 hw1 => laws_eqWayS_ok w1  h228 (rds_own (e := eList (eTimpl_Way) 111) (r := 18) rfl w1 hw1) (rds_own (e := eList (eTimpl_Way) 111) (r := 5) rfl w1 hw1))) (fun _ _ => trivial) ?_
                    refine ow_batch [.p] rfl ?_
                    refine ow_nil ?_
                    refine x_qs ?_
                    refine c_if rfl (fun hb => ?_) (fun hb => ?_)
                    · have H := of_if_t hb H
                      refine c_seq ?_
                      refine c_reg ?_
                      refine ow_batch [.p] rfl ?_
                      refine ow_nil ?_
                      refine x_qs ?_
                      refine c_ret ?_
                      refine x_qs_ret ?_
                      exact x_retR (rs := [.tmp 4]) (vs := [.bool false]) rfl ⟨rfl, trivial⟩ (fun w' hw' => by
                          obtain rfl := of_some H
                          exact ⟨rfl, hw'.ext⟩)
                    · have H := of_if_f hb H
                      refine c_skip ?_
                      refine x_qs ?_
                      refine c_seq ?_
                      refine c_reg ?_
                      refine ow_batch [.p] rfl ?_
                      refine ow_nil ?_
                      refine x_qs ?_
                      refine c_seq ?_
                      refine c_reg ?_
                      refine ow_batch [.p, .p] rfl ?_
                      obtain ⟨y229, h230, H⟩ := of_bind H
                      refine ow_q rfl rfl (dstOk_lt rfl) (qy_call rfl fn20 rfl (fun w1 hw1 => laws_heldWayS_ok w1  h230 (rds_own (e := eList (eTimpl_Way) 111) (r := 14) rfl w1 hw1))) (fun _ _ => trivial) ?_
                      refine ow_batch [.p] rfl ?_
                      refine ow_nil ?_
                      refine x_qs ?_
                      refine c_seq ?_
                      refine c_seq ?_
                      refine c_reg ?_
                      refine ow_batch [.p, .p] rfl ?_
                      refine ow_nil ?_
                      refine x_qs ?_
                      refine c_if rfl (fun hb => ?_) (fun hb => ?_)
                      · have H := of_if_t hb H
                        refine c_seq ?_
                        refine c_reg ?_
                        refine ow_batch [.p] rfl ?_
                        refine ow_nil ?_
                        refine x_qs ?_
                        refine c_ret ?_
                        refine x_qs_ret ?_
                        exact x_retR (rs := [.tmp 4]) (vs := [.bool false]) rfl ⟨rfl, trivial⟩ (fun w' hw' => by
                            obtain rfl := of_some H
                            exact ⟨rfl, hw'.ext⟩)
                      · have H := of_if_f hb H
                        refine c_skip ?_
                        refine x_qs ?_
                        refine c_seq ?_
                        refine c_seq ?_
                        refine c_reg ?_
                        refine ow_batch [.p, .p, .p] rfl ?_
                        refine ow_nil ?_
                        refine x_qs ?_
                        refine c_if rfl (fun hb => ?_) (fun hb => ?_)
                        · have H := of_if_t hb H
                          refine c_seq ?_
                          refine c_reg ?_
                          refine ow_batch [.p] rfl ?_
                          refine ow_nil ?_
                          refine x_qs ?_
                          refine c_ret ?_
                          refine x_qs_ret ?_
                          exact x_retR (rs := [.tmp 4]) (vs := [.bool false]) rfl ⟨rfl, trivial⟩ (fun w' hw' => by
                              obtain rfl := of_some H
                              exact ⟨rfl, hw'.ext⟩)
                        · have H := of_if_f hb H
                          refine c_skip ?_
                          refine x_qs ?_
                          refine c_seq ?_
                          refine c_reg ?_
                          refine ow_batch [.p] rfl ?_
                          refine ow_nil ?_
                          refine x_qs ?_
                          refine c_ret ?_
                          exact x_retR (rs := [.tmp 4]) (vs := [.bool true]) rfl ⟨rfl, trivial⟩ (fun w' hw' => by
                              obtain rfl := of_some H
                              exact ⟨rfl, hw'.ext⟩)
            · clear H
              have H := hu174
              clear hu174
              generalize (decide (y164.1 < 0)) = t173 at H key ⊢
              cases t173
              · have H := of_if_f rfl H
                refine ow_batch [.p, .p] rfl ?_
                obtain ⟨y171, h172, H⟩ := of_bind H
                refine ow_q rfl rfl (dstOk_lt rfl) (qy_call rfl fn14 rfl (fun w1 hw1 => laws_eqWayS_ok w1  h172 (rds_own (e := eList (eTimpl_Way) 111) (r := 9) rfl w1 hw1) (rds_own (e := eList (eTimpl_Way) 111) (r := 5) rfl w1 hw1))) (fun _ _ => trivial) ?_
                refine ow_batch [.p] rfl ?_
                refine ow_batch [.p] rfl ?_
                obtain rfl := of_some H
                exact OW.sub key ⟨rfl, rfl, rfl, rfl, rfl, trivial⟩
              · have H := of_if_t rfl H
                refine ow_batch [.p, .p, .p, .p, .p] rfl ?_
                obtain rfl := of_some H
                exact OW.sub key ⟨rfl, rfl, rfl, rfl, rfl, trivial⟩
end Go.Vk
