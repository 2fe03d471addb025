/- The code does what the functions of data say. Printed by program. -/

import Derived.Test.YtddoligbabahbaaWStateSameA

namespace Go.Vk

open Go.Proofs Go.RowKit



set_option maxHeartbeats 4000000 in
set_option maxRecDepth 100000 in
theorem laws_toTree_ok (w : World) {M0 : List Nat} {p0 : Tlaws_Tree} {cs0 : List Value} {r : Timpl_Tree} (H : laws_toTree p0 = some r) (HS : St w M0 [] w) (g0 : (eTlaws_Tree).rd w M0 p0 cs0) :
    Calls Try.prog 77 #[.agg cs0.toArray] w (fun en w' => ∃ v, en = .returned v ∧ ∃ (a0 : Option Addr), ∃ (n0 : Nat), ∃ (c0 : Nat), ∃ (F0 : List Nat), v = .agg #[.slice a0 n0 c0, .int .i64 r.Seen_] ∧ St w M0 [Res.own (eList (eTimpl_Node) 133) F0 r.Nodes_ [.slice a0 n0 c0]] w') := by
  obtain ⟨c1, c2, rfl, g3, g4⟩ := rdo_Tlaws_Tree g0
  obtain ⟨a5, c6, rfl⟩ := rd_sl1 g3
  obtain rfl : c2 = [.int .i64 p0.Seen_] := g4
  unfold laws_toTree at H
  refine f_enter (vs := [.agg #[.slice a5 p0.Nodes_.length c6, .int .i64 p0.Seen_]]) Try.func77 rfl Try.ntmps77 rfl (HS) ?_
  refine c_seq ?_
  refine c_reg ?_
  refine ow_box (cs := [.slice a5 p0.Nodes_.length c6, .int .i64 p0.Seen_]) rfl rfl rfl rfl rfl rfl (fun _ => kp) (fun b7 => ?_)
  refine ow_alloc rfl rfl rfl rfl ty74 (fun _ => kp) (fun b8 => ?_)
  refine ow_nil ?_
  refine x_qs ?_
  refine c_seq ?_
  refine c_reg ?_
  refine ow_alloc rfl rfl rfl rfl ty74 (fun _ => kp) (fun b9 => ?_)
  refine ow_nil ?_
  refine x_qs ?_
  refine c_seq ?_
  refine c_reg ?_
  refine ow_batch [.fa 100 0 0 fa100_0] rfl ?_
  refine ow_r rfl (dstOk_lt rfl) (ry_box1 (off := 0) rfl rfl ty98 (boxIn (i := 0) rfl) rfl) ?_
  obtain ⟨y10, h11, H⟩ := of_bind H
  refine ow_callS rfl fn88 rfl rfl rfl rfl (fun w1 hw1 => laws_toNodeS_ok w1  h11 (hw1.carve [] rfl rfl) (rds_bor g3 w1 hw1)) (fun v12 w1 w2 hw1 hR14 => ?_)
  obtain ⟨a15, n16, c17, F18, rfl, hS13⟩ := hR14
  obtain rfl := own_nS (i := 0) hS13 rfl
  refine ⟨St w M0 [_, _, _, _], hw1.comp [] rfl rfl hS13, fun _ _ => trivial, ?_⟩
  refine ow_batch [.fa 74 0 0 fa74_0] rfl ?_
  refine ow_storeC (off := 0) [.slice a15 y10.length c17] [_, _] (i := 2) rfl rfl rfl rfl rfl rfl ty72 rfl rfl (by intro u hu; simp only [List.mem_cons, List.not_mem_nil, or_false] at hu; rcases hu with rfl <;> rfl) rfl rfl rfl kp ?_
  refine ow_nil ?_
  refine x_qs ?_
  refine c_seq ?_
  refine c_reg ?_
  refine ow_batch [.fa 100 1 1 fa100_1] rfl ?_
  refine ow_r rfl (dstOk_lt rfl) (ry_box1 (off := 1) rfl rfl ty3 (boxIn (i := 0) rfl) rfl) ?_
  refine ow_batch [.fa 74 1 1 fa74_1] rfl ?_
  refine ow_storeC (off := 1) [.int .i64 p0.Seen_] [_, _] (i := 2) rfl rfl rfl rfl rfl rfl ty3 rfl rfl (by intro u hu; simp only [List.mem_cons, List.not_mem_nil, or_false] at hu; rcases hu with rfl <;> rfl) rfl rfl rfl kp ?_
  refine ow_nil ?_
  refine x_qs ?_
  refine c_seq ?_
  refine c_reg ?_
  refine ow_r rfl (dstOk_lt rfl) (ry_box (off := 0) (ds := [.slice a15 y10.length c17, .int .i64 p0.Seen_]) rfl rfl ty74 (boxIn (i := 2) rfl) rfl rfl) ?_
  refine ow_storeC (off := 0) [.slice a15 y10.length c17, .int .i64 p0.Seen_] [_, _] (i := 1) rfl rfl rfl rfl rfl rfl ty74 rfl rfl (by intro u hu; simp only [List.mem_cons, List.not_mem_nil, or_false] at hu; rcases hu with rfl | rfl <;> rfl) rfl rfl rfl kp ?_
  refine ow_nil ?_
  refine x_qs ?_
  refine c_ret ?_
  exact x_retR (rs := [.cell 2 74]) (vs := [.agg #[.slice a15 y10.length c17, .int .i64 p0.Seen_]]) rfl ⟨⟨_, [.slice a15 y10.length c17, .int .i64 p0.Seen_], _, _, _, rfl, ty74, (at_box (T := 74) 0 (boxIn (i := 1) rfl) rfl), rfl, rfl⟩, trivial⟩ (fun w' hw' => by
      obtain rfl := of_some H
      exact ⟨_, rfl, a15, y10.length, c17, F18, rfl, hw'.sel [3] rfl rfl⟩)

set_option maxHeartbeats 4000000 in
set_option maxRecDepth 100000 in
theorem laws_toWindow_ok (w : World) {M0 : List Nat} {p0 : Tlaws_Window} {cs0 : List Value} {r : Timpl_Window} (H : laws_toWindow p0 = some r) (HS : St w M0 [] w) (g0 : (eTlaws_Window).rd w M0 p0 cs0) :
    Calls Try.prog 89 #[.agg cs0.toArray] w (fun en w' => ∃ v, en = .returned v ∧ ∃ (a0 : Option Addr), ∃ (n0 : Nat), ∃ (c0 : Nat), ∃ (F0 : List Nat), v = .agg #[.slice a0 n0 c0] ∧ St w M0 [Res.own (eList (eList (eVal (Value.int .i64) (fun _ => rfl)) 3) 82) F0 r.Rows_ [.slice a0 n0 c0]] w') := by
  obtain ⟨c1, rfl, g2⟩ := rdo_Tlaws_Window g0
  obtain ⟨a3, c4, rfl⟩ := rd_sl1 g2
  unfold laws_toWindow at H
  refine f_enter (vs := [.agg #[.slice a3 p0.Rows_.length c4]]) Try.func89 rfl Try.ntmps89 rfl (HS) ?_
  refine c_seq ?_
  refine c_reg ?_
  refine ow_box (cs := [.slice a3 p0.Rows_.length c4]) rfl rfl rfl rfl rfl rfl (fun _ => kp) (fun b5 => ?_)
  refine ow_alloc rfl rfl rfl rfl ty76 (fun _ => kp) (fun b6 => ?_)
  refine ow_nil ?_
  refine x_qs ?_
  refine c_seq ?_
  refine c_reg ?_
  refine ow_alloc rfl rfl rfl rfl ty76 (fun _ => kp) (fun b7 => ?_)
  refine ow_nil ?_
  refine x_qs ?_
  refine c_seq ?_
  refine c_reg ?_
  refine ow_batch [.fa 101 0 0 fa101_0] rfl ?_
  refine ow_r rfl (dstOk_lt rfl) (ry_box1 (off := 0) rfl rfl ty33 (boxIn (i := 0) rfl) rfl) ?_
  obtain ⟨y8, h9, H⟩ := of_bind H
  refine ow_callS rfl fn34 rfl rfl rfl rfl (fun w1 hw1 => laws_toIntSS_ok w1  h9 (hw1.carve [] rfl rfl) (rds_bor g2 w1 hw1)) (fun v10 w1 w2 hw1 hR12 => ?_)
  obtain ⟨a13, n14, c15, F16, rfl, hS11⟩ := hR12
  obtain rfl := own_nS (i := 0) hS11 rfl
  refine ⟨St w M0 [_, _, _, _], hw1.comp [] rfl rfl hS11, fun _ _ => trivial, ?_⟩
  refine ow_batch [.fa 76 0 0 fa76_0] rfl ?_
  refine ow_storeC (off := 0) [.slice a13 y8.length c15] [_] (i := 2) rfl rfl rfl rfl rfl rfl ty33 rfl rfl (by intro u hu; simp only [List.mem_cons, List.not_mem_nil, or_false] at hu; rcases hu with rfl <;> rfl) rfl rfl rfl kp ?_
  refine ow_nil ?_
  refine x_qs ?_
  refine c_seq ?_
  refine c_reg ?_
  refine ow_r rfl (dstOk_lt rfl) (ry_box (off := 0) (ds := [.slice a13 y8.length c15]) rfl rfl ty76 (boxIn (i := 2) rfl) rfl rfl) ?_
  refine ow_storeC (off := 0) [.slice a13 y8.length c15] [_] (i := 1) rfl rfl rfl rfl rfl rfl ty76 rfl rfl (by intro u hu; simp only [List.mem_cons, List.not_mem_nil, or_false] at hu; rcases hu with rfl <;> rfl) rfl rfl rfl kp ?_
  refine ow_nil ?_
  refine x_qs ?_
  refine c_ret ?_
  exact x_retR (rs := [.cell 2 76]) (vs := [.agg #[.slice a13 y8.length c15]]) rfl ⟨⟨_, [.slice a13 y8.length c15], _, _, _, rfl, ty76, (at_box (T := 76) 0 (boxIn (i := 1) rfl) rfl), rfl, rfl⟩, trivial⟩ (fun w' hw' => by
      obtain rfl := of_some H
      exact ⟨_, rfl, a13, y8.length, c15, F16, rfl, hw'.sel [3] rfl rfl⟩)

set_option maxHeartbeats 4000000 in
set_option maxRecDepth 100000 in
theorem laws_toDet_ok (w : World) {M0 : List Nat} {p0 : Tlaws_Det} {cs0 : List Value} {r : Timpl_Det} (H : laws_toDet p0 = some r) (HS : St w M0 [] w) (g0 : (eTlaws_Det).rd w M0 p0 cs0) :
    Calls Try.prog 78 #[.agg cs0.toArray] w (fun en w' => ∃ v, en = .returned v ∧ ∃ (a0 : Option Addr), ∃ (n0 : Nat), ∃ (c0 : Nat), ∃ (F0 : List Nat), ∃ (a1 : Option Addr), ∃ (n1 : Nat), ∃ (c1 : Nat), ∃ (F1 : List Nat), v = .agg #[.slice a0 n0 c0, .slice a1 n1 c1] ∧ St w M0 [Res.own (eList (eList (eVal (Value.int .i64) (fun _ => rfl)) 3) 82) F0 r.Warn_.Rows_ [.slice a0 n0 c0], Res.own (eList (eList (eVal (Value.int .i64) (fun _ => rfl)) 3) 82) F1 r.Drift_.Rows_ [.slice a1 n1 c1]] w') := by
  obtain ⟨c1, c2, rfl, g3, g4⟩ := rdo_Tlaws_Det g0
  obtain ⟨c5, rfl, g6⟩ := rdo_Tlaws_Window g3
  obtain ⟨a7, c8, rfl⟩ := rd_sl1 g6
  obtain ⟨c9, rfl, g10⟩ := rdo_Tlaws_Window g4
  obtain ⟨a11, c12, rfl⟩ := rd_sl1 g10
  unfold laws_toDet at H
  refine f_enter (vs := [.agg #[.slice a7 p0.Warn_.Rows_.length c8, .slice a11 p0.Drift_.Rows_.length c12]]) Try.func78 rfl Try.ntmps78 rfl (HS) ?_
  refine c_seq ?_
  refine c_reg ?_
  refine ow_box (cs := [.slice a7 p0.Warn_.Rows_.length c8, .slice a11 p0.Drift_.Rows_.length c12]) rfl rfl rfl rfl rfl rfl (fun _ => kp) (fun b13 => ?_)
  refine ow_alloc rfl rfl rfl rfl ty78 (fun _ => kp) (fun b14 => ?_)
  refine ow_nil ?_
  refine x_qs ?_
  refine c_seq ?_
  refine c_reg ?_
  refine ow_alloc rfl rfl rfl rfl ty78 (fun _ => kp) (fun b15 => ?_)
  refine ow_nil ?_
  refine x_qs ?_
  refine c_seq ?_
  refine c_reg ?_
  refine ow_batch [.fa 103 0 0 fa103_0] rfl ?_
  refine ow_r rfl (dstOk_lt rfl) (ry_box (off := 0) (ds := [.slice a7 p0.Warn_.Rows_.length c8]) rfl rfl ty101 (boxIn (i := 0) rfl) rfl rfl) ?_
  obtain ⟨y16, h17, H⟩ := of_bind H
  refine ow_callS rfl fn89 rfl rfl rfl rfl (fun w1 hw1 => laws_toWindow_ok w1 (cs0 := [.slice a7 p0.Warn_.Rows_.length c8]) h17 (hw1.carve [] rfl rfl) (rdm_Tlaws_Window (x := p0.Warn_) (c0 := [.slice a7 p0.Warn_.Rows_.length c8]) (rds_bor g6 w1 hw1))) (fun v18 w1 w2 hw1 hR20 => ?_)
  obtain ⟨a21, n22, c23, F24, rfl, hS19⟩ := hR20
  obtain rfl := own_nS (i := 0) hS19 rfl
  refine ⟨St w M0 [_, _, _, _], hw1.comp [] rfl rfl hS19, fun _ _ => trivial, ?_⟩
  refine ow_batch [.fa 78 0 0 fa78_0] rfl ?_
  refine ow_storeC (off := 0) [.slice a21 y16.Rows_.length c23] [_, _] (i := 2) rfl rfl rfl rfl rfl rfl ty76 rfl rfl (by intro u hu; simp only [List.mem_cons, List.not_mem_nil, or_false] at hu; rcases hu with rfl <;> rfl) rfl rfl rfl kp ?_
  refine ow_nil ?_
  refine x_qs ?_
  refine c_seq ?_
  refine c_reg ?_
  refine ow_batch [.fa 103 1 1 fa103_1] rfl ?_
  refine ow_r rfl (dstOk_lt rfl) (ry_box (off := 1) (ds := [.slice a11 p0.Drift_.Rows_.length c12]) rfl rfl ty101 (boxIn (i := 0) rfl) rfl rfl) ?_
  obtain ⟨y25, h26, H⟩ := of_bind H
  refine ow_callS rfl fn89 rfl rfl rfl rfl (fun w1 hw1 => laws_toWindow_ok w1 (cs0 := [.slice a11 p0.Drift_.Rows_.length c12]) h26 (hw1.carve [] rfl rfl) (rdm_Tlaws_Window (x := p0.Drift_) (c0 := [.slice a11 p0.Drift_.Rows_.length c12]) (rds_bor g10 w1 hw1))) (fun v27 w1 w2 hw1 hR29 => ?_)
  obtain ⟨a30, n31, c32, F33, rfl, hS28⟩ := hR29
  obtain rfl := own_nS (i := 0) hS28 rfl
  refine ⟨St w M0 [_, _, _, _, _], hw1.comp [] rfl rfl hS28, fun _ _ => trivial, ?_⟩
  refine ow_batch [.fa 78 1 1 fa78_1] rfl ?_
  refine ow_storeC (off := 1) [.slice a30 y25.Rows_.length c32] [_, _] (i := 2) rfl rfl rfl rfl rfl rfl ty76 rfl rfl (by intro u hu; simp only [List.mem_cons, List.not_mem_nil, or_false] at hu; rcases hu with rfl <;> rfl) rfl rfl rfl kp ?_
  refine ow_nil ?_
  refine x_qs ?_
  refine c_seq ?_
  refine c_reg ?_
  refine ow_r rfl (dstOk_lt rfl) (ry_box (off := 0) (ds := [.slice a21 y16.Rows_.length c23, .slice a30 y25.Rows_.length c32]) rfl rfl ty78 (boxIn (i := 2) rfl) rfl rfl) ?_
  refine ow_storeC (off := 0) [.slice a21 y16.Rows_.length c23, .slice a30 y25.Rows_.length c32] [_, _] (i := 1) rfl rfl rfl rfl rfl rfl ty78 rfl rfl (by intro u hu; simp only [List.mem_cons, List.not_mem_nil, or_false] at hu; rcases hu with rfl | rfl <;> rfl) rfl rfl rfl kp ?_
  refine ow_nil ?_
  refine x_qs ?_
  refine c_ret ?_
  exact x_retR (rs := [.cell 2 78]) (vs := [.agg #[.slice a21 y16.Rows_.length c23, .slice a30 y25.Rows_.length c32]]) rfl ⟨⟨_, [.slice a21 y16.Rows_.length c23, .slice a30 y25.Rows_.length c32], _, _, _, rfl, ty78, (at_box (T := 78) 0 (boxIn (i := 1) rfl) rfl), rfl, rfl⟩, trivial⟩ (fun w' hw' => by
      obtain rfl := of_some H
      exact ⟨_, rfl, a21, y16.Rows_.length, c23, F24, a30, y25.Rows_.length, c32, F33, rfl, hw'.sel [3, 4] rfl rfl⟩)

set_option maxHeartbeats 4000000 in
set_option maxRecDepth 100000 in
theorem laws_toMember_ok (w : World) {M0 : List Nat} {p0 : Tlaws_Member} {cs0 : List Value} {r : Timpl_Member} (H : laws_toMember p0 = some r) (HS : St w M0 [] w) (g0 : (eTlaws_Member).rd w M0 p0 cs0) :
    Calls Try.prog 55 #[.agg cs0.toArray] w (fun en w' => ∃ v, en = .returned v ∧ ∃ (a0 : Option Addr), ∃ (n0 : Nat), ∃ (c0 : Nat), ∃ (F0 : List Nat), ∃ (a1 : Option Addr), ∃ (n1 : Nat), ∃ (c1 : Nat), ∃ (F1 : List Nat), ∃ (a2 : Option Addr), ∃ (n2 : Nat), ∃ (c2 : Nat), ∃ (F2 : List Nat), ∃ (a3 : Option Addr), ∃ (n3 : Nat), ∃ (c3 : Nat), ∃ (F3 : List Nat), v = .agg #[.slice a0 n0 c0, .int .i64 r.Tree_.Seen_, .bool r.HasYoung_, .slice a1 n1 c1, .int .i64 r.Young_.Seen_, .slice a2 n2 c2, .slice a3 n3 c3] ∧ St w M0 [Res.own (eList (eTimpl_Node) 133) F0 r.Tree_.Nodes_ [.slice a0 n0 c0], Res.own (eList (eTimpl_Node) 133) F1 r.Young_.Nodes_ [.slice a1 n1 c1], Res.own (eList (eList (eVal (Value.int .i64) (fun _ => rfl)) 3) 82) F2 r.Det_.Warn_.Rows_ [.slice a2 n2 c2], Res.own (eList (eList (eVal (Value.int .i64) (fun _ => rfl)) 3) 82) F3 r.Det_.Drift_.Rows_ [.slice a3 n3 c3]] w') := by
  obtain ⟨c1, c2, c3, c4, rfl, g5, g6, g7, g8⟩ := rdo_Tlaws_Member g0
  obtain ⟨c9, c10, rfl, g11, g12⟩ := rdo_Tlaws_Tree g5
  obtain ⟨a13, c14, rfl⟩ := rd_sl1 g11
  obtain rfl : c10 = [.int .i64 p0.Tree_.Seen_] := g12
  obtain rfl : c2 = [.bool p0.HasYoung_] := g6
  obtain ⟨c15, c16, rfl, g17, g18⟩ := rdo_Tlaws_Tree g7
  obtain ⟨a19, c20, rfl⟩ := rd_sl1 g17
  obtain rfl : c16 = [.int .i64 p0.Young_.Seen_] := g18
  obtain ⟨c21, c22, rfl, g23, g24⟩ := rdo_Tlaws_Det g8
  obtain ⟨c25, rfl, g26⟩ := rdo_Tlaws_Window g23
  obtain ⟨a27, c28, rfl⟩ := rd_sl1 g26
  obtain ⟨c29, rfl, g30⟩ := rdo_Tlaws_Window g24
  obtain ⟨a31, c32, rfl⟩ := rd_sl1 g30
  unfold laws_toMember at H
  refine f_enter (vs := [.agg #[.slice a13 p0.Tree_.Nodes_.length c14, .int .i64 p0.Tree_.Seen_, .bool p0.HasYoung_, .slice a19 p0.Young_.Nodes_.length c20, .int .i64 p0.Young_.Seen_, .slice a27 p0.Det_.Warn_.Rows_.length c28, .slice a31 p0.Det_.Drift_.Rows_.length c32]]) Try.func55 rfl Try.ntmps55 rfl (HS) ?_
  refine c_seq ?_
  refine c_reg ?_
  refine ow_box (cs := [.slice a13 p0.Tree_.Nodes_.length c14, .int .i64 p0.Tree_.Seen_, .bool p0.HasYoung_, .slice a19 p0.Young_.Nodes_.length c20, .int .i64 p0.Young_.Seen_, .slice a27 p0.Det_.Warn_.Rows_.length c28, .slice a31 p0.Det_.Drift_.Rows_.length c32]) rfl rfl rfl rfl rfl rfl (fun _ => kp) (fun b33 => ?_)
  refine ow_alloc rfl rfl rfl rfl ty80 (fun _ => kp) (fun b34 => ?_)
  refine ow_nil ?_
  refine x_qs ?_
  refine c_seq ?_
  refine c_reg ?_
  refine ow_alloc rfl rfl rfl rfl ty80 (fun _ => kp) (fun b35 => ?_)
  refine ow_nil ?_
  refine x_qs ?_
  refine c_seq ?_
  refine c_reg ?_
  refine ow_batch [.fa 105 0 0 fa105_0] rfl ?_
  refine ow_r rfl (dstOk_lt rfl) (ry_box (off := 0) (ds := [.slice a13 p0.Tree_.Nodes_.length c14, .int .i64 p0.Tree_.Seen_]) rfl rfl ty100 (boxIn (i := 0) rfl) rfl rfl) ?_
  obtain ⟨y36, h37, H⟩ := of_bind H
  refine ow_callS rfl fn77 rfl rfl rfl rfl (fun w1 hw1 => laws_toTree_ok w1 (cs0 := [.slice a13 p0.Tree_.Nodes_.length c14, .int .i64 p0.Tree_.Seen_]) h37 (hw1.carve [] rfl rfl) (rdm_Tlaws_Tree (x := p0.Tree_) (c0 := [.slice a13 p0.Tree_.Nodes_.length c14]) (c1 := [.int .i64 p0.Tree_.Seen_]) (rds_bor g11 w1 hw1) rfl)) (fun v38 w1 w2 hw1 hR40 => ?_)
  obtain ⟨a41, n42, c43, F44, rfl, hS39⟩ := hR40
  obtain rfl := own_nS (i := 0) hS39 rfl
  refine ⟨St w M0 [_, _, _, _], hw1.comp [] rfl rfl hS39, fun _ _ => trivial, ?_⟩
  refine ow_batch [.fa 80 0 0 fa80_0] rfl ?_
  refine ow_storeC (off := 0) [.slice a41 y36.Nodes_.length c43, .int .i64 y36.Seen_] [_, _, _, _, _, _, _] (i := 2) rfl rfl rfl rfl rfl rfl ty74 rfl rfl (by intro u hu; simp only [List.mem_cons, List.not_mem_nil, or_false] at hu; rcases hu with rfl | rfl <;> rfl) rfl rfl rfl kp ?_
  refine ow_nil ?_
  refine x_qs ?_
  refine c_seq ?_
  refine c_reg ?_
  refine ow_batch [.fa 105 1 2 fa105_1] rfl ?_
  refine ow_r rfl (dstOk_lt rfl) (ry_box1 (off := 2) rfl rfl ty4 (boxIn (i := 0) rfl) rfl) ?_
  refine ow_batch [.fa 80 1 2 fa80_1] rfl ?_
  refine ow_storeC (off := 2) [.bool p0.HasYoung_] [_, _, _, _, _, _, _] (i := 2) rfl rfl rfl rfl rfl rfl ty4 rfl rfl (by intro u hu; simp only [List.mem_cons, List.not_mem_nil, or_false] at hu; rcases hu with rfl <;> rfl) rfl rfl rfl kp ?_
  refine ow_nil ?_
  refine x_qs ?_
  refine c_seq ?_
  refine c_reg ?_
  refine ow_batch [.fa 105 2 3 fa105_2] rfl ?_
  refine ow_r rfl (dstOk_lt rfl) (ry_box (off := 3) (ds := [.slice a19 p0.Young_.Nodes_.length c20, .int .i64 p0.Young_.Seen_]) rfl rfl ty100 (boxIn (i := 0) rfl) rfl rfl) ?_
  obtain ⟨y45, h46, H⟩ := of_bind H
  refine ow_callS rfl fn77 rfl rfl rfl rfl (fun w1 hw1 => laws_toTree_ok w1 (cs0 := [.slice a19 p0.Young_.Nodes_.length c20, .int .i64 p0.Young_.Seen_]) h46 (hw1.carve [] rfl rfl) (rdm_Tlaws_Tree (x := p0.Young_) (c0 := [.slice a19 p0.Young_.Nodes_.length c20]) (c1 := [.int .i64 p0.Young_.Seen_]) (rds_bor g17 w1 hw1) rfl)) (fun v47 w1 w2 hw1 hR49 => ?_)
  obtain ⟨a50, n51, c52, F53, rfl, hS48⟩ := hR49
  obtain rfl := own_nS (i := 0) hS48 rfl
  refine ⟨St w M0 [_, _, _, _, _], hw1.comp [] rfl rfl hS48, fun _ _ => trivial, ?_⟩
  refine ow_batch [.fa 80 2 3 fa80_2] rfl ?_
  refine ow_storeC (off := 3) [.slice a50 y45.Nodes_.length c52, .int .i64 y45.Seen_] [_, _, _, _, _, _, _] (i := 2) rfl rfl rfl rfl rfl rfl ty74 rfl rfl (by intro u hu; simp only [List.mem_cons, List.not_mem_nil, or_false] at hu; rcases hu with rfl | rfl <;> rfl) rfl rfl rfl kp ?_
  refine ow_nil ?_
  refine x_qs ?_
  refine c_seq ?_
  refine c_reg ?_
  refine ow_batch [.fa 105 3 5 fa105_3] rfl ?_
  refine ow_r rfl (dstOk_lt rfl) (ry_box (off := 5) (ds := [.slice a27 p0.Det_.Warn_.Rows_.length c28, .slice a31 p0.Det_.Drift_.Rows_.length c32]) rfl rfl ty103 (boxIn (i := 0) rfl) rfl rfl) ?_
  obtain ⟨y54, h55, H⟩ := of_bind H
  refine ow_callS rfl fn78 rfl rfl rfl rfl (fun w1 hw1 => laws_toDet_ok w1 (cs0 := [.slice a27 p0.Det_.Warn_.Rows_.length c28, .slice a31 p0.Det_.Drift_.Rows_.length c32]) h55 (hw1.carve [] rfl rfl) (rdm_Tlaws_Det (x := p0.Det_) (c0 := [.slice a27 p0.Det_.Warn_.Rows_.length c28]) (c1 := [.slice a31 p0.Det_.Drift_.Rows_.length c32]) (rdm_Tlaws_Window (x := p0.Det_.Warn_) (c0 := [.slice a27 p0.Det_.Warn_.Rows_.length c28]) (rds_bor g26 w1 hw1)) (rdm_Tlaws_Window (x := p0.Det_.Drift_) (c0 := [.slice a31 p0.Det_.Drift_.Rows_.length c32]) (rds_bor g30 w1 hw1)))) (fun v56 w1 w2 hw1 hR58 => ?_)
  obtain ⟨a59, n60, c61, F62, a63, n64, c65, F66, rfl, hS57⟩ := hR58
  obtain rfl := own_nS (i := 0) hS57 rfl
  obtain rfl := own_nS (i := 1) hS57 rfl
  refine ⟨St w M0 [_, _, _, _, _, _, _], hw1.comp [] rfl rfl hS57, fun _ _ => trivial, ?_⟩
  refine ow_batch [.fa 80 3 5 fa80_3] rfl ?_
  refine ow_storeC (off := 5) [.slice a59 y54.Warn_.Rows_.length c61, .slice a63 y54.Drift_.Rows_.length c65] [_, _, _, _, _, _, _] (i := 2) rfl rfl rfl rfl rfl rfl ty78 rfl rfl (by intro u hu; simp only [List.mem_cons, List.not_mem_nil, or_false] at hu; rcases hu with rfl | rfl <;> rfl) rfl rfl rfl kp ?_
  refine ow_nil ?_
  refine x_qs ?_
  refine c_seq ?_
  refine c_reg ?_
  refine ow_r rfl (dstOk_lt rfl) (ry_box (off := 0) (ds := [.slice a41 y36.Nodes_.length c43, .int .i64 y36.Seen_, .bool p0.HasYoung_, .slice a50 y45.Nodes_.length c52, .int .i64 y45.Seen_, .slice a59 y54.Warn_.Rows_.length c61, .slice a63 y54.Drift_.Rows_.length c65]) rfl rfl ty80 (boxIn (i := 2) rfl) rfl rfl) ?_
  refine ow_storeC (off := 0) [.slice a41 y36.Nodes_.length c43, .int .i64 y36.Seen_, .bool p0.HasYoung_, .slice a50 y45.Nodes_.length c52, .int .i64 y45.Seen_, .slice a59 y54.Warn_.Rows_.length c61, .slice a63 y54.Drift_.Rows_.length c65] [_, _, _, _, _, _, _] (i := 1) rfl rfl rfl rfl rfl rfl ty80 rfl rfl (by intro u hu; simp only [List.mem_cons, List.not_mem_nil, or_false] at hu; rcases hu with rfl | rfl | rfl | rfl | rfl | rfl | rfl <;> rfl) rfl rfl rfl kp ?_
  refine ow_nil ?_
  refine x_qs ?_
  refine c_ret ?_
  exact x_retR (rs := [.cell 2 80]) (vs := [.agg #[.slice a41 y36.Nodes_.length c43, .int .i64 y36.Seen_, .bool p0.HasYoung_, .slice a50 y45.Nodes_.length c52, .int .i64 y45.Seen_, .slice a59 y54.Warn_.Rows_.length c61, .slice a63 y54.Drift_.Rows_.length c65]]) rfl ⟨⟨_, [.slice a41 y36.Nodes_.length c43, .int .i64 y36.Seen_, .bool p0.HasYoung_, .slice a50 y45.Nodes_.length c52, .int .i64 y45.Seen_, .slice a59 y54.Warn_.Rows_.length c61, .slice a63 y54.Drift_.Rows_.length c65], _, _, _, rfl, ty80, (at_box (T := 80) 0 (boxIn (i := 1) rfl) rfl), rfl, rfl⟩, trivial⟩ (fun w' hw' => by
      obtain rfl := of_some H
      exact ⟨_, rfl, a41, y36.Nodes_.length, c43, F44, a50, y45.Nodes_.length, c52, F53, a59, y54.Warn_.Rows_.length, c61, F62, a63, y54.Drift_.Rows_.length, c65, F66, rfl, hw'.sel [3, 4, 5, 6] rfl rfl⟩)

set_option maxHeartbeats 4000000 in
set_option maxRecDepth 100000 in
theorem laws_toMemberS_ok (w : World) {M0 : List Nat} {p0 : List Tlaws_Member} {a_0 : Option Addr} {n_0 c_0 : Nat} {r : List Timpl_Member} (H : laws_toMemberS p0 = some r) (HS : St w M0 [] w) (g0 : (eList (eTlaws_Member) 105).rd w M0 p0 [.slice a_0 n_0 c_0]) :
    Calls Try.prog 33 #[.slice a_0 n_0 c_0] w (fun en w' => ∃ v, en = .returned v ∧ ∃ (a0 : Option Addr), ∃ (n0 : Nat), ∃ (c0 : Nat), ∃ (F0 : List Nat), v = .slice a0 n0 c0 ∧ St w M0 [Res.own (eList (eTimpl_Member) 80) F0 r [.slice a0 n0 c0]] w') := by
  obtain rfl := rd_n g0
  unfold laws_toMemberS at H
  refine f_enter (vs := [.slice a_0 p0.length c_0]) Try.func33 rfl Try.ntmps33 rfl (HS) ?_
  refine c_seq ?_
  refine c_reg ?_
  refine ow_batch [.p] rfl ?_
  refine ow_nil ?_
  refine x_qs ?_
  refine c_seq ?_
  refine c_reg ?_
  refine ow_batch [.p, .lenS 30 105 sl30] rfl ?_
  obtain ⟨l1, h2, H⟩ := of_bind H
  refine ow_make (e := eTimpl_Member) (zero := ((Timpl_Member.mk (Timpl_Tree.mk [] 0) false (Timpl_Tree.mk [] 0) (Timpl_Det.mk (Timpl_Window.mk []) (Timpl_Window.mk []))) : Timpl_Member)) rfl rfl rfl rfl rfl rfl sl47 ty80 rfl rfl rfl rfl (fun _ => (ownm_Timpl_Member (x := (Timpl_Member.mk (Timpl_Tree.mk [] 0) false (Timpl_Tree.mk [] 0) (Timpl_Det.mk (Timpl_Window.mk []) (Timpl_Window.mk [])))) ((ownm_Timpl_Tree (x := (Timpl_Tree.mk [] 0)) ((.inl ⟨rfl, rfl, rfl⟩) : (eList (eTimpl_Node) 133).own _ [] ([] : List Timpl_Node) _) (⟨rfl, rfl⟩ : (eVal (Value.int .i64) (fun _ => rfl)).own _ [] (0 : Int) _)) : (eTimpl_Tree).own _ [] ((Timpl_Tree.mk [] 0) : Timpl_Tree) _) (⟨rfl, rfl⟩ : (eBool).own _ [] (false : Bool) _) ((ownm_Timpl_Tree (x := (Timpl_Tree.mk [] 0)) ((.inl ⟨rfl, rfl, rfl⟩) : (eList (eTimpl_Node) 133).own _ [] ([] : List Timpl_Node) _) (⟨rfl, rfl⟩ : (eVal (Value.int .i64) (fun _ => rfl)).own _ [] (0 : Int) _)) : (eTimpl_Tree).own _ [] ((Timpl_Tree.mk [] 0) : Timpl_Tree) _) ((ownm_Timpl_Det (x := (Timpl_Det.mk (Timpl_Window.mk []) (Timpl_Window.mk []))) ((ownm_Timpl_Window (x := (Timpl_Window.mk [])) ((.inl ⟨rfl, rfl, rfl⟩) : (eList (eList (eVal (Value.int .i64) (fun _ => rfl)) 3) 82).own _ [] ([] : List (List Int)) _)) : (eTimpl_Window).own _ [] ((Timpl_Window.mk []) : Timpl_Window) _) ((ownm_Timpl_Window (x := (Timpl_Window.mk [])) ((.inl ⟨rfl, rfl, rfl⟩) : (eList (eList (eVal (Value.int .i64) (fun _ => rfl)) 3) 82).own _ [] ([] : List (List Int)) _)) : (eTimpl_Window).own _ [] ((Timpl_Window.mk []) : Timpl_Window) _)) : (eTimpl_Det).own _ [] ((Timpl_Det.mk (Timpl_Window.mk []) (Timpl_Window.mk [])) : Timpl_Det) _))) h2 (fun _ => kp) (fun b3 => ?_)
  refine ow_batch [.p] rfl ?_
  refine ow_nil ?_
  refine x_qs ?_
  refine c_seq ?_
  refine c_seq ?_
  refine c_reg ?_
  refine ow_batch [.p] rfl ?_
  refine ow_nil ?_
  refine x_qs ?_
  refine c_block ?_
  refine CW.at (loopI3 (fun (l90 : List Timpl_Member) (F91 : List Nat) (i92 : Int) => St w M0 [Res.own (eList (eTimpl_Member) 80) F91 l90 [.slice (some ⟨b3, 0, none⟩) l1.length l1.length]]) (fun (l90 : List Timpl_Member) (F91 : List Nat) (i92 : Int) => [(0, .slice a_0 p0.length c_0), (3, .slice (some ⟨b3, 0, none⟩) l1.length l1.length), (4, .int .i64 i92)]) (fun kk => fun (l90 : List Timpl_Member) (F91 : List Nat) (i92 : Int) => laws_toMemberS_L1 p0 kk l90 i92 = some r) (fun _ _ _ H => ?_) (fun k1 ihk1 l90 F91 i92 H => ?_) Fuel (l1) ([b3]) (0) (H)) (fun _ h => St.sel [0] rfl rfl h) ⟨rfl, rfl, rfl,  trivial⟩
  · unfold laws_toMemberS_L1 at H
    exact absurd H (by simp)
  · unfold laws_toMemberS_L1 at H
    refine c_seq ?_
    refine c_seq ?_
    refine c_reg ?_
    refine ow_batch [.p, .p, .lenS 30 105 sl30, .p] rfl ?_
    refine ow_nil ?_
    refine x_qs ?_
    refine c_if rfl (fun hb => ?_) (fun hb => ?_)
    · have H := of_if_t hb H
      refine c_skip ?_
      refine x_qs ?_
      refine c_seq ?_
      refine c_block ?_
      refine c_reg ?_
      refine ow_batch [.p, .p, .p, .p] rfl ?_
      obtain ⟨e179, h180, H⟩ := of_bind H
      refine ow_ixB rfl rfl rfl rfl rfl sl30 ty105 rfl g0 h180 (fun q183 c184 hd181 hA182 => ?_)
      obtain ⟨c185, c186, c187, c188, rfl, g189, g190, g191, g192⟩ := rdo_Tlaws_Member hd181
      obtain ⟨c193, c194, rfl, g195, g196⟩ := rdo_Tlaws_Tree g189
      obtain ⟨a197, c198, rfl⟩ := rd_sl1 g195
      obtain rfl : c194 = [.int .i64 e179.Tree_.Seen_] := g196
      obtain rfl : c186 = [.bool e179.HasYoung_] := g190
      obtain ⟨c199, c200, rfl, g201, g202⟩ := rdo_Tlaws_Tree g191
      obtain ⟨a203, c204, rfl⟩ := rd_sl1 g201
      obtain rfl : c200 = [.int .i64 e179.Young_.Seen_] := g202
      obtain ⟨c205, c206, rfl, g207, g208⟩ := rdo_Tlaws_Det g192
      obtain ⟨c209, rfl, g210⟩ := rdo_Tlaws_Window g207
      obtain ⟨a211, c212, rfl⟩ := rd_sl1 g210
      obtain ⟨c213, rfl, g214⟩ := rdo_Tlaws_Window g208
      obtain ⟨a215, c216, rfl⟩ := rd_sl1 g214
      refine ow_r rfl (dstOk_lt rfl) (ry_load (cs := [.slice a197 e179.Tree_.Nodes_.length c198, .int .i64 e179.Tree_.Seen_, .bool e179.HasYoung_, .slice a203 e179.Young_.Nodes_.length c204, .int .i64 e179.Young_.Seen_, .slice a211 e179.Det_.Warn_.Rows_.length c212, .slice a215 e179.Det_.Drift_.Rows_.length c216]) rfl rfl ty105 (at_bor bor hA182) rfl) ?_
      obtain ⟨y217, h218, H⟩ := of_bind H
      refine ow_callS rfl fn55 rfl rfl rfl rfl (fun w1 hw1 => laws_toMember_ok w1 (cs0 := [.slice a197 e179.Tree_.Nodes_.length c198, .int .i64 e179.Tree_.Seen_, .bool e179.HasYoung_, .slice a203 e179.Young_.Nodes_.length c204, .int .i64 e179.Young_.Seen_, .slice a211 e179.Det_.Warn_.Rows_.length c212, .slice a215 e179.Det_.Drift_.Rows_.length c216]) h218 (hw1.carve [] rfl rfl) (rdm_Tlaws_Member (x := e179) (c0 := [.slice a197 e179.Tree_.Nodes_.length c198, .int .i64 e179.Tree_.Seen_]) (c1 := [.bool e179.HasYoung_]) (c2 := [.slice a203 e179.Young_.Nodes_.length c204, .int .i64 e179.Young_.Seen_]) (c3 := [.slice a211 e179.Det_.Warn_.Rows_.length c212, .slice a215 e179.Det_.Drift_.Rows_.length c216]) (rdm_Tlaws_Tree (x := e179.Tree_) (c0 := [.slice a197 e179.Tree_.Nodes_.length c198]) (c1 := [.int .i64 e179.Tree_.Seen_]) (rds_bor g195 w1 hw1) rfl) rfl (rdm_Tlaws_Tree (x := e179.Young_) (c0 := [.slice a203 e179.Young_.Nodes_.length c204]) (c1 := [.int .i64 e179.Young_.Seen_]) (rds_bor g201 w1 hw1) rfl) (rdm_Tlaws_Det (x := e179.Det_) (c0 := [.slice a211 e179.Det_.Warn_.Rows_.length c212]) (c1 := [.slice a215 e179.Det_.Drift_.Rows_.length c216]) (rdm_Tlaws_Window (x := e179.Det_.Warn_) (c0 := [.slice a211 e179.Det_.Warn_.Rows_.length c212]) (rds_bor g210 w1 hw1)) (rdm_Tlaws_Window (x := e179.Det_.Drift_) (c0 := [.slice a215 e179.Det_.Drift_.Rows_.length c216]) (rds_bor g214 w1 hw1))))) (fun v219 w1 w2 hw1 hR221 => ?_)
      obtain ⟨a222, n223, c224, F225, a226, n227, c228, F229, a230, n231, c232, F233, a234, n235, c236, F237, rfl, hS220⟩ := hR221
      obtain rfl := own_nS (i := 0) hS220 rfl
      obtain rfl := own_nS (i := 1) hS220 rfl
      obtain rfl := own_nS (i := 2) hS220 rfl
      obtain rfl := own_nS (i := 3) hS220 rfl
      refine ⟨St w M0 [_, _, _, _, _], hw1.comp [] rfl rfl hS220, fun _ _ => trivial, ?_⟩
      obtain ⟨e238, h239, H⟩ := of_bind H
      refine ow_ex4 rfl (fun w1 hw1 => foc (r := 0) hw1 rfl h239) (fun b241 G242 F243 c244 => ?_)
      refine ow_fact rfl (fun w1 hw1 => hw1.1) (fun q240 => ?_)
      obtain ⟨ha245, hn246⟩ := q240
      refine ow_st (C' := St w M0 [_, _, _, _, _, _, _]) rfl (fun w1 hw1 => hw1.2) ?_
      refine ow_ex3 rfl (fun w1 hw1 => opn_Timpl_Member (i := 6) hw1 rfl) (fun a248 c249 F250 => ?_)
      refine ow_ex3 rfl (fun _ h => h) (fun a251 c252 F253 => ?_)
      refine ow_ex3 rfl (fun _ h => h) (fun a254 c255 F256 => ?_)
      refine ow_ex3 rfl (fun _ h => h) (fun a257 c258 F259 => ?_)
      refine ow_fact rfl (fun w1 hw1 => hw1.1) (fun q247 => ?_)
      subst q247
      refine ow_st (C' := St w M0 [_, _, _, _, _, _, _, _, _, _, _]) rfl (fun w1 hw1 => hw1.2) ?_
      refine ow_ixH rfl rfl rfl rfl rfl sl47 ty80 rfl (holeIn (p := 5) rfl) hn246 ha245 (idx_some h239).1 ?_
      refine ow_storeH (off := 0) [.slice a222 y217.Tree_.Nodes_.length c224, .int .i64 y217.Tree_.Seen_, .bool y217.HasYoung_, .slice a226 y217.Young_.Nodes_.length c228, .int .i64 y217.Young_.Seen_, .slice a230 y217.Det_.Warn_.Rows_.length c232, .slice a234 y217.Det_.Drift_.Rows_.length c236] (p := 5) (c' := [_, _, _, _, _, _, _]) rfl rfl rfl rfl rfl (by first | rfl | simp only [add_lit, add_add, add_zero]) rfl ty80 rfl rfl (by intro u hu; simp only [List.mem_cons, List.not_mem_nil, or_false] at hu; rcases hu with rfl | rfl | rfl | rfl | rfl | rfl | rfl <;> rfl) rfl rfl rfl kp ?_
      refine ow_nil ?_
      refine x_qb ?_
      refine x_qs ?_
      refine CW.weak (C' := St w M0 [_, _, _, _, _, _, _, _, _]) ?_ (fun _ h => St.sel [1, 2, 3, 4, 5, 7, 8, 9, 10] rfl rfl h)
      refine c_reg ?_
      refine ow_batch [.p, .p, .p] rfl ?_
      refine ow_nil ?_
      refine xw_ex (fun w1 hw1 => fus_Timpl_Member (x1 := y217.Tree_.Seen_) (x2 := y217.HasYoung_) (x4 := y217.Young_.Seen_) [0, 1, 2, 3] hw1 rfl rfl) (fun F260 => ?_)
      refine xw_st (C' := St w M0 [_, _, _, _, _, _, _, _, _, _]) (fun _ h => h) ?_
      refine xw_ex (fun w1 hw1 => unf (p := 4) (q := 9) hw1 rfl rfl rfl hn246 ha245) (fun F261 => ?_)
      refine xw_st (C' := St w M0 [_, _, _, _, _, _, _, _, _, _, _]) (fun _ h => h) ?_
      exact x_ql (RW.at (ihk1 ((l90.set i92.toNat y217)) (F261) (IntKind.i64.wrap (i92 + 1)) (H)) (fun _ h => St.sel [10] rfl rfl h) ⟨rfl, rfl, rfl, trivial⟩)
    · have H := of_if_f hb H
      refine c_exit ?_
      refine x_qs_exit ?_
      refine x_ql_exit ?_
      refine x_qb_here ?_
      refine x_qs ?_
      refine c_seq ?_
      refine c_reg ?_
      refine ow_batch [.p, .p] rfl ?_
      refine ow_nil ?_
      refine x_qs ?_
      refine c_ret ?_
      exact x_retR (rs := [.tmp 2]) (vs := [.slice (some ⟨b3, 0, none⟩) l1.length l1.length]) rfl ⟨rfl, trivial⟩ (fun w' hw' => by
          obtain rfl := of_some H
          exact ⟨_, rfl, (some ⟨b3, 0, none⟩), l1.length, l1.length, F91, rfl, hw'.sel [0] rfl rfl⟩)

set_option maxHeartbeats 4000000 in
set_option maxRecDepth 100000 in
theorem laws_toForest_ok (w : World) {M0 : List Nat} {p0 : Tlaws_Forest} {cs0 : List Value} {r : Timpl_Forest} (H : laws_toForest p0 = some r) (HS : St w M0 [] w) (g0 : (eTlaws_Forest).rd w M0 p0 cs0) :
    Calls Try.prog 16 #[.agg cs0.toArray] w (fun en w' => ∃ v, en = .returned v ∧ ∃ (a0 : Option Addr), ∃ (n0 : Nat), ∃ (c0 : Nat), ∃ (F0 : List Nat), v = .agg #[.slice a0 n0 c0] ∧ St w M0 [Res.own (eList (eTimpl_Member) 80) F0 r.Members_ [.slice a0 n0 c0]] w') := by
  obtain ⟨c1, rfl, g2⟩ := rdo_Tlaws_Forest g0
  obtain ⟨a3, c4, rfl⟩ := rd_sl1 g2
  unfold laws_toForest at H
  refine f_enter (vs := [.agg #[.slice a3 p0.Members_.length c4]]) Try.func16 rfl Try.ntmps16 rfl (HS) ?_
  refine c_seq ?_
  refine c_reg ?_
  refine ow_box (cs := [.slice a3 p0.Members_.length c4]) rfl rfl rfl rfl rfl rfl (fun _ => kp) (fun b5 => ?_)
  refine ow_alloc rfl rfl rfl rfl ty49 (fun _ => kp) (fun b6 => ?_)
  refine ow_nil ?_
  refine x_qs ?_
  refine c_seq ?_
  refine c_reg ?_
  refine ow_alloc rfl rfl rfl rfl ty49 (fun _ => kp) (fun b7 => ?_)
  refine ow_nil ?_
  refine x_qs ?_
  refine c_seq ?_
  refine c_reg ?_
  refine ow_batch [.fa 32 0 0 fa32_0] rfl ?_
  refine ow_r rfl (dstOk_lt rfl) (ry_box1 (off := 0) rfl rfl ty30 (boxIn (i := 0) rfl) rfl) ?_
  obtain ⟨y8, h9, H⟩ := of_bind H
  refine ow_callS rfl fn33 rfl rfl rfl rfl (fun w1 hw1 => laws_toMemberS_ok w1  h9 (hw1.carve [] rfl rfl) (rds_bor g2 w1 hw1)) (fun v10 w1 w2 hw1 hR12 => ?_)
  obtain ⟨a13, n14, c15, F16, rfl, hS11⟩ := hR12
  obtain rfl := own_nS (i := 0) hS11 rfl
  refine ⟨St w M0 [_, _, _, _], hw1.comp [] rfl rfl hS11, fun _ _ => trivial, ?_⟩
  refine ow_batch [.fa 49 0 0 fa49_0] rfl ?_
  refine ow_storeC (off := 0) [.slice a13 y8.length c15] [_] (i := 2) rfl rfl rfl rfl rfl rfl ty47 rfl rfl (by intro u hu; simp only [List.mem_cons, List.not_mem_nil, or_false] at hu; rcases hu with rfl <;> rfl) rfl rfl rfl kp ?_
  refine ow_nil ?_
  refine x_qs ?_
  refine c_seq ?_
  refine c_reg ?_
  refine ow_r rfl (dstOk_lt rfl) (ry_box (off := 0) (ds := [.slice a13 y8.length c15]) rfl rfl ty49 (boxIn (i := 2) rfl) rfl rfl) ?_
  refine ow_storeC (off := 0) [.slice a13 y8.length c15] [_] (i := 1) rfl rfl rfl rfl rfl rfl ty49 rfl rfl (by intro u hu; simp only [List.mem_cons, List.not_mem_nil, or_false] at hu; rcases hu with rfl <;> rfl) rfl rfl rfl kp ?_
  refine ow_nil ?_
  refine x_qs ?_
  refine c_ret ?_
  exact x_retR (rs := [.cell 2 49]) (vs := [.agg #[.slice a13 y8.length c15]]) rfl ⟨⟨_, [.slice a13 y8.length c15], _, _, _, rfl, ty49, (at_box (T := 49) 0 (boxIn (i := 1) rfl) rfl), rfl, rfl⟩, trivial⟩ (fun w' hw' => by
      obtain rfl := of_some H
      exact ⟨_, rfl, a13, y8.length, c15, F16, rfl, hw'.sel [3] rfl rfl⟩)

set_option maxHeartbeats 4000000 in
set_option maxRecDepth 100000 in
theorem laws_toPair_ok (w : World) {p0 : Tlaws_Pair}  {r : Timpl_Pair} (H : laws_toPair p0 = some r)   :
    Calls Try.prog 57 #[.agg #[.int .i64 p0.Truth_, .int .i64 p0.Said_]] w (fun en w' => en = .returned (.agg #[.int .i64 r.Truth_, .int .i64 r.Said_]) ∧ Ext [] w w') := by
  unfold laws_toPair at H
  refine f_enter (vs := [.agg #[.int .i64 p0.Truth_, .int .i64 p0.Said_]]) Try.func57 rfl Try.ntmps57 rfl (St.init w []) ?_
  refine c_seq ?_
  refine c_reg ?_
  refine ow_box (cs := [.int .i64 p0.Truth_, .int .i64 p0.Said_]) rfl rfl rfl rfl rfl rfl (fun _ => kp) (fun b1 => ?_)
  refine ow_alloc rfl rfl rfl rfl ty84 (fun _ => kp) (fun b2 => ?_)
  refine ow_nil ?_
  refine x_qs ?_
  refine c_seq ?_
  refine c_reg ?_
  refine ow_alloc rfl rfl rfl rfl ty84 (fun _ => kp) (fun b3 => ?_)
  refine ow_nil ?_
  refine x_qs ?_
  refine c_seq ?_
  refine c_reg ?_
  refine ow_batch [.fa 117 0 0 fa117_0] rfl ?_
  refine ow_r rfl (dstOk_lt rfl) (ry_box1 (off := 0) rfl rfl ty3 (boxIn (i := 0) rfl) rfl) ?_
  refine ow_batch [.fa 84 0 0 fa84_0] rfl ?_
  refine ow_storeC (off := 0) [.int .i64 p0.Truth_] [_, _] (i := 2) rfl rfl rfl rfl rfl rfl ty3 rfl rfl (by intro u hu; simp only [List.mem_cons, List.not_mem_nil, or_false] at hu; rcases hu with rfl <;> rfl) rfl rfl rfl kp ?_
  refine ow_nil ?_
  refine x_qs ?_
  refine c_seq ?_
  refine c_reg ?_
  refine ow_batch [.fa 117 1 1 fa117_1] rfl ?_
  refine ow_r rfl (dstOk_lt rfl) (ry_box1 (off := 1) rfl rfl ty3 (boxIn (i := 0) rfl) rfl) ?_
  refine ow_batch [.fa 84 1 1 fa84_1] rfl ?_
  refine ow_storeC (off := 1) [.int .i64 p0.Said_] [_, _] (i := 2) rfl rfl rfl rfl rfl rfl ty3 rfl rfl (by intro u hu; simp only [List.mem_cons, List.not_mem_nil, or_false] at hu; rcases hu with rfl <;> rfl) rfl rfl rfl kp ?_
  refine ow_nil ?_
  refine x_qs ?_
  refine c_seq ?_
  refine c_reg ?_
  refine ow_r rfl (dstOk_lt rfl) (ry_box (off := 0) (ds := [.int .i64 p0.Truth_, .int .i64 p0.Said_]) rfl rfl ty84 (boxIn (i := 2) rfl) rfl rfl) ?_
  refine ow_storeC (off := 0) [.int .i64 p0.Truth_, .int .i64 p0.Said_] [_, _] (i := 1) rfl rfl rfl rfl rfl rfl ty84 rfl rfl (by intro u hu; simp only [List.mem_cons, List.not_mem_nil, or_false] at hu; rcases hu with rfl | rfl <;> rfl) rfl rfl rfl kp ?_
  refine ow_nil ?_
  refine x_qs ?_
  refine c_ret ?_
  exact x_retR (rs := [.cell 2 84]) (vs := [.agg #[.int .i64 p0.Truth_, .int .i64 p0.Said_]]) rfl ⟨⟨_, [.int .i64 p0.Truth_, .int .i64 p0.Said_], _, _, _, rfl, ty84, (at_box (T := 84) 0 (boxIn (i := 1) rfl) rfl), rfl, rfl⟩, trivial⟩ (fun w' hw' => by
      obtain rfl := of_some H
      exact ⟨rfl, hw'.ext⟩)

set_option maxHeartbeats 4000000 in
set_option maxRecDepth 100000 in
theorem laws_toPairS_ok (w : World) {M0 : List Nat} {p0 : List Tlaws_Pair} {a_0 : Option Addr} {n_0 c_0 : Nat} {r : List Timpl_Pair} (H : laws_toPairS p0 = some r) (HS : St w M0 [] w) (g0 : (eList (eTlaws_Pair) 117).rd w M0 p0 [.slice a_0 n_0 c_0]) :
    Calls Try.prog 35 #[.slice a_0 n_0 c_0] w (fun en w' => ∃ v, en = .returned v ∧ ∃ (a0 : Option Addr), ∃ (n0 : Nat), ∃ (c0 : Nat), ∃ (F0 : List Nat), v = .slice a0 n0 c0 ∧ St w M0 [Res.own (eList (eTimpl_Pair) 84) F0 r [.slice a0 n0 c0]] w') := by
  obtain rfl := rd_n g0
  unfold laws_toPairS at H
  refine f_enter (vs := [.slice a_0 p0.length c_0]) Try.func35 rfl Try.ntmps35 rfl (HS) ?_
  refine c_seq ?_
  refine c_reg ?_
  refine ow_batch [.p] rfl ?_
  refine ow_nil ?_
  refine x_qs ?_
  refine c_seq ?_
  refine c_reg ?_
  refine ow_batch [.p, .lenS 34 117 sl34] rfl ?_
  obtain ⟨l1, h2, H⟩ := of_bind H
  refine ow_make (e := eTimpl_Pair) (zero := ((Timpl_Pair.mk 0 0) : Timpl_Pair)) rfl rfl rfl rfl rfl rfl sl50 ty84 rfl rfl rfl rfl (fun _ => ⟨rfl, rfl⟩) h2 (fun _ => kp) (fun b3 => ?_)
  refine ow_batch [.p] rfl ?_
  refine ow_nil ?_
  refine x_qs ?_
  refine c_seq ?_
  refine c_seq ?_
  refine c_reg ?_
  refine ow_batch [.p] rfl ?_
  refine ow_nil ?_
  refine x_qs ?_
  refine c_block ?_
  refine CW.at (loopI3 (fun (l21 : List Timpl_Pair) (F22 : List Nat) (i23 : Int) => St w M0 [Res.own (eList (eTimpl_Pair) 84) F22 l21 [.slice (some ⟨b3, 0, none⟩) l1.length l1.length]]) (fun (l21 : List Timpl_Pair) (F22 : List Nat) (i23 : Int) => [(0, .slice a_0 p0.length c_0), (3, .slice (some ⟨b3, 0, none⟩) l1.length l1.length), (4, .int .i64 i23)]) (fun kk => fun (l21 : List Timpl_Pair) (F22 : List Nat) (i23 : Int) => laws_toPairS_L1 p0 kk l21 i23 = some r) (fun _ _ _ H => ?_) (fun k1 ihk1 l21 F22 i23 H => ?_) Fuel (l1) ([b3]) (0) (H)) (fun _ h => St.sel [0] rfl rfl h) ⟨rfl, rfl, rfl,  trivial⟩
  · unfold laws_toPairS_L1 at H
    exact absurd H (by simp)
  · unfold laws_toPairS_L1 at H
    refine c_seq ?_
    refine c_seq ?_
    refine c_reg ?_
    refine ow_batch [.p, .p, .lenS 34 117 sl34, .p] rfl ?_
    refine ow_nil ?_
    refine x_qs ?_
    refine c_if rfl (fun hb => ?_) (fun hb => ?_)
    · have H := of_if_t hb H
      refine c_skip ?_
      refine x_qs ?_
      refine c_seq ?_
      refine c_block ?_
      refine c_reg ?_
      refine ow_batch [.p, .p, .p, .p] rfl ?_
      obtain ⟨e41, h42, H⟩ := of_bind H
      refine ow_ixE (e := eTlaws_Pair) (xs := p0) (j := i23) rfl rfl rfl rfl rfl sl34 ty117 rfl (fun w1 hw1 => rds_bor g0 w1 hw1) h42 rfl ?_
      refine ow_r rfl (dstOk_lt rfl) (ry_load (cs := [.int .i64 e41.Truth_, .int .i64 e41.Said_]) rfl rfl ty117 (at_castA (at_eltE (fun w1 hw1 => rds_bor g0 w1 hw1) h42 (fun _ _ h => h)) rfl) rfl) ?_
      obtain ⟨y43, h44, H⟩ := of_bind H
      refine ow_q rfl rfl (dstOk_lt rfl) (qy_call rfl fn57 rfl (fun w1 hw1 => laws_toPair_ok w1 (p0 := e41) h44)) (fun _ _ => trivial) ?_
      obtain ⟨e45, h46, H⟩ := of_bind H
      refine ow_ex4 rfl (fun w1 hw1 => foc (r := 0) hw1 rfl h46) (fun b48 G49 F50 c51 => ?_)
      refine ow_fact rfl (fun w1 hw1 => hw1.1) (fun q47 => ?_)
      obtain ⟨ha52, hn53⟩ := q47
      refine ow_st (C' := St w M0 [_, _, _]) rfl (fun w1 hw1 => hw1.2) ?_
      refine ow_fact rfl (fun w1 hw1 => opn_flat (i := 2) hw1 rfl) (fun q47 => ?_)
      obtain ⟨rfl, rfl⟩ := q47
      refine ow_st (C' := St w M0 [_, _]) rfl (fun w1 hw1 => St.mask [true, true] rfl hw1) ?_
      refine ow_ixH rfl rfl rfl rfl rfl sl50 ty84 rfl (holeIn (p := 1) rfl) hn53 ha52 (idx_some h46).1 ?_
      refine ow_storeH (off := 0) [.int .i64 y43.Truth_, .int .i64 y43.Said_] (p := 1) (c' := [_, _]) rfl rfl rfl rfl rfl (by first | rfl | simp only [add_lit, add_add, add_zero]) rfl ty84 rfl rfl (by intro u hu; simp only [List.mem_cons, List.not_mem_nil, or_false] at hu; rcases hu with rfl | rfl <;> rfl) rfl rfl rfl kp ?_
      refine ow_nil ?_
      refine x_qb ?_
      refine x_qs ?_
      refine c_reg ?_
      refine ow_batch [.p, .p, .p] rfl ?_
      refine ow_nil ?_
      refine xw_st (fun _ h => St.push0 h (Res.own (eTimpl_Pair) [] y43 [.int .i64 y43.Truth_, .int .i64 y43.Said_]) rfl ⟨rfl, rfl⟩) ?_
      refine xw_ex (fun w1 hw1 => unf (p := 1) (q := 2) hw1 rfl rfl rfl hn53 ha52) (fun F54 => ?_)
      refine xw_st (C' := St w M0 [_, _, _, _]) (fun _ h => h) ?_
      exact x_ql (RW.at (ihk1 ((l21.set i23.toNat y43)) (F54) (IntKind.i64.wrap (i23 + 1)) (H)) (fun _ h => St.sel [3] rfl rfl h) ⟨rfl, rfl, rfl, trivial⟩)
    · have H := of_if_f hb H
      refine c_exit ?_
      refine x_qs_exit ?_
      refine x_ql_exit ?_
      refine x_qb_here ?_
      refine x_qs ?_
      refine c_seq ?_
      refine c_reg ?_
      refine ow_batch [.p, .p] rfl ?_
      refine ow_nil ?_
      refine x_qs ?_
      refine c_ret ?_
      exact x_retR (rs := [.tmp 2]) (vs := [.slice (some ⟨b3, 0, none⟩) l1.length l1.length]) rfl ⟨rfl, trivial⟩ (fun w' hw' => by
          obtain rfl := of_some H
          exact ⟨_, rfl, (some ⟨b3, 0, none⟩), l1.length, l1.length, F22, rfl, hw'.sel [0] rfl rfl⟩)

set_option maxHeartbeats 4000000 in
set_option maxRecDepth 100000 in
theorem laws_toScore_ok (w : World) {M0 : List Nat} {p0 : Tlaws_Score} {cs0 : List Value} {r : Timpl_Score} (H : laws_toScore p0 = some r) (HS : St w M0 [] w) (g0 : (eTlaws_Score).rd w M0 p0 cs0) :
    Calls Try.prog 17 #[.agg cs0.toArray] w (fun en w' => ∃ v, en = .returned v ∧ ∃ (a0 : Option Addr), ∃ (n0 : Nat), ∃ (c0 : Nat), ∃ (F0 : List Nat), ∃ (a1 : Option Addr), ∃ (n1 : Nat), ∃ (c1 : Nat), ∃ (F1 : List Nat), v = .agg #[.slice a0 n0 c0, .slice a1 n1 c1] ∧ St w M0 [Res.own (eList (eList (eVal (Value.int .i64) (fun _ => rfl)) 3) 82) F0 r.Table_ [.slice a0 n0 c0], Res.own (eList (eTimpl_Pair) 84) F1 r.Last_ [.slice a1 n1 c1]] w') := by
  obtain ⟨c1, c2, rfl, g3, g4⟩ := rdo_Tlaws_Score g0
  obtain ⟨a5, c6, rfl⟩ := rd_sl1 g3
  obtain ⟨a7, c8, rfl⟩ := rd_sl1 g4
  unfold laws_toScore at H
  refine f_enter (vs := [.agg #[.slice a5 p0.Table_.length c6, .slice a7 p0.Last_.length c8]]) Try.func17 rfl Try.ntmps17 rfl (HS) ?_
  refine c_seq ?_
  refine c_reg ?_
  refine ow_box (cs := [.slice a5 p0.Table_.length c6, .slice a7 p0.Last_.length c8]) rfl rfl rfl rfl rfl rfl (fun _ => kp) (fun b9 => ?_)
  refine ow_alloc rfl rfl rfl rfl ty52 (fun _ => kp) (fun b10 => ?_)
  refine ow_nil ?_
  refine x_qs ?_
  refine c_seq ?_
  refine c_reg ?_
  refine ow_alloc rfl rfl rfl rfl ty52 (fun _ => kp) (fun b11 => ?_)
  refine ow_nil ?_
  refine x_qs ?_
  refine c_seq ?_
  refine c_reg ?_
  refine ow_batch [.fa 36 0 0 fa36_0] rfl ?_
  refine ow_r rfl (dstOk_lt rfl) (ry_box1 (off := 0) rfl rfl ty33 (boxIn (i := 0) rfl) rfl) ?_
  obtain ⟨y12, h13, H⟩ := of_bind H
  refine ow_callS rfl fn34 rfl rfl rfl rfl (fun w1 hw1 => laws_toIntSS_ok w1  h13 (hw1.carve [] rfl rfl) (rds_bor g3 w1 hw1)) (fun v14 w1 w2 hw1 hR16 => ?_)
  obtain ⟨a17, n18, c19, F20, rfl, hS15⟩ := hR16
  obtain rfl := own_nS (i := 0) hS15 rfl
  refine ⟨St w M0 [_, _, _, _], hw1.comp [] rfl rfl hS15, fun _ _ => trivial, ?_⟩
  refine ow_batch [.fa 52 0 0 fa52_0] rfl ?_
  refine ow_storeC (off := 0) [.slice a17 y12.length c19] [_, _] (i := 2) rfl rfl rfl rfl rfl rfl ty33 rfl rfl (by intro u hu; simp only [List.mem_cons, List.not_mem_nil, or_false] at hu; rcases hu with rfl <;> rfl) rfl rfl rfl kp ?_
  refine ow_nil ?_
  refine x_qs ?_
  refine c_seq ?_
  refine c_reg ?_
  refine ow_batch [.fa 36 1 1 fa36_1] rfl ?_
  refine ow_r rfl (dstOk_lt rfl) (ry_box1 (off := 1) rfl rfl ty34 (boxIn (i := 0) rfl) rfl) ?_
  obtain ⟨y21, h22, H⟩ := of_bind H
  refine ow_callS rfl fn35 rfl rfl rfl rfl (fun w1 hw1 => laws_toPairS_ok w1  h22 (hw1.carve [] rfl rfl) (rds_bor g4 w1 hw1)) (fun v23 w1 w2 hw1 hR25 => ?_)
  obtain ⟨a26, n27, c28, F29, rfl, hS24⟩ := hR25
  obtain rfl := own_nS (i := 0) hS24 rfl
  refine ⟨St w M0 [_, _, _, _, _], hw1.comp [] rfl rfl hS24, fun _ _ => trivial, ?_⟩
  refine ow_batch [.fa 52 1 1 fa52_1] rfl ?_
  refine ow_storeC (off := 1) [.slice a26 y21.length c28] [_, _] (i := 2) rfl rfl rfl rfl rfl rfl ty50 rfl rfl (by intro u hu; simp only [List.mem_cons, List.not_mem_nil, or_false] at hu; rcases hu with rfl <;> rfl) rfl rfl rfl kp ?_
  refine ow_nil ?_
  refine x_qs ?_
  refine c_seq ?_
  refine c_reg ?_
  refine ow_r rfl (dstOk_lt rfl) (ry_box (off := 0) (ds := [.slice a17 y12.length c19, .slice a26 y21.length c28]) rfl rfl ty52 (boxIn (i := 2) rfl) rfl rfl) ?_
  refine ow_storeC (off := 0) [.slice a17 y12.length c19, .slice a26 y21.length c28] [_, _] (i := 1) rfl rfl rfl rfl rfl rfl ty52 rfl rfl (by intro u hu; simp only [List.mem_cons, List.not_mem_nil, or_false] at hu; rcases hu with rfl | rfl <;> rfl) rfl rfl rfl kp ?_
  refine ow_nil ?_
  refine x_qs ?_
  refine c_ret ?_
  exact x_retR (rs := [.cell 2 52]) (vs := [.agg #[.slice a17 y12.length c19, .slice a26 y21.length c28]]) rfl ⟨⟨_, [.slice a17 y12.length c19, .slice a26 y21.length c28], _, _, _, rfl, ty52, (at_box (T := 52) 0 (boxIn (i := 1) rfl) rfl), rfl, rfl⟩, trivial⟩ (fun w' hw' => by
      obtain rfl := of_some H
      exact ⟨_, rfl, a17, y12.length, c19, F20, a26, y21.length, c28, F29, rfl, hw'.sel [3, 4] rfl rfl⟩)

set_option maxHeartbeats 4000000 in
set_option maxRecDepth 100000 in
theorem laws_toState_ok (w : World) {M0 : List Nat} {p0 : Tlaws_State} {cs0 : List Value} {r : Timpl_State} (H : laws_toState p0 = some r) (HS : St w M0 [] w) (g0 : (eTlaws_State).rd w M0 p0 cs0) :
    Calls Try.prog 6 #[.agg cs0.toArray] w (fun en w' => ∃ v, en = .returned v ∧ ∃ (a0 : Option Addr), ∃ (n0 : Nat), ∃ (c0 : Nat), ∃ (F0 : List Nat), ∃ (a1 : Option Addr), ∃ (n1 : Nat), ∃ (c1 : Nat), ∃ (F1 : List Nat), ∃ (a2 : Option Addr), ∃ (n2 : Nat), ∃ (c2 : Nat), ∃ (F2 : List Nat), ∃ (a3 : Option Addr), ∃ (n3 : Nat), ∃ (c3 : Nat), ∃ (F3 : List Nat), ∃ (a4 : Option Addr), ∃ (n4 : Nat), ∃ (c4 : Nat), ∃ (F4 : List Nat), v = .agg #[.slice a0 n0 c0, .slice a1 n1 c1, .int .i64 r.Conf_.Rule_.Sure_, .int .i64 r.Conf_.Rule_.Tie_, .int .i64 r.Conf_.Rule_.Grace_, .int .i64 r.Conf_.Rule_.Depth_, .int .i64 r.Conf_.Rule_.Nodes_, .int .i64 r.Conf_.Rule_.Units_, .bool r.Conf_.Rule_.Two_, .int .i64 r.Conf_.Members_, .int .i64 r.Conf_.Pick_, .int .i64 r.Conf_.Lambda_, .int .i64 r.Conf_.Warn_, .int .i64 r.Conf_.Drift_, .slice a2 n2 c2, .slice a3 n3 c3, .slice a4 n4 c4] ∧ St w M0 [Res.own (eList (eTimpl_Attr) 109) F0 r.Conf_.Schema_.Attrs_ [.slice a0 n0 c0], Res.own (eList (eStr) 9) F1 r.Conf_.Schema_.Classes_ [.slice a1 n1 c1], Res.own (eList (eTimpl_Member) 80) F2 r.Forest_.Members_ [.slice a2 n2 c2], Res.own (eList (eList (eVal (Value.int .i64) (fun _ => rfl)) 3) 82) F3 r.Score_.Table_ [.slice a3 n3 c3], Res.own (eList (eTimpl_Pair) 84) F4 r.Score_.Last_ [.slice a4 n4 c4]] w') := by
  obtain ⟨c1, c2, c3, rfl, g4, g5, g6⟩ := rdo_Tlaws_State g0
  obtain ⟨c7, c8, c9, c10, c11, c12, c13, rfl, g14, g15, g16, g17, g18, g19, g20⟩ := rdo_Tlaws_Conf g4
  obtain ⟨c21, c22, rfl, g23, g24⟩ := rdo_Tlaws_Schema g14
  obtain ⟨a25, c26, rfl⟩ := rd_sl1 g23
  obtain ⟨a27, c28, rfl⟩ := rd_sl1 g24
  obtain rfl : c8 = [.int .i64 p0.Conf_.Rule_.Sure_, .int .i64 p0.Conf_.Rule_.Tie_, .int .i64 p0.Conf_.Rule_.Grace_, .int .i64 p0.Conf_.Rule_.Depth_, .int .i64 p0.Conf_.Rule_.Nodes_, .int .i64 p0.Conf_.Rule_.Units_, .bool p0.Conf_.Rule_.Two_] := g15
  obtain rfl : c9 = [.int .i64 p0.Conf_.Members_] := g16
  obtain rfl : c10 = [.int .i64 p0.Conf_.Pick_] := g17
  obtain rfl : c11 = [.int .i64 p0.Conf_.Lambda_] := g18
  obtain rfl : c12 = [.int .i64 p0.Conf_.Warn_] := g19
  obtain rfl : c13 = [.int .i64 p0.Conf_.Drift_] := g20
  obtain ⟨c29, rfl, g30⟩ := rdo_Tlaws_Forest g5
  obtain ⟨a31, c32, rfl⟩ := rd_sl1 g30
  obtain ⟨c33, c34, rfl, g35, g36⟩ := rdo_Tlaws_Score g6
  obtain ⟨a37, c38, rfl⟩ := rd_sl1 g35
  obtain ⟨a39, c40, rfl⟩ := rd_sl1 g36
  unfold laws_toState at H
  refine f_enter (vs := [.agg #[.slice a25 p0.Conf_.Schema_.Attrs_.length c26, .slice a27 p0.Conf_.Schema_.Classes_.length c28, .int .i64 p0.Conf_.Rule_.Sure_, .int .i64 p0.Conf_.Rule_.Tie_, .int .i64 p0.Conf_.Rule_.Grace_, .int .i64 p0.Conf_.Rule_.Depth_, .int .i64 p0.Conf_.Rule_.Nodes_, .int .i64 p0.Conf_.Rule_.Units_, .bool p0.Conf_.Rule_.Two_, .int .i64 p0.Conf_.Members_, .int .i64 p0.Conf_.Pick_, .int .i64 p0.Conf_.Lambda_, .int .i64 p0.Conf_.Warn_, .int .i64 p0.Conf_.Drift_, .slice a31 p0.Forest_.Members_.length c32, .slice a37 p0.Score_.Table_.length c38, .slice a39 p0.Score_.Last_.length c40]]) Try.func6 rfl Try.ntmps6 rfl (HS) ?_
  refine c_seq ?_
  refine c_reg ?_
  refine ow_box (cs := [.slice a25 p0.Conf_.Schema_.Attrs_.length c26, .slice a27 p0.Conf_.Schema_.Classes_.length c28, .int .i64 p0.Conf_.Rule_.Sure_, .int .i64 p0.Conf_.Rule_.Tie_, .int .i64 p0.Conf_.Rule_.Grace_, .int .i64 p0.Conf_.Rule_.Depth_, .int .i64 p0.Conf_.Rule_.Nodes_, .int .i64 p0.Conf_.Rule_.Units_, .bool p0.Conf_.Rule_.Two_, .int .i64 p0.Conf_.Members_, .int .i64 p0.Conf_.Pick_, .int .i64 p0.Conf_.Lambda_, .int .i64 p0.Conf_.Warn_, .int .i64 p0.Conf_.Drift_, .slice a31 p0.Forest_.Members_.length c32, .slice a37 p0.Score_.Table_.length c38, .slice a39 p0.Score_.Last_.length c40]) rfl rfl rfl rfl rfl rfl (fun _ => kp) (fun b41 => ?_)
  refine ow_alloc rfl rfl rfl rfl ty54 (fun _ => kp) (fun b42 => ?_)
  refine ow_nil ?_
  refine x_qs ?_
  refine c_seq ?_
  refine c_reg ?_
  refine ow_alloc rfl rfl rfl rfl ty54 (fun _ => kp) (fun b43 => ?_)
  refine ow_nil ?_
  refine x_qs ?_
  refine c_seq ?_
  refine c_reg ?_
  refine ow_batch [.fa 38 0 0 fa38_0] rfl ?_
  refine ow_r rfl (dstOk_lt rfl) (ry_box (off := 0) (ds := [.slice a25 p0.Conf_.Schema_.Attrs_.length c26, .slice a27 p0.Conf_.Schema_.Classes_.length c28, .int .i64 p0.Conf_.Rule_.Sure_, .int .i64 p0.Conf_.Rule_.Tie_, .int .i64 p0.Conf_.Rule_.Grace_, .int .i64 p0.Conf_.Rule_.Depth_, .int .i64 p0.Conf_.Rule_.Nodes_, .int .i64 p0.Conf_.Rule_.Units_, .bool p0.Conf_.Rule_.Two_, .int .i64 p0.Conf_.Members_, .int .i64 p0.Conf_.Pick_, .int .i64 p0.Conf_.Lambda_, .int .i64 p0.Conf_.Warn_, .int .i64 p0.Conf_.Drift_]) rfl rfl ty29 (boxIn (i := 0) rfl) rfl rfl) ?_
  obtain ⟨y44, h45, H⟩ := of_bind H
  refine ow_callS rfl fn15 rfl rfl rfl rfl (fun w1 hw1 => laws_toConf_ok w1 (cs0 := [.slice a25 p0.Conf_.Schema_.Attrs_.length c26, .slice a27 p0.Conf_.Schema_.Classes_.length c28, .int .i64 p0.Conf_.Rule_.Sure_, .int .i64 p0.Conf_.Rule_.Tie_, .int .i64 p0.Conf_.Rule_.Grace_, .int .i64 p0.Conf_.Rule_.Depth_, .int .i64 p0.Conf_.Rule_.Nodes_, .int .i64 p0.Conf_.Rule_.Units_, .bool p0.Conf_.Rule_.Two_, .int .i64 p0.Conf_.Members_, .int .i64 p0.Conf_.Pick_, .int .i64 p0.Conf_.Lambda_, .int .i64 p0.Conf_.Warn_, .int .i64 p0.Conf_.Drift_]) h45 (hw1.carve [] rfl rfl) (rdm_Tlaws_Conf (x := p0.Conf_) (c0 := [.slice a25 p0.Conf_.Schema_.Attrs_.length c26, .slice a27 p0.Conf_.Schema_.Classes_.length c28]) (c1 := [.int .i64 p0.Conf_.Rule_.Sure_, .int .i64 p0.Conf_.Rule_.Tie_, .int .i64 p0.Conf_.Rule_.Grace_, .int .i64 p0.Conf_.Rule_.Depth_, .int .i64 p0.Conf_.Rule_.Nodes_, .int .i64 p0.Conf_.Rule_.Units_, .bool p0.Conf_.Rule_.Two_]) (c2 := [.int .i64 p0.Conf_.Members_]) (c3 := [.int .i64 p0.Conf_.Pick_]) (c4 := [.int .i64 p0.Conf_.Lambda_]) (c5 := [.int .i64 p0.Conf_.Warn_]) (c6 := [.int .i64 p0.Conf_.Drift_]) (rdm_Tlaws_Schema (x := p0.Conf_.Schema_) (c0 := [.slice a25 p0.Conf_.Schema_.Attrs_.length c26]) (c1 := [.slice a27 p0.Conf_.Schema_.Classes_.length c28]) (rds_bor g23 w1 hw1) (rds_bor g24 w1 hw1)) rfl rfl rfl rfl rfl rfl)) (fun v46 w1 w2 hw1 hR48 => ?_)
  obtain ⟨a49, n50, c51, F52, a53, n54, c55, F56, rfl, hS47⟩ := hR48
  obtain rfl := own_nS (i := 0) hS47 rfl
  obtain rfl := own_nS (i := 1) hS47 rfl
  refine ⟨St w M0 [_, _, _, _, _], hw1.comp [] rfl rfl hS47, fun _ _ => trivial, ?_⟩
  refine ow_batch [.fa 54 0 0 fa54_0] rfl ?_
  refine ow_storeC (off := 0) [.slice a49 y44.Schema_.Attrs_.length c51, .slice a53 y44.Schema_.Classes_.length c55, .int .i64 y44.Rule_.Sure_, .int .i64 y44.Rule_.Tie_, .int .i64 y44.Rule_.Grace_, .int .i64 y44.Rule_.Depth_, .int .i64 y44.Rule_.Nodes_, .int .i64 y44.Rule_.Units_, .bool y44.Rule_.Two_, .int .i64 y44.Members_, .int .i64 y44.Pick_, .int .i64 y44.Lambda_, .int .i64 y44.Warn_, .int .i64 y44.Drift_] [_, _, _, _, _, _, _, _, _, _, _, _, _, _, _, _, _] (i := 2) rfl rfl rfl rfl rfl rfl ty46 rfl rfl (by intro u hu; simp only [List.mem_cons, List.not_mem_nil, or_false] at hu; rcases hu with rfl | rfl | rfl | rfl | rfl | rfl | rfl | rfl | rfl | rfl | rfl | rfl | rfl | rfl <;> rfl) rfl rfl rfl kp ?_
  refine ow_nil ?_
  refine x_qs ?_
  refine c_seq ?_
  refine c_reg ?_
  refine ow_batch [.fa 38 1 14 fa38_1] rfl ?_
  refine ow_r rfl (dstOk_lt rfl) (ry_box (off := 14) (ds := [.slice a31 p0.Forest_.Members_.length c32]) rfl rfl ty32 (boxIn (i := 0) rfl) rfl rfl) ?_
  obtain ⟨y57, h58, H⟩ := of_bind H
  refine ow_callS rfl fn16 rfl rfl rfl rfl (fun w1 hw1 => laws_toForest_ok w1 (cs0 := [.slice a31 p0.Forest_.Members_.length c32]) h58 (hw1.carve [] rfl rfl) (rdm_Tlaws_Forest (x := p0.Forest_) (c0 := [.slice a31 p0.Forest_.Members_.length c32]) (rds_bor g30 w1 hw1))) (fun v59 w1 w2 hw1 hR61 => ?_)
  obtain ⟨a62, n63, c64, F65, rfl, hS60⟩ := hR61
  obtain rfl := own_nS (i := 0) hS60 rfl
  refine ⟨St w M0 [_, _, _, _, _, _], hw1.comp [] rfl rfl hS60, fun _ _ => trivial, ?_⟩
  refine ow_batch [.fa 54 1 14 fa54_1] rfl ?_
  refine ow_storeC (off := 14) [.slice a62 y57.Members_.length c64] [_, _, _, _, _, _, _, _, _, _, _, _, _, _, _, _, _] (i := 2) rfl rfl rfl rfl rfl rfl ty49 rfl rfl (by intro u hu; simp only [List.mem_cons, List.not_mem_nil, or_false] at hu; rcases hu with rfl <;> rfl) rfl rfl rfl kp ?_
  refine ow_nil ?_
  refine x_qs ?_
  refine c_seq ?_
  refine c_reg ?_
  refine ow_batch [.fa 38 2 15 fa38_2] rfl ?_
  refine ow_r rfl (dstOk_lt rfl) (ry_box (off := 15) (ds := [.slice a37 p0.Score_.Table_.length c38, .slice a39 p0.Score_.Last_.length c40]) rfl rfl ty36 (boxIn (i := 0) rfl) rfl rfl) ?_
  obtain ⟨y66, h67, H⟩ := of_bind H
  refine ow_callS rfl fn17 rfl rfl rfl rfl (fun w1 hw1 => laws_toScore_ok w1 (cs0 := [.slice a37 p0.Score_.Table_.length c38, .slice a39 p0.Score_.Last_.length c40]) h67 (hw1.carve [] rfl rfl) (rdm_Tlaws_Score (x := p0.Score_) (c0 := [.slice a37 p0.Score_.Table_.length c38]) (c1 := [.slice a39 p0.Score_.Last_.length c40]) (rds_bor g35 w1 hw1) (rds_bor g36 w1 hw1))) (fun v68 w1 w2 hw1 hR70 => ?_)
  obtain ⟨a71, n72, c73, F74, a75, n76, c77, F78, rfl, hS69⟩ := hR70
  obtain rfl := own_nS (i := 0) hS69 rfl
  obtain rfl := own_nS (i := 1) hS69 rfl
  refine ⟨St w M0 [_, _, _, _, _, _, _, _], hw1.comp [] rfl rfl hS69, fun _ _ => trivial, ?_⟩
  refine ow_batch [.fa 54 2 15 fa54_2] rfl ?_
  refine ow_storeC (off := 15) [.slice a71 y66.Table_.length c73, .slice a75 y66.Last_.length c77] [_, _, _, _, _, _, _, _, _, _, _, _, _, _, _, _, _] (i := 2) rfl rfl rfl rfl rfl rfl ty52 rfl rfl (by intro u hu; simp only [List.mem_cons, List.not_mem_nil, or_false] at hu; rcases hu with rfl | rfl <;> rfl) rfl rfl rfl kp ?_
  refine ow_nil ?_
  refine x_qs ?_
  refine c_seq ?_
  refine c_reg ?_
  refine ow_r rfl (dstOk_lt rfl) (ry_box (off := 0) (ds := [.slice a49 y44.Schema_.Attrs_.length c51, .slice a53 y44.Schema_.Classes_.length c55, .int .i64 y44.Rule_.Sure_, .int .i64 y44.Rule_.Tie_, .int .i64 y44.Rule_.Grace_, .int .i64 y44.Rule_.Depth_, .int .i64 y44.Rule_.Nodes_, .int .i64 y44.Rule_.Units_, .bool y44.Rule_.Two_, .int .i64 y44.Members_, .int .i64 y44.Pick_, .int .i64 y44.Lambda_, .int .i64 y44.Warn_, .int .i64 y44.Drift_, .slice a62 y57.Members_.length c64, .slice a71 y66.Table_.length c73, .slice a75 y66.Last_.length c77]) rfl rfl ty54 (boxIn (i := 2) rfl) rfl rfl) ?_
  refine ow_storeC (off := 0) [.slice a49 y44.Schema_.Attrs_.length c51, .slice a53 y44.Schema_.Classes_.length c55, .int .i64 y44.Rule_.Sure_, .int .i64 y44.Rule_.Tie_, .int .i64 y44.Rule_.Grace_, .int .i64 y44.Rule_.Depth_, .int .i64 y44.Rule_.Nodes_, .int .i64 y44.Rule_.Units_, .bool y44.Rule_.Two_, .int .i64 y44.Members_, .int .i64 y44.Pick_, .int .i64 y44.Lambda_, .int .i64 y44.Warn_, .int .i64 y44.Drift_, .slice a62 y57.Members_.length c64, .slice a71 y66.Table_.length c73, .slice a75 y66.Last_.length c77] [_, _, _, _, _, _, _, _, _, _, _, _, _, _, _, _, _] (i := 1) rfl rfl rfl rfl rfl rfl ty54 rfl rfl (by intro u hu; simp only [List.mem_cons, List.not_mem_nil, or_false] at hu; rcases hu with rfl | rfl | rfl | rfl | rfl | rfl | rfl | rfl | rfl | rfl | rfl | rfl | rfl | rfl | rfl | rfl | rfl <;> rfl) rfl rfl rfl kp ?_
  refine ow_nil ?_
  refine x_qs ?_
  refine c_ret ?_
  exact x_retR (rs := [.cell 2 54]) (vs := [.agg #[.slice a49 y44.Schema_.Attrs_.length c51, .slice a53 y44.Schema_.Classes_.length c55, .int .i64 y44.Rule_.Sure_, .int .i64 y44.Rule_.Tie_, .int .i64 y44.Rule_.Grace_, .int .i64 y44.Rule_.Depth_, .int .i64 y44.Rule_.Nodes_, .int .i64 y44.Rule_.Units_, .bool y44.Rule_.Two_, .int .i64 y44.Members_, .int .i64 y44.Pick_, .int .i64 y44.Lambda_, .int .i64 y44.Warn_, .int .i64 y44.Drift_, .slice a62 y57.Members_.length c64, .slice a71 y66.Table_.length c73, .slice a75 y66.Last_.length c77]]) rfl ⟨⟨_, [.slice a49 y44.Schema_.Attrs_.length c51, .slice a53 y44.Schema_.Classes_.length c55, .int .i64 y44.Rule_.Sure_, .int .i64 y44.Rule_.Tie_, .int .i64 y44.Rule_.Grace_, .int .i64 y44.Rule_.Depth_, .int .i64 y44.Rule_.Nodes_, .int .i64 y44.Rule_.Units_, .bool y44.Rule_.Two_, .int .i64 y44.Members_, .int .i64 y44.Pick_, .int .i64 y44.Lambda_, .int .i64 y44.Warn_, .int .i64 y44.Drift_, .slice a62 y57.Members_.length c64, .slice a71 y66.Table_.length c73, .slice a75 y66.Last_.length c77], _, _, _, rfl, ty54, (at_box (T := 54) 0 (boxIn (i := 1) rfl) rfl), rfl, rfl⟩, trivial⟩ (fun w' hw' => by
      obtain rfl := of_some H
      exact ⟨_, rfl, a49, y44.Schema_.Attrs_.length, c51, F52, a53, y44.Schema_.Classes_.length, c55, F56, a62, y57.Members_.length, c64, F65, a71, y66.Table_.length, c73, F74, a75, y66.Last_.length, c77, F78, rfl, hw'.sel [3, 4, 5, 6, 7] rfl rfl⟩)

set_option maxHeartbeats 4000000 in
set_option maxRecDepth 100000 in
theorem spec_l5SameTexts_ok (w : World) {p0 : List (List UInt8)} {p1 : List (List UInt8)} {a_0 : Option Addr} {n_0 c_0 : Nat} {a_1 : Option Addr} {n_1 c_1 : Nat} {r : Bool} (H : spec_l5SameTexts p0 p1 = some r)  (g0 : (eList (eStr) 9).rd w [] p0 [.slice a_0 n_0 c_0]) (g1 : (eList (eStr) 9).rd w [] p1 [.slice a_1 n_1 c_1]) :
    Calls Try.prog 50 #[.slice a_0 n_0 c_0, .slice a_1 n_1 c_1] w (fun en w' => en = .returned (.bool r) ∧ Ext [] w w') := by
  obtain rfl := rd_n g0
  obtain rfl := rd_n g1
  unfold spec_l5SameTexts at H
  refine f_enter (vs := [.slice a_0 p0.length c_0, .slice a_1 p1.length c_1]) Try.func50 rfl Try.ntmps50 rfl (St.init w []) ?_
  refine c_seq ?_
  refine c_reg ?_
  refine ow_batch [.p] rfl ?_
  refine ow_nil ?_
  refine x_qs ?_
  refine c_seq ?_
  refine c_seq ?_
  refine c_reg ?_
  refine ow_batch [.p, .lenS 23 9 sl23, .p, .lenS 23 9 sl23, .p] rfl ?_
  refine ow_nil ?_
  refine x_qs ?_
  refine c_if rfl (fun hb => ?_) (fun hb => ?_)
  · have H := of_if_t hb H
    refine c_seq ?_
    refine c_reg ?_
    refine ow_batch [.p] rfl ?_
    refine ow_nil ?_
    refine x_qs ?_
    refine c_ret ?_
    refine x_qs_ret ?_
    exact x_retR (rs := [.tmp 4]) (vs := [.bool false]) rfl ⟨rfl, trivial⟩ (fun w' hw' => by
        obtain rfl := of_some H
        exact ⟨rfl, hw'.ext⟩)
  · have H := of_if_f hb H
    refine c_skip ?_
    refine x_qs ?_
    refine c_seq ?_
    refine c_seq ?_
    refine c_reg ?_
    refine ow_batch [.p] rfl ?_
    refine ow_nil ?_
    refine x_qs ?_
    refine c_block ?_
    refine CW.at (loopI1 (fun (i6 : Int) => St w [] []) (fun (i6 : Int) => [(0, .slice a_0 p0.length c_0), (1, .slice a_1 p1.length c_1), (5, .int .i64 i6)]) (fun kk => fun (i6 : Int) => spec_l5SameTexts_L1 p0 p1 kk i6 = some r) (fun _ H => ?_) (fun k1 ihk1 i6 H => ?_) Fuel (0) (H)) (fun _ h => St.sel [] rfl rfl h) ⟨rfl, rfl, rfl,  trivial⟩
    · unfold spec_l5SameTexts_L1 at H
      exact absurd H (by simp)
    · unfold spec_l5SameTexts_L1 at H
      refine c_seq ?_
      refine c_seq ?_
      refine c_reg ?_
      refine ow_batch [.p, .p, .lenS 23 9 sl23, .p] rfl ?_
      refine ow_nil ?_
      refine x_qs ?_
      refine c_if rfl (fun hb => ?_) (fun hb => ?_)
      · have H := of_if_t hb H
        refine c_skip ?_
        refine x_qs ?_
        refine c_seq ?_
        refine c_block ?_
        refine c_seq ?_
        refine c_regQ mixed (by kernel_rfl) ?_
        refine ow_batch [.p, .p] rfl ?_
        obtain ⟨e12, h13, H⟩ := of_bind H
        refine ow_ixE (e := eStr) (xs := p0) (j := i6) rfl rfl rfl rfl rfl sl23 ty9 rfl (fun w1 hw1 => rds_bor g0 w1 hw1) h13 (by rw [Nat.mul_one]) ?_
        refine ow_r rfl (dstOk_lt rfl) (ry_load1 rfl rfl ty9 (at_elV (fun w1 hw1 => rds_bor g0 w1 hw1) h13)) ?_
        refine ow_batch [.p, .p] rfl ?_
        obtain ⟨e14, h15, H⟩ := of_bind H
        refine ow_ixE (e := eStr) (xs := p1) (j := i6) rfl rfl rfl rfl rfl sl23 ty9 rfl (fun w1 hw1 => rds_bor g1 w1 hw1) h15 (by rw [Nat.mul_one]) ?_
        refine ow_r rfl (dstOk_lt rfl) (ry_load1 rfl rfl ty9 (at_elV (fun w1 hw1 => rds_bor g1 w1 hw1) h15)) ?_
        refine ow_batch [.p] rfl ?_
        refine ow_nilQ ?_
        refine x_qs ?_
        refine c_if rfl (fun hb => ?_) (fun hb => ?_)
        · have H := of_if_t hb H
          refine c_seq ?_
          refine c_reg ?_
          refine ow_batch [.p] rfl ?_
          refine ow_nil ?_
          refine x_qs ?_
          refine c_ret ?_
          refine x_qb_ret ?_
          refine x_qs_ret ?_
          refine x_ql_ret ?_
          refine x_qb_ret ?_
          refine x_qs_ret ?_
          exact x_retR (rs := [.tmp 4]) (vs := [.bool false]) rfl ⟨rfl, trivial⟩ (fun w' hw' => by
              obtain rfl := of_some H
              exact ⟨rfl, hw'.ext⟩)
        · have H := of_if_f hb H
          refine c_skip ?_
          refine x_qb ?_
          refine x_qs ?_
          refine c_reg ?_
          refine ow_batch [.p, .p, .p] rfl ?_
          refine ow_nil ?_
          exact x_ql (RW.at (ihk1 (IntKind.i64.wrap (i6 + 1)) (H)) (fun _ h => St.sel [] rfl rfl h) ⟨rfl, rfl, rfl, trivial⟩)
      · have H := of_if_f hb H
        refine c_exit ?_
        refine x_qs_exit ?_
        refine x_ql_exit ?_
        refine x_qb_here ?_
        refine x_qs ?_
        refine c_seq ?_
        refine c_reg ?_
        refine ow_batch [.p] rfl ?_
        refine ow_nil ?_
        refine x_qs ?_
        refine c_ret ?_
        exact x_retR (rs := [.tmp 4]) (vs := [.bool true]) rfl ⟨rfl, trivial⟩ (fun w' hw' => by
            obtain rfl := of_some H
            exact ⟨rfl, hw'.ext⟩)

set_option maxHeartbeats 4000000 in
set_option maxRecDepth 100000 in
theorem spec_l5SameInts_ok (w : World) {p0 : List Int} {p1 : List Int} {a_0 : Option Addr} {n_0 c_0 : Nat} {a_1 : Option Addr} {n_1 c_1 : Nat} {r : Bool} (H : spec_l5SameInts p0 p1 = some r)  (g0 : (eList (eVal (Value.int .i64) (fun _ => rfl)) 3).rd w [] p0 [.slice a_0 n_0 c_0]) (g1 : (eList (eVal (Value.int .i64) (fun _ => rfl)) 3).rd w [] p1 [.slice a_1 n_1 c_1]) :
    Calls Try.prog 30 #[.slice a_0 n_0 c_0, .slice a_1 n_1 c_1] w (fun en w' => en = .returned (.bool r) ∧ Ext [] w w') := by
  obtain rfl := rd_n g0
  obtain rfl := rd_n g1
  unfold spec_l5SameInts at H
  refine f_enter (vs := [.slice a_0 p0.length c_0, .slice a_1 p1.length c_1]) Try.func30 rfl Try.ntmps30 rfl (St.init w []) ?_
  refine c_seq ?_
  refine c_reg ?_
  refine ow_batch [.p] rfl ?_
  refine ow_nil ?_
  refine x_qs ?_
  refine c_seq ?_
  refine c_seq ?_
  refine c_reg ?_
  refine ow_batch [.p, .lenS 82 3 sl82, .p, .lenS 82 3 sl82, .p] rfl ?_
  refine ow_nil ?_
  refine x_qs ?_
  refine c_if rfl (fun hb => ?_) (fun hb => ?_)
  · have H := of_if_t hb H
    refine c_seq ?_
    refine c_reg ?_
    refine ow_batch [.p] rfl ?_
    refine ow_nil ?_
    refine x_qs ?_
    refine c_ret ?_
    refine x_qs_ret ?_
    exact x_retR (rs := [.tmp 4]) (vs := [.bool false]) rfl ⟨rfl, trivial⟩ (fun w' hw' => by
        obtain rfl := of_some H
        exact ⟨rfl, hw'.ext⟩)
  · have H := of_if_f hb H
    refine c_skip ?_
    refine x_qs ?_
    refine c_seq ?_
    refine c_seq ?_
    refine c_reg ?_
    refine ow_batch [.p] rfl ?_
    refine ow_nil ?_
    refine x_qs ?_
    refine c_block ?_
    refine CW.at (loopI1 (fun (i6 : Int) => St w [] []) (fun (i6 : Int) => [(0, .slice a_0 p0.length c_0), (1, .slice a_1 p1.length c_1), (5, .int .i64 i6)]) (fun kk => fun (i6 : Int) => spec_l5SameInts_L1 p0 p1 kk i6 = some r) (fun _ H => ?_) (fun k1 ihk1 i6 H => ?_) Fuel (0) (H)) (fun _ h => St.sel [] rfl rfl h) ⟨rfl, rfl, rfl,  trivial⟩
    · unfold spec_l5SameInts_L1 at H
      exact absurd H (by simp)
    · unfold spec_l5SameInts_L1 at H
      refine c_seq ?_
      refine c_seq ?_
      refine c_reg ?_
      refine ow_batch [.p, .p, .lenS 82 3 sl82, .p] rfl ?_
      refine ow_nil ?_
      refine x_qs ?_
      refine c_if rfl (fun hb => ?_) (fun hb => ?_)
      · have H := of_if_t hb H
        refine c_skip ?_
        refine x_qs ?_
        refine c_seq ?_
        refine c_block ?_
        refine c_seq ?_
        refine c_regQ mixed (by kernel_rfl) ?_
        refine ow_batch [.p, .p] rfl ?_
        obtain ⟨e12, h13, H⟩ := of_bind H
        refine ow_ixE (e := eVal (Value.int .i64) (fun _ => rfl)) (xs := p0) (j := i6) rfl rfl rfl rfl rfl sl82 ty3 rfl (fun w1 hw1 => rds_bor g0 w1 hw1) h13 (by rw [Nat.mul_one]) ?_
        refine ow_r rfl (dstOk_lt rfl) (ry_load1 rfl rfl ty3 (at_elV (fun w1 hw1 => rds_bor g0 w1 hw1) h13)) ?_
        refine ow_batch [.p, .p] rfl ?_
        obtain ⟨e14, h15, H⟩ := of_bind H
        refine ow_ixE (e := eVal (Value.int .i64) (fun _ => rfl)) (xs := p1) (j := i6) rfl rfl rfl rfl rfl sl82 ty3 rfl (fun w1 hw1 => rds_bor g1 w1 hw1) h15 (by rw [Nat.mul_one]) ?_
        refine ow_r rfl (dstOk_lt rfl) (ry_load1 rfl rfl ty3 (at_elV (fun w1 hw1 => rds_bor g1 w1 hw1) h15)) ?_
        refine ow_batch [.p] rfl ?_
        refine ow_nilQ ?_
        refine x_qs ?_
        refine c_if rfl (fun hb => ?_) (fun hb => ?_)
        · have H := of_if_t hb H
          refine c_seq ?_
          refine c_reg ?_
          refine ow_batch [.p] rfl ?_
          refine ow_nil ?_
          refine x_qs ?_
          refine c_ret ?_
          refine x_qb_ret ?_
          refine x_qs_ret ?_
          refine x_ql_ret ?_
          refine x_qb_ret ?_
          refine x_qs_ret ?_
          exact x_retR (rs := [.tmp 4]) (vs := [.bool false]) rfl ⟨rfl, trivial⟩ (fun w' hw' => by
              obtain rfl := of_some H
              exact ⟨rfl, hw'.ext⟩)
        · have H := of_if_f hb H
          refine c_skip ?_
          refine x_qb ?_
          refine x_qs ?_
          refine c_reg ?_
          refine ow_batch [.p, .p, .p] rfl ?_
          refine ow_nil ?_
          exact x_ql (RW.at (ihk1 (IntKind.i64.wrap (i6 + 1)) (H)) (fun _ h => St.sel [] rfl rfl h) ⟨rfl, rfl, rfl, trivial⟩)
      · have H := of_if_f hb H
        refine c_exit ?_
        refine x_qs_exit ?_
        refine x_ql_exit ?_
        refine x_qb_here ?_
        refine x_qs ?_
        refine c_seq ?_
        refine c_reg ?_
        refine ow_batch [.p] rfl ?_
        refine ow_nil ?_
        refine x_qs ?_
        refine c_ret ?_
        exact x_retR (rs := [.tmp 4]) (vs := [.bool true]) rfl ⟨rfl, trivial⟩ (fun w' hw' => by
            obtain rfl := of_some H
            exact ⟨rfl, hw'.ext⟩)

set_option maxHeartbeats 4000000 in
set_option maxRecDepth 100000 in
theorem spec_SchemaSame_ok (w : World) {p0 : Timpl_Schema} {p1 : Timpl_Schema} {cs0 : List Value} {cs1 : List Value} {r : Bool} (H : spec_SchemaSame p0 p1 = some r)  (g0 : (eTimpl_Schema).rd w [] p0 cs0) (g1 : (eTimpl_Schema).rd w [] p1 cs1) :
    Calls Try.prog 28 #[.agg cs0.toArray, .agg cs1.toArray] w (fun en w' => en = .returned (.bool r) ∧ Ext [] w w') := by
  obtain ⟨c1, c2, rfl, g3, g4⟩ := rdo_Timpl_Schema g0
  obtain ⟨a5, c6, rfl⟩ := rd_sl1 g3
  obtain ⟨a7, c8, rfl⟩ := rd_sl1 g4
  obtain ⟨c9, c10, rfl, g11, g12⟩ := rdo_Timpl_Schema g1
  obtain ⟨a13, c14, rfl⟩ := rd_sl1 g11
  obtain ⟨a15, c16, rfl⟩ := rd_sl1 g12
  unfold spec_SchemaSame at H
  refine f_enter (vs := [.agg #[.slice a5 p0.Attrs_.length c6, .slice a7 p0.Classes_.length c8], .agg #[.slice a13 p1.Attrs_.length c14, .slice a15 p1.Classes_.length c16]]) Try.func28 rfl Try.ntmps28 rfl (St.init w []) ?_
  refine c_seq ?_
  refine c_reg ?_
  refine ow_box (cs := [.slice a5 p0.Attrs_.length c6, .slice a7 p0.Classes_.length c8]) rfl rfl rfl rfl rfl rfl (fun _ => kp) (fun b17 => ?_)
  refine ow_box (cs := [.slice a13 p1.Attrs_.length c14, .slice a15 p1.Classes_.length c16]) rfl rfl rfl rfl rfl rfl (fun _ => kp) (fun b18 => ?_)
  refine ow_batch [.p] rfl ?_
  refine ow_nil ?_
  refine x_qs ?_
  refine c_seq ?_
  refine c_seq ?_
  refine c_reg ?_
  refine ow_batch [.fa 43 0 0 fa43_0] rfl ?_
  refine ow_r rfl (dstOk_lt rfl) (ry_box1 (off := 0) rfl rfl ty41 (boxIn (i := 0) rfl) rfl) ?_
  refine ow_batch [.lenS 41 109 sl41, .fa 43 0 0 fa43_0] rfl ?_
  refine ow_r rfl (dstOk_lt rfl) (ry_box1 (off := 0) rfl rfl ty41 (boxIn (i := 1) rfl) rfl) ?_
  refine ow_batch [.lenS 41 109 sl41, .p, .p] rfl ?_
  obtain ⟨u19, hu23, H⟩ := of_bind H
  refine ow_cut [(20, .bool u19), (2, .pointer (some ⟨b17, 0, none⟩)), (3, .pointer (some ⟨b18, 0, none⟩))] 7 ?_ (fun key => OW.sub (R := [(2, .pointer (some ⟨b17, 0, none⟩)), (3, .pointer (some ⟨b18, 0, none⟩)), (13, .bool ((p0.Attrs_.length : Int) != (p1.Attrs_.length : Int)))]) ?_ ⟨rfl, rfl, rfl, trivial⟩)
  · refine ow_nil ?_
    refine x_qs ?_
    refine c_if rfl (fun hb => ?_) (fun hb => ?_)
    · have H := of_if_t hb H
      refine c_seq ?_
      refine c_reg ?_
      refine ow_batch [.p] rfl ?_
      refine ow_nil ?_
      refine x_qs ?_
      refine c_ret ?_
      refine x_qs_ret ?_
      exact x_retR (rs := [.tmp 4]) (vs := [.bool false]) rfl ⟨rfl, trivial⟩ (fun w' hw' => by
          obtain rfl := of_some H
          exact ⟨rfl, hw'.ext⟩)
    · have H := of_if_f hb H
      refine c_skip ?_
      refine x_qs ?_
      refine c_seq ?_
      refine c_seq ?_
      refine c_reg ?_
      refine ow_batch [.p] rfl ?_
      refine ow_nil ?_
      refine x_qs ?_
      refine c_block ?_
      refine CW.at (loopI1 (fun (i131 : Int) => St w [] [Res.box b17 43 [.slice a5 p0.Attrs_.length c6, .slice a7 p0.Classes_.length c8], Res.box b18 43 [.slice a13 p1.Attrs_.length c14, .slice a15 p1.Classes_.length c16]]) (fun (i131 : Int) => [(2, .pointer (some ⟨b17, 0, none⟩)), (3, .pointer (some ⟨b18, 0, none⟩)), (5, .int .i64 i131)]) (fun kk => fun (i131 : Int) => spec_SchemaSame_L1 p0 p1 kk i131 = some r) (fun _ H => ?_) (fun k1 ihk1 i131 H => ?_) Fuel (0) (H)) (fun _ h => St.sel [0, 1] rfl rfl h) ⟨rfl, rfl, rfl,  trivial⟩
      · unfold spec_SchemaSame_L1 at H
        exact absurd H (by simp)
      · unfold spec_SchemaSame_L1 at H
        refine c_seq ?_
        refine c_seq ?_
        refine c_reg ?_
        refine ow_batch [.p, .fa 43 0 0 fa43_0] rfl ?_
        refine ow_r rfl (dstOk_lt rfl) (ry_box1 (off := 0) rfl rfl ty41 (boxIn (i := 0) rfl) rfl) ?_
        refine ow_batch [.lenS 41 109 sl41, .p] rfl ?_
        refine ow_nil ?_
        refine x_qs ?_
        refine c_if rfl (fun hb => ?_) (fun hb => ?_)
        · have H := of_if_t hb H
          refine c_skip ?_
          refine x_qs ?_
          refine c_seq ?_
          refine c_block ?_
          refine c_seq ?_
          refine c_regQ mixed (by kernel_rfl) ?_
          refine ow_batch [.fa 43 0 0 fa43_0] rfl ?_
          refine ow_r rfl (dstOk_lt rfl) (ry_box1 (off := 0) rfl rfl ty41 (boxIn (i := 0) rfl) rfl) ?_
          refine ow_batch [.p] rfl ?_
          obtain ⟨e239, h240, H⟩ := of_bind H
          refine ow_ixB rfl rfl rfl rfl rfl sl41 ty109 rfl g3 h240 (fun q243 c244 hd241 hA242 => ?_)
          obtain ⟨c245, c246, c247, rfl, g248, g249, g250⟩ := rdo_Timpl_Attr hd241
          obtain rfl : c245 = [vS e239.Name_] := g248
          obtain ⟨a251, c252, rfl⟩ := rd_sl1 g249
          obtain ⟨a253, c254, rfl⟩ := rd_sl1 g250
          refine ow_batch [.fa 109 0 0 fa109_0] rfl ?_
          refine ow_r rfl (dstOk_lt rfl) (ry_load1 rfl rfl ty9 (at_bor bor (at_K hA242 0 1))) ?_
          refine ow_batch [.fa 43 0 0 fa43_0] rfl ?_
          refine ow_r rfl (dstOk_lt rfl) (ry_box1 (off := 0) rfl rfl ty41 (boxIn (i := 1) rfl) rfl) ?_
          refine ow_batch [.p] rfl ?_
          obtain ⟨e255, h256, H⟩ := of_bind H
          refine ow_ixB rfl rfl rfl rfl rfl sl41 ty109 rfl g11 h256 (fun q259 c260 hd257 hA258 => ?_)
          obtain ⟨c261, c262, c263, rfl, g264, g265, g266⟩ := rdo_Timpl_Attr hd257
          obtain rfl : c261 = [vS e255.Name_] := g264
          obtain ⟨a267, c268, rfl⟩ := rd_sl1 g265
          obtain ⟨a269, c270, rfl⟩ := rd_sl1 g266
          refine ow_batch [.fa 109 0 0 fa109_0] rfl ?_
          refine ow_r rfl (dstOk_lt rfl) (ry_load1 rfl rfl ty9 (at_bor bor (at_K hA258 0 1))) ?_
          refine ow_batch [.p, .p] rfl ?_
          obtain ⟨u271, hu307, H⟩ := of_bind H
          refine ow_cut [(56, .bool u271), (2, .pointer (some ⟨b17, 0, none⟩)), (3, .pointer (some ⟨b18, 0, none⟩)), (5, .int .i64 i131)] 15 ?_ (fun key => OW.sub (R := [(2, .pointer (some ⟨b17, 0, none⟩)), (3, .pointer (some ⟨b18, 0, none⟩)), (5, .int .i64 i131), (41, .bool (!(e239.Name_ == e255.Name_)))]) ?_ ⟨rfl, rfl, rfl, rfl, trivial⟩)
          · refine ow_batch [.p] rfl ?_
            obtain ⟨u308, hu344, H⟩ := of_bind H
            refine ow_cut [(72, .bool u308), (2, .pointer (some ⟨b17, 0, none⟩)), (3, .pointer (some ⟨b18, 0, none⟩)), (5, .int .i64 i131)] 15 ?_ (fun key => OW.sub (R := [(2, .pointer (some ⟨b17, 0, none⟩)), (3, .pointer (some ⟨b18, 0, none⟩)), (5, .int .i64 i131), (57, .bool u271)]) ?_ ⟨rfl, rfl, rfl, rfl, trivial⟩)
            · refine ow_nilQ ?_
              refine x_qs ?_
              refine c_if rfl (fun hb => ?_) (fun hb => ?_)
              · have H := of_if_t hb H
                refine c_seq ?_
                refine c_reg ?_
                refine ow_batch [.p] rfl ?_
                refine ow_nil ?_
                refine x_qs ?_
                refine c_ret ?_
                refine x_qb_ret ?_
                refine x_qs_ret ?_
                refine x_ql_ret ?_
                refine x_qb_ret ?_
                refine x_qs_ret ?_
                exact x_retR (rs := [.tmp 4]) (vs := [.bool false]) rfl ⟨rfl, trivial⟩ (fun w' hw' => by
                    obtain rfl := of_some H
                    exact ⟨rfl, hw'.ext⟩)
              · have H := of_if_f hb H
                refine c_skip ?_
                refine x_qb ?_
                refine x_qs ?_
                refine c_reg ?_
                refine ow_batch [.p, .p, .p] rfl ?_
                refine ow_nil ?_
                exact x_ql (RW.at (ihk1 (IntKind.i64.wrap (i131 + 1)) (H)) (fun _ h => St.sel [0, 1] rfl rfl h) ⟨rfl, rfl, rfl, trivial⟩)
            · clear H
              have H := hu344
              clear hu344
              generalize u271 = t343 at H ⊢
              cases t343
              · have H := of_if_f rfl H
                refine ow_batch [.fa 43 0 0 fa43_0] rfl ?_
                refine ow_r rfl (dstOk_lt rfl) (ry_box1 (off := 0) rfl rfl ty41 (boxIn (i := 0) rfl) rfl) ?_
                refine ow_batch [.p] rfl ?_
                obtain ⟨e309, h310, H⟩ := of_bind H
                refine ow_ixB rfl rfl rfl rfl rfl sl41 ty109 rfl g3 h310 (fun q313 c314 hd311 hA312 => ?_)
                obtain ⟨c315, c316, c317, rfl, g318, g319, g320⟩ := rdo_Timpl_Attr hd311
                obtain rfl : c315 = [vS e309.Name_] := g318
                obtain ⟨a321, c322, rfl⟩ := rd_sl1 g319
                obtain ⟨a323, c324, rfl⟩ := rd_sl1 g320
                refine ow_batch [.fa 109 2 2 fa109_2] rfl ?_
                refine ow_r rfl (dstOk_lt rfl) (ry_load1 rfl rfl ty23 (at_bor bor (at_K hA312 2 1))) ?_
                refine ow_batch [.fa 43 0 0 fa43_0] rfl ?_
                refine ow_r rfl (dstOk_lt rfl) (ry_box1 (off := 0) rfl rfl ty41 (boxIn (i := 1) rfl) rfl) ?_
                refine ow_batch [.p] rfl ?_
                obtain ⟨e325, h326, H⟩ := of_bind H
                refine ow_ixB rfl rfl rfl rfl rfl sl41 ty109 rfl g11 h326 (fun q329 c330 hd327 hA328 => ?_)
                obtain ⟨c331, c332, c333, rfl, g334, g335, g336⟩ := rdo_Timpl_Attr hd327
                obtain rfl : c331 = [vS e325.Name_] := g334
                obtain ⟨a337, c338, rfl⟩ := rd_sl1 g335
                obtain ⟨a339, c340, rfl⟩ := rd_sl1 g336
                refine ow_batch [.fa 109 2 2 fa109_2] rfl ?_
                refine ow_r rfl (dstOk_lt rfl) (ry_load1 rfl rfl ty23 (at_bor bor (at_K hA328 2 1))) ?_
                obtain ⟨y341, h342, H⟩ := of_bind H
                refine ow_q rfl rfl (dstOk_lt rfl) (qy_call rfl fn50 rfl (fun w1 hw1 => spec_l5SameTexts_ok w1  h342 (rds_bor g320 w1 hw1) (rds_bor g336 w1 hw1))) (fun _ _ => trivial) ?_
                refine ow_batch [.p] rfl ?_
                refine ow_batch [.p] rfl ?_
                obtain rfl := of_some H
                exact OW.sub key ⟨rfl, rfl, rfl, rfl, trivial⟩
              · have H := of_if_t rfl H
                refine ow_batch [.p, .p, .p, .p, .p, .p, .p, .p, .p, .p, .p, .p, .p, .p, .p] rfl ?_
                obtain rfl := of_some H
                exact OW.sub key ⟨rfl, rfl, rfl, rfl, trivial⟩
          · clear H
            have H := hu307
            clear hu307
            generalize (!(e239.Name_ == e255.Name_)) = t306 at H ⊢
            cases t306
            · have H := of_if_f rfl H
              refine ow_batch [.fa 43 0 0 fa43_0] rfl ?_
              refine ow_r rfl (dstOk_lt rfl) (ry_box1 (off := 0) rfl rfl ty41 (boxIn (i := 0) rfl) rfl) ?_
              refine ow_batch [.p] rfl ?_
              obtain ⟨e272, h273, H⟩ := of_bind H
              refine ow_ixB rfl rfl rfl rfl rfl sl41 ty109 rfl g3 h273 (fun q276 c277 hd274 hA275 => ?_)
              obtain ⟨c278, c279, c280, rfl, g281, g282, g283⟩ := rdo_Timpl_Attr hd274
              obtain rfl : c278 = [vS e272.Name_] := g281
              obtain ⟨a284, c285, rfl⟩ := rd_sl1 g282
              obtain ⟨a286, c287, rfl⟩ := rd_sl1 g283
              refine ow_batch [.fa 109 1 1 fa109_1] rfl ?_
              refine ow_r rfl (dstOk_lt rfl) (ry_load1 rfl rfl ty82 (at_bor bor (at_K hA275 1 1))) ?_
              refine ow_batch [.fa 43 0 0 fa43_0] rfl ?_
              refine ow_r rfl (dstOk_lt rfl) (ry_box1 (off := 0) rfl rfl ty41 (boxIn (i := 1) rfl) rfl) ?_
              refine ow_batch [.p] rfl ?_
              obtain ⟨e288, h289, H⟩ := of_bind H
              refine ow_ixB rfl rfl rfl rfl rfl sl41 ty109 rfl g11 h289 (fun q292 c293 hd290 hA291 => ?_)
              obtain ⟨c294, c295, c296, rfl, g297, g298, g299⟩ := rdo_Timpl_Attr hd290
              obtain rfl : c294 = [vS e288.Name_] := g297
              obtain ⟨a300, c301, rfl⟩ := rd_sl1 g298
              obtain ⟨a302, c303, rfl⟩ := rd_sl1 g299
              refine ow_batch [.fa 109 1 1 fa109_1] rfl ?_
              refine ow_r rfl (dstOk_lt rfl) (ry_load1 rfl rfl ty82 (at_bor bor (at_K hA291 1 1))) ?_
              obtain ⟨y304, h305, H⟩ := of_bind H
              refine ow_q rfl rfl (dstOk_lt rfl) (qy_call rfl fn30 rfl (fun w1 hw1 => spec_l5SameInts_ok w1  h305 (rds_bor g282 w1 hw1) (rds_bor g298 w1 hw1))) (fun _ _ => trivial) ?_
              refine ow_batch [.p] rfl ?_
              refine ow_batch [.p] rfl ?_
              obtain rfl := of_some H
              exact OW.sub key ⟨rfl, rfl, rfl, rfl, trivial⟩
            · have H := of_if_t rfl H
              refine ow_batch [.p, .p, .p, .p, .p, .p, .p, .p, .p, .p, .p, .p, .p, .p, .p] rfl ?_
              obtain rfl := of_some H
              exact OW.sub key ⟨rfl, rfl, rfl, rfl, trivial⟩
        · have H := of_if_f hb H
          refine c_exit ?_
          refine x_qs_exit ?_
          refine x_ql_exit ?_
          refine x_qb_here ?_
          refine x_qs ?_
          refine c_seq ?_
          refine c_reg ?_
          refine ow_batch [.p] rfl ?_
          refine ow_nil ?_
          refine x_qs ?_
          refine c_ret ?_
          exact x_retR (rs := [.tmp 4]) (vs := [.bool true]) rfl ⟨rfl, trivial⟩ (fun w' hw' => by
              obtain rfl := of_some H
              exact ⟨rfl, hw'.ext⟩)
  · clear H
    have H := hu23
    clear hu23
    generalize ((p0.Attrs_.length : Int) != (p1.Attrs_.length : Int)) = t22 at H ⊢
    cases t22
    · have H := of_if_f rfl H
      refine ow_batch [.fa 43 1 1 fa43_1] rfl ?_
      refine ow_r rfl (dstOk_lt rfl) (ry_box1 (off := 1) rfl rfl ty23 (boxIn (i := 0) rfl) rfl) ?_
      refine ow_batch [.fa 43 1 1 fa43_1] rfl ?_
      refine ow_r rfl (dstOk_lt rfl) (ry_box1 (off := 1) rfl rfl ty23 (boxIn (i := 1) rfl) rfl) ?_
      obtain ⟨y20, h21, H⟩ := of_bind H
      refine ow_q rfl rfl (dstOk_lt rfl) (qy_call rfl fn50 rfl (fun w1 hw1 => spec_l5SameTexts_ok w1  h21 (rds_bor g4 w1 hw1) (rds_bor g12 w1 hw1))) (fun _ _ => trivial) ?_
      refine ow_batch [.p] rfl ?_
      refine ow_batch [.p] rfl ?_
      obtain rfl := of_some H
      exact OW.sub key ⟨rfl, rfl, rfl, trivial⟩
    · have H := of_if_t rfl H
      refine ow_batch [.p, .p, .p, .p, .p, .p, .p] rfl ?_
      obtain rfl := of_some H
      exact OW.sub key ⟨rfl, rfl, rfl, trivial⟩

set_option maxHeartbeats 4000000 in
set_option maxRecDepth 100000 in
theorem spec_ConfSame_ok (w : World) {p0 : Timpl_Conf} {p1 : Timpl_Conf} {cs0 : List Value} {cs1 : List Value} {r : Bool} (H : spec_ConfSame p0 p1 = some r)  (g0 : (eTimpl_Conf).rd w [] p0 cs0) (g1 : (eTimpl_Conf).rd w [] p1 cs1) :
    Calls Try.prog 12 #[.agg cs0.toArray, .agg cs1.toArray] w (fun en w' => en = .returned (.bool r) ∧ Ext [] w w') := by
  obtain ⟨c1, c2, c3, c4, c5, c6, c7, rfl, g8, g9, g10, g11, g12, g13, g14⟩ := rdo_Timpl_Conf g0
  obtain ⟨c15, c16, rfl, g17, g18⟩ := rdo_Timpl_Schema g8
  obtain ⟨a19, c20, rfl⟩ := rd_sl1 g17
  obtain ⟨a21, c22, rfl⟩ := rd_sl1 g18
  obtain rfl : c2 = [.int .i64 p0.Rule_.Sure_, .int .i64 p0.Rule_.Tie_, .int .i64 p0.Rule_.Grace_, .int .i64 p0.Rule_.Depth_, .int .i64 p0.Rule_.Nodes_, .int .i64 p0.Rule_.Units_, .bool p0.Rule_.Two_] := g9
  obtain rfl : c3 = [.int .i64 p0.Members_] := g10
  obtain rfl : c4 = [.int .i64 p0.Pick_] := g11
  obtain rfl : c5 = [.int .i64 p0.Lambda_] := g12
  obtain rfl : c6 = [.int .i64 p0.Warn_] := g13
  obtain rfl : c7 = [.int .i64 p0.Drift_] := g14
  obtain ⟨c23, c24, c25, c26, c27, c28, c29, rfl, g30, g31, g32, g33, g34, g35, g36⟩ := rdo_Timpl_Conf g1
  obtain ⟨c37, c38, rfl, g39, g40⟩ := rdo_Timpl_Schema g30
  obtain ⟨a41, c42, rfl⟩ := rd_sl1 g39
  obtain ⟨a43, c44, rfl⟩ := rd_sl1 g40
  obtain rfl : c24 = [.int .i64 p1.Rule_.Sure_, .int .i64 p1.Rule_.Tie_, .int .i64 p1.Rule_.Grace_, .int .i64 p1.Rule_.Depth_, .int .i64 p1.Rule_.Nodes_, .int .i64 p1.Rule_.Units_, .bool p1.Rule_.Two_] := g31
  obtain rfl : c25 = [.int .i64 p1.Members_] := g32
  obtain rfl : c26 = [.int .i64 p1.Pick_] := g33
  obtain rfl : c27 = [.int .i64 p1.Lambda_] := g34
  obtain rfl : c28 = [.int .i64 p1.Warn_] := g35
  obtain rfl : c29 = [.int .i64 p1.Drift_] := g36
  unfold spec_ConfSame at H
  refine f_enter (vs := [.agg #[.slice a19 p0.Schema_.Attrs_.length c20, .slice a21 p0.Schema_.Classes_.length c22, .int .i64 p0.Rule_.Sure_, .int .i64 p0.Rule_.Tie_, .int .i64 p0.Rule_.Grace_, .int .i64 p0.Rule_.Depth_, .int .i64 p0.Rule_.Nodes_, .int .i64 p0.Rule_.Units_, .bool p0.Rule_.Two_, .int .i64 p0.Members_, .int .i64 p0.Pick_, .int .i64 p0.Lambda_, .int .i64 p0.Warn_, .int .i64 p0.Drift_], .agg #[.slice a41 p1.Schema_.Attrs_.length c42, .slice a43 p1.Schema_.Classes_.length c44, .int .i64 p1.Rule_.Sure_, .int .i64 p1.Rule_.Tie_, .int .i64 p1.Rule_.Grace_, .int .i64 p1.Rule_.Depth_, .int .i64 p1.Rule_.Nodes_, .int .i64 p1.Rule_.Units_, .bool p1.Rule_.Two_, .int .i64 p1.Members_, .int .i64 p1.Pick_, .int .i64 p1.Lambda_, .int .i64 p1.Warn_, .int .i64 p1.Drift_]]) Try.func12 rfl Try.ntmps12 rfl (St.init w []) ?_
  refine c_seq ?_
  refine c_reg ?_
  refine ow_box (cs := [.slice a19 p0.Schema_.Attrs_.length c20, .slice a21 p0.Schema_.Classes_.length c22, .int .i64 p0.Rule_.Sure_, .int .i64 p0.Rule_.Tie_, .int .i64 p0.Rule_.Grace_, .int .i64 p0.Rule_.Depth_, .int .i64 p0.Rule_.Nodes_, .int .i64 p0.Rule_.Units_, .bool p0.Rule_.Two_, .int .i64 p0.Members_, .int .i64 p0.Pick_, .int .i64 p0.Lambda_, .int .i64 p0.Warn_, .int .i64 p0.Drift_]) rfl rfl rfl rfl rfl rfl (fun _ => kp) (fun b45 => ?_)
  refine ow_box (cs := [.slice a41 p1.Schema_.Attrs_.length c42, .slice a43 p1.Schema_.Classes_.length c44, .int .i64 p1.Rule_.Sure_, .int .i64 p1.Rule_.Tie_, .int .i64 p1.Rule_.Grace_, .int .i64 p1.Rule_.Depth_, .int .i64 p1.Rule_.Nodes_, .int .i64 p1.Rule_.Units_, .bool p1.Rule_.Two_, .int .i64 p1.Members_, .int .i64 p1.Pick_, .int .i64 p1.Lambda_, .int .i64 p1.Warn_, .int .i64 p1.Drift_]) rfl rfl rfl rfl rfl rfl (fun _ => kp) (fun b46 => ?_)
  refine ow_batch [.p] rfl ?_
  refine ow_nil ?_
  refine x_qs ?_
  refine c_seq ?_
  refine c_reg ?_
  refine ow_batch [.fa 46 0 0 fa46_0] rfl ?_
  refine ow_r rfl (dstOk_lt rfl) (ry_box (off := 0) (ds := [.slice a19 p0.Schema_.Attrs_.length c20, .slice a21 p0.Schema_.Classes_.length c22]) rfl rfl ty43 (boxIn (i := 0) rfl) rfl rfl) ?_
  refine ow_batch [.fa 46 0 0 fa46_0] rfl ?_
  refine ow_r rfl (dstOk_lt rfl) (ry_box (off := 0) (ds := [.slice a41 p1.Schema_.Attrs_.length c42, .slice a43 p1.Schema_.Classes_.length c44]) rfl rfl ty43 (boxIn (i := 1) rfl) rfl rfl) ?_
  obtain ⟨y47, h48, H⟩ := of_bind H
  refine ow_q rfl rfl (dstOk_lt rfl) (qy_call rfl fn28 rfl (fun w1 hw1 => spec_SchemaSame_ok w1 (cs0 := [.slice a19 p0.Schema_.Attrs_.length c20, .slice a21 p0.Schema_.Classes_.length c22]) (cs1 := [.slice a41 p1.Schema_.Attrs_.length c42, .slice a43 p1.Schema_.Classes_.length c44]) h48 (rdm_Timpl_Schema (x := p0.Schema_) (c0 := [.slice a19 p0.Schema_.Attrs_.length c20]) (c1 := [.slice a21 p0.Schema_.Classes_.length c22]) (rds_bor g17 w1 hw1) (rds_bor g18 w1 hw1)) (rdm_Timpl_Schema (x := p1.Schema_) (c0 := [.slice a41 p1.Schema_.Attrs_.length c42]) (c1 := [.slice a43 p1.Schema_.Classes_.length c44]) (rds_bor g39 w1 hw1) (rds_bor g40 w1 hw1)))) (fun _ _ => trivial) ?_
  refine ow_batch [.p] rfl ?_
  refine ow_cut [(16, .bool (y47 && (p0.Rule_.Sure_ == p1.Rule_.Sure_ && (p0.Rule_.Tie_ == p1.Rule_.Tie_ && (p0.Rule_.Grace_ == p1.Rule_.Grace_ && (p0.Rule_.Depth_ == p1.Rule_.Depth_ && (p0.Rule_.Nodes_ == p1.Rule_.Nodes_ && (p0.Rule_.Units_ == p1.Rule_.Units_ && (p0.Rule_.Two_ == p1.Rule_.Two_ && true))))))))), (2, .pointer (some ⟨b45, 0, none⟩)), (3, .pointer (some ⟨b46, 0, none⟩)), (4, .bool false)] 6 ?_ (fun key => OW.sub (R := [(2, .pointer (some ⟨b45, 0, none⟩)), (3, .pointer (some ⟨b46, 0, none⟩)), (4, .bool false), (10, .bool y47)]) ?_ ⟨rfl, rfl, rfl, rfl, trivial⟩)
  · refine ow_batch [.p] rfl ?_
    refine ow_cut [(23, .bool ((y47 && (p0.Rule_.Sure_ == p1.Rule_.Sure_ && (p0.Rule_.Tie_ == p1.Rule_.Tie_ && (p0.Rule_.Grace_ == p1.Rule_.Grace_ && (p0.Rule_.Depth_ == p1.Rule_.Depth_ && (p0.Rule_.Nodes_ == p1.Rule_.Nodes_ && (p0.Rule_.Units_ == p1.Rule_.Units_ && (p0.Rule_.Two_ == p1.Rule_.Two_ && true)))))))) && (p0.Members_ == p1.Members_))), (2, .pointer (some ⟨b45, 0, none⟩)), (3, .pointer (some ⟨b46, 0, none⟩)), (4, .bool false)] 6 ?_ (fun key => OW.sub (R := [(2, .pointer (some ⟨b45, 0, none⟩)), (3, .pointer (some ⟨b46, 0, none⟩)), (4, .bool false), (17, .bool (y47 && (p0.Rule_.Sure_ == p1.Rule_.Sure_ && (p0.Rule_.Tie_ == p1.Rule_.Tie_ && (p0.Rule_.Grace_ == p1.Rule_.Grace_ && (p0.Rule_.Depth_ == p1.Rule_.Depth_ && (p0.Rule_.Nodes_ == p1.Rule_.Nodes_ && (p0.Rule_.Units_ == p1.Rule_.Units_ && (p0.Rule_.Two_ == p1.Rule_.Two_ && true)))))))))]) ?_ ⟨rfl, rfl, rfl, rfl, trivial⟩)
    · refine ow_batch [.p] rfl ?_
      refine ow_cut [(30, .bool (((y47 && (p0.Rule_.Sure_ == p1.Rule_.Sure_ && (p0.Rule_.Tie_ == p1.Rule_.Tie_ && (p0.Rule_.Grace_ == p1.Rule_.Grace_ && (p0.Rule_.Depth_ == p1.Rule_.Depth_ && (p0.Rule_.Nodes_ == p1.Rule_.Nodes_ && (p0.Rule_.Units_ == p1.Rule_.Units_ && (p0.Rule_.Two_ == p1.Rule_.Two_ && true)))))))) && (p0.Members_ == p1.Members_)) && (p0.Pick_ == p1.Pick_))), (2, .pointer (some ⟨b45, 0, none⟩)), (3, .pointer (some ⟨b46, 0, none⟩)), (4, .bool false)] 6 ?_ (fun key => OW.sub (R := [(2, .pointer (some ⟨b45, 0, none⟩)), (3, .pointer (some ⟨b46, 0, none⟩)), (4, .bool false), (24, .bool ((y47 && (p0.Rule_.Sure_ == p1.Rule_.Sure_ && (p0.Rule_.Tie_ == p1.Rule_.Tie_ && (p0.Rule_.Grace_ == p1.Rule_.Grace_ && (p0.Rule_.Depth_ == p1.Rule_.Depth_ && (p0.Rule_.Nodes_ == p1.Rule_.Nodes_ && (p0.Rule_.Units_ == p1.Rule_.Units_ && (p0.Rule_.Two_ == p1.Rule_.Two_ && true)))))))) && (p0.Members_ == p1.Members_)))]) ?_ ⟨rfl, rfl, rfl, rfl, trivial⟩)
      · refine ow_batch [.p] rfl ?_
        refine ow_cut [(37, .bool ((((y47 && (p0.Rule_.Sure_ == p1.Rule_.Sure_ && (p0.Rule_.Tie_ == p1.Rule_.Tie_ && (p0.Rule_.Grace_ == p1.Rule_.Grace_ && (p0.Rule_.Depth_ == p1.Rule_.Depth_ && (p0.Rule_.Nodes_ == p1.Rule_.Nodes_ && (p0.Rule_.Units_ == p1.Rule_.Units_ && (p0.Rule_.Two_ == p1.Rule_.Two_ && true)))))))) && (p0.Members_ == p1.Members_)) && (p0.Pick_ == p1.Pick_)) && (p0.Lambda_ == p1.Lambda_))), (2, .pointer (some ⟨b45, 0, none⟩)), (3, .pointer (some ⟨b46, 0, none⟩)), (4, .bool false)] 6 ?_ (fun key => OW.sub (R := [(2, .pointer (some ⟨b45, 0, none⟩)), (3, .pointer (some ⟨b46, 0, none⟩)), (4, .bool false), (31, .bool (((y47 && (p0.Rule_.Sure_ == p1.Rule_.Sure_ && (p0.Rule_.Tie_ == p1.Rule_.Tie_ && (p0.Rule_.Grace_ == p1.Rule_.Grace_ && (p0.Rule_.Depth_ == p1.Rule_.Depth_ && (p0.Rule_.Nodes_ == p1.Rule_.Nodes_ && (p0.Rule_.Units_ == p1.Rule_.Units_ && (p0.Rule_.Two_ == p1.Rule_.Two_ && true)))))))) && (p0.Members_ == p1.Members_)) && (p0.Pick_ == p1.Pick_)))]) ?_ ⟨rfl, rfl, rfl, rfl, trivial⟩)
        · refine ow_batch [.p] rfl ?_
          refine ow_cut [(44, .bool (((((y47 && (p0.Rule_.Sure_ == p1.Rule_.Sure_ && (p0.Rule_.Tie_ == p1.Rule_.Tie_ && (p0.Rule_.Grace_ == p1.Rule_.Grace_ && (p0.Rule_.Depth_ == p1.Rule_.Depth_ && (p0.Rule_.Nodes_ == p1.Rule_.Nodes_ && (p0.Rule_.Units_ == p1.Rule_.Units_ && (p0.Rule_.Two_ == p1.Rule_.Two_ && true)))))))) && (p0.Members_ == p1.Members_)) && (p0.Pick_ == p1.Pick_)) && (p0.Lambda_ == p1.Lambda_)) && (p0.Warn_ == p1.Warn_))), (2, .pointer (some ⟨b45, 0, none⟩)), (3, .pointer (some ⟨b46, 0, none⟩)), (4, .bool false)] 6 ?_ (fun key => OW.sub (R := [(2, .pointer (some ⟨b45, 0, none⟩)), (3, .pointer (some ⟨b46, 0, none⟩)), (4, .bool false), (38, .bool ((((y47 && (p0.Rule_.Sure_ == p1.Rule_.Sure_ && (p0.Rule_.Tie_ == p1.Rule_.Tie_ && (p0.Rule_.Grace_ == p1.Rule_.Grace_ && (p0.Rule_.Depth_ == p1.Rule_.Depth_ && (p0.Rule_.Nodes_ == p1.Rule_.Nodes_ && (p0.Rule_.Units_ == p1.Rule_.Units_ && (p0.Rule_.Two_ == p1.Rule_.Two_ && true)))))))) && (p0.Members_ == p1.Members_)) && (p0.Pick_ == p1.Pick_)) && (p0.Lambda_ == p1.Lambda_)))]) ?_ ⟨rfl, rfl, rfl, rfl, trivial⟩)
          · refine ow_batch [.p] rfl ?_
            refine ow_cut [(51, .bool ((((((y47 && (p0.Rule_.Sure_ == p1.Rule_.Sure_ && (p0.Rule_.Tie_ == p1.Rule_.Tie_ && (p0.Rule_.Grace_ == p1.Rule_.Grace_ && (p0.Rule_.Depth_ == p1.Rule_.Depth_ && (p0.Rule_.Nodes_ == p1.Rule_.Nodes_ && (p0.Rule_.Units_ == p1.Rule_.Units_ && (p0.Rule_.Two_ == p1.Rule_.Two_ && true)))))))) && (p0.Members_ == p1.Members_)) && (p0.Pick_ == p1.Pick_)) && (p0.Lambda_ == p1.Lambda_)) && (p0.Warn_ == p1.Warn_)) && (p0.Drift_ == p1.Drift_))), (4, .bool false)] 6 ?_ (fun key => OW.sub (R := [(2, .pointer (some ⟨b45, 0, none⟩)), (3, .pointer (some ⟨b46, 0, none⟩)), (4, .bool false), (45, .bool (((((y47 && (p0.Rule_.Sure_ == p1.Rule_.Sure_ && (p0.Rule_.Tie_ == p1.Rule_.Tie_ && (p0.Rule_.Grace_ == p1.Rule_.Grace_ && (p0.Rule_.Depth_ == p1.Rule_.Depth_ && (p0.Rule_.Nodes_ == p1.Rule_.Nodes_ && (p0.Rule_.Units_ == p1.Rule_.Units_ && (p0.Rule_.Two_ == p1.Rule_.Two_ && true)))))))) && (p0.Members_ == p1.Members_)) && (p0.Pick_ == p1.Pick_)) && (p0.Lambda_ == p1.Lambda_)) && (p0.Warn_ == p1.Warn_)))]) ?_ ⟨rfl, rfl, rfl, rfl, trivial⟩)
            · refine ow_batch [.p] rfl ?_
              refine ow_nil ?_
              refine x_qs ?_
              refine c_ret ?_
              exact x_retR (rs := [.tmp 4]) (vs := [.bool ((((((y47 && (p0.Rule_.Sure_ == p1.Rule_.Sure_ && (p0.Rule_.Tie_ == p1.Rule_.Tie_ && (p0.Rule_.Grace_ == p1.Rule_.Grace_ && (p0.Rule_.Depth_ == p1.Rule_.Depth_ && (p0.Rule_.Nodes_ == p1.Rule_.Nodes_ && (p0.Rule_.Units_ == p1.Rule_.Units_ && (p0.Rule_.Two_ == p1.Rule_.Two_ && true)))))))) && (p0.Members_ == p1.Members_)) && (p0.Pick_ == p1.Pick_)) && (p0.Lambda_ == p1.Lambda_)) && (p0.Warn_ == p1.Warn_)) && (p0.Drift_ == p1.Drift_))]) rfl ⟨rfl, trivial⟩ (fun w' hw' => by
                  obtain rfl := of_some H
                  exact ⟨rfl, hw'.ext⟩)
            · generalize (((((y47 && (p0.Rule_.Sure_ == p1.Rule_.Sure_ && (p0.Rule_.Tie_ == p1.Rule_.Tie_ && (p0.Rule_.Grace_ == p1.Rule_.Grace_ && (p0.Rule_.Depth_ == p1.Rule_.Depth_ && (p0.Rule_.Nodes_ == p1.Rule_.Nodes_ && (p0.Rule_.Units_ == p1.Rule_.Units_ && (p0.Rule_.Two_ == p1.Rule_.Two_ && true)))))))) && (p0.Members_ == p1.Members_)) && (p0.Pick_ == p1.Pick_)) && (p0.Lambda_ == p1.Lambda_)) && (p0.Warn_ == p1.Warn_)) = t60 at key ⊢
              cases t60
              · refine ow_batch [.p, .p, .p, .p, .p, .p] rfl ?_
                exact OW.sub key ⟨rfl, rfl, trivial⟩
              · refine ow_batch [.fa 46 6 13 fa46_6] rfl ?_
                refine ow_r rfl (dstOk_lt rfl) (ry_box1 (off := 13) rfl rfl ty3 (boxIn (i := 0) rfl) rfl) ?_
                refine ow_batch [.fa 46 6 13 fa46_6] rfl ?_
                refine ow_r rfl (dstOk_lt rfl) (ry_box1 (off := 13) rfl rfl ty3 (boxIn (i := 1) rfl) rfl) ?_
                refine ow_batch [.p] rfl ?_
                refine ow_batch [.p] rfl ?_
                exact OW.sub key ⟨rfl, rfl, trivial⟩
          · generalize ((((y47 && (p0.Rule_.Sure_ == p1.Rule_.Sure_ && (p0.Rule_.Tie_ == p1.Rule_.Tie_ && (p0.Rule_.Grace_ == p1.Rule_.Grace_ && (p0.Rule_.Depth_ == p1.Rule_.Depth_ && (p0.Rule_.Nodes_ == p1.Rule_.Nodes_ && (p0.Rule_.Units_ == p1.Rule_.Units_ && (p0.Rule_.Two_ == p1.Rule_.Two_ && true)))))))) && (p0.Members_ == p1.Members_)) && (p0.Pick_ == p1.Pick_)) && (p0.Lambda_ == p1.Lambda_)) = t58 at key ⊢
            cases t58
            · refine ow_batch [.p, .p, .p, .p, .p, .p] rfl ?_
              exact OW.sub key ⟨rfl, rfl, rfl, rfl, trivial⟩
            · refine ow_batch [.fa 46 5 12 fa46_5] rfl ?_
              refine ow_r rfl (dstOk_lt rfl) (ry_box1 (off := 12) rfl rfl ty3 (boxIn (i := 0) rfl) rfl) ?_
              refine ow_batch [.fa 46 5 12 fa46_5] rfl ?_
              refine ow_r rfl (dstOk_lt rfl) (ry_box1 (off := 12) rfl rfl ty3 (boxIn (i := 1) rfl) rfl) ?_
              refine ow_batch [.p] rfl ?_
              refine ow_batch [.p] rfl ?_
              exact OW.sub key ⟨rfl, rfl, rfl, rfl, trivial⟩
        · generalize (((y47 && (p0.Rule_.Sure_ == p1.Rule_.Sure_ && (p0.Rule_.Tie_ == p1.Rule_.Tie_ && (p0.Rule_.Grace_ == p1.Rule_.Grace_ && (p0.Rule_.Depth_ == p1.Rule_.Depth_ && (p0.Rule_.Nodes_ == p1.Rule_.Nodes_ && (p0.Rule_.Units_ == p1.Rule_.Units_ && (p0.Rule_.Two_ == p1.Rule_.Two_ && true)))))))) && (p0.Members_ == p1.Members_)) && (p0.Pick_ == p1.Pick_)) = t56 at key ⊢
          cases t56
          · refine ow_batch [.p, .p, .p, .p, .p, .p] rfl ?_
            exact OW.sub key ⟨rfl, rfl, rfl, rfl, trivial⟩
          · refine ow_batch [.fa 46 4 11 fa46_4] rfl ?_
            refine ow_r rfl (dstOk_lt rfl) (ry_box1 (off := 11) rfl rfl ty3 (boxIn (i := 0) rfl) rfl) ?_
            refine ow_batch [.fa 46 4 11 fa46_4] rfl ?_
            refine ow_r rfl (dstOk_lt rfl) (ry_box1 (off := 11) rfl rfl ty3 (boxIn (i := 1) rfl) rfl) ?_
            refine ow_batch [.p] rfl ?_
            refine ow_batch [.p] rfl ?_
            exact OW.sub key ⟨rfl, rfl, rfl, rfl, trivial⟩
      · generalize ((y47 && (p0.Rule_.Sure_ == p1.Rule_.Sure_ && (p0.Rule_.Tie_ == p1.Rule_.Tie_ && (p0.Rule_.Grace_ == p1.Rule_.Grace_ && (p0.Rule_.Depth_ == p1.Rule_.Depth_ && (p0.Rule_.Nodes_ == p1.Rule_.Nodes_ && (p0.Rule_.Units_ == p1.Rule_.Units_ && (p0.Rule_.Two_ == p1.Rule_.Two_ && true)))))))) && (p0.Members_ == p1.Members_)) = t54 at key ⊢
        cases t54
        · refine ow_batch [.p, .p, .p, .p, .p, .p] rfl ?_
          exact OW.sub key ⟨rfl, rfl, rfl, rfl, trivial⟩
        · refine ow_batch [.fa 46 3 10 fa46_3] rfl ?_
          refine ow_r rfl (dstOk_lt rfl) (ry_box1 (off := 10) rfl rfl ty3 (boxIn (i := 0) rfl) rfl) ?_
          refine ow_batch [.fa 46 3 10 fa46_3] rfl ?_
          refine ow_r rfl (dstOk_lt rfl) (ry_box1 (off := 10) rfl rfl ty3 (boxIn (i := 1) rfl) rfl) ?_
          refine ow_batch [.p] rfl ?_
          refine ow_batch [.p] rfl ?_
          exact OW.sub key ⟨rfl, rfl, rfl, rfl, trivial⟩
    · generalize (y47 && (p0.Rule_.Sure_ == p1.Rule_.Sure_ && (p0.Rule_.Tie_ == p1.Rule_.Tie_ && (p0.Rule_.Grace_ == p1.Rule_.Grace_ && (p0.Rule_.Depth_ == p1.Rule_.Depth_ && (p0.Rule_.Nodes_ == p1.Rule_.Nodes_ && (p0.Rule_.Units_ == p1.Rule_.Units_ && (p0.Rule_.Two_ == p1.Rule_.Two_ && true)))))))) = t52 at key ⊢
      cases t52
      · refine ow_batch [.p, .p, .p, .p, .p, .p] rfl ?_
        exact OW.sub key ⟨rfl, rfl, rfl, rfl, trivial⟩
      · refine ow_batch [.fa 46 2 9 fa46_2] rfl ?_
        refine ow_r rfl (dstOk_lt rfl) (ry_box1 (off := 9) rfl rfl ty3 (boxIn (i := 0) rfl) rfl) ?_
        refine ow_batch [.fa 46 2 9 fa46_2] rfl ?_
        refine ow_r rfl (dstOk_lt rfl) (ry_box1 (off := 9) rfl rfl ty3 (boxIn (i := 1) rfl) rfl) ?_
        refine ow_batch [.p] rfl ?_
        refine ow_batch [.p] rfl ?_
        exact OW.sub key ⟨rfl, rfl, rfl, rfl, trivial⟩
  · generalize y47 = t50 at key ⊢
    cases t50
    · refine ow_batch [.p, .p, .p, .p, .p, .p] rfl ?_
      exact OW.sub key ⟨rfl, rfl, rfl, rfl, trivial⟩
    · refine ow_batch [.fa 46 1 2 fa46_1] rfl ?_
      refine ow_r rfl (dstOk_lt rfl) (ry_box (off := 2) (ds := [.int .i64 p0.Rule_.Sure_, .int .i64 p0.Rule_.Tie_, .int .i64 p0.Rule_.Grace_, .int .i64 p0.Rule_.Depth_, .int .i64 p0.Rule_.Nodes_, .int .i64 p0.Rule_.Units_, .bool p0.Rule_.Two_]) rfl rfl ty44 (boxIn (i := 0) rfl) rfl rfl) ?_
      refine ow_batch [.fa 46 1 2 fa46_1] rfl ?_
      refine ow_r rfl (dstOk_lt rfl) (ry_box (off := 2) (ds := [.int .i64 p1.Rule_.Sure_, .int .i64 p1.Rule_.Tie_, .int .i64 p1.Rule_.Grace_, .int .i64 p1.Rule_.Depth_, .int .i64 p1.Rule_.Nodes_, .int .i64 p1.Rule_.Units_, .bool p1.Rule_.Two_]) rfl rfl ty44 (boxIn (i := 1) rfl) rfl rfl) ?_
      refine ow_r rfl (dstOk_lt rfl) (ry_seql (xs := [.int .i64 p0.Rule_.Sure_, .int .i64 p0.Rule_.Tie_, .int .i64 p0.Rule_.Grace_, .int .i64 p0.Rule_.Depth_, .int .i64 p0.Rule_.Nodes_, .int .i64 p0.Rule_.Units_, .bool p0.Rule_.Two_]) (ys := [.int .i64 p1.Rule_.Sure_, .int .i64 p1.Rule_.Tie_, .int .i64 p1.Rule_.Grace_, .int .i64 p1.Rule_.Depth_, .int .i64 p1.Rule_.Nodes_, .int .i64 p1.Rule_.Units_, .bool p1.Rule_.Two_]) rfl rfl rfl (se44 p0.Rule_.Sure_ p1.Rule_.Sure_ p0.Rule_.Tie_ p1.Rule_.Tie_ p0.Rule_.Grace_ p1.Rule_.Grace_ p0.Rule_.Depth_ p1.Rule_.Depth_ p0.Rule_.Nodes_ p1.Rule_.Nodes_ p0.Rule_.Units_ p1.Rule_.Units_ p0.Rule_.Two_ p1.Rule_.Two_)) ?_
      refine ow_batch [.p] rfl ?_
      exact OW.sub key ⟨rfl, rfl, rfl, rfl, trivial⟩

set_option maxHeartbeats 4000000 in
set_option maxRecDepth 100000 in
theorem spec_StatsSame_ok (w : World) {p0 : Timpl_Stats} {p1 : Timpl_Stats} {cs0 : List Value} {cs1 : List Value} {r : Bool} (H : spec_StatsSame p0 p1 = some r)  (g0 : (eTimpl_Stats).rd w [] p0 cs0) (g1 : (eTimpl_Stats).rd w [] p1 cs1) :
    Calls Try.prog 87 #[.agg cs0.toArray, .agg cs1.toArray] w (fun en w' => en = .returned (.bool r) ∧ Ext [] w w') := by
  obtain ⟨c1, c2, rfl, g3, g4⟩ := rdo_Timpl_Stats g0
  obtain ⟨a5, c6, rfl⟩ := rd_sl1 g3
  obtain ⟨a7, c8, rfl⟩ := rd_sl1 g4
  obtain ⟨c9, c10, rfl, g11, g12⟩ := rdo_Timpl_Stats g1
  obtain ⟨a13, c14, rfl⟩ := rd_sl1 g11
  obtain ⟨a15, c16, rfl⟩ := rd_sl1 g12
  unfold spec_StatsSame at H
  refine f_enter (vs := [.agg #[.slice a5 p0.Totals_.length c6, .slice a7 p0.Cells_.length c8], .agg #[.slice a13 p1.Totals_.length c14, .slice a15 p1.Cells_.length c16]]) Try.func87 rfl Try.ntmps87 rfl (St.init w []) ?_
  refine c_seq ?_
  refine c_reg ?_
  refine ow_box (cs := [.slice a5 p0.Totals_.length c6, .slice a7 p0.Cells_.length c8]) rfl rfl rfl rfl rfl rfl (fun _ => kp) (fun b17 => ?_)
  refine ow_box (cs := [.slice a13 p1.Totals_.length c14, .slice a15 p1.Cells_.length c16]) rfl rfl rfl rfl rfl rfl (fun _ => kp) (fun b18 => ?_)
  refine ow_batch [.p] rfl ?_
  refine ow_nil ?_
  refine x_qs ?_
  refine c_seq ?_
  refine c_seq ?_
  refine c_reg ?_
  refine ow_batch [.fa 131 0 0 fa131_0] rfl ?_
  refine ow_r rfl (dstOk_lt rfl) (ry_box1 (off := 0) rfl rfl ty82 (boxIn (i := 0) rfl) rfl) ?_
  refine ow_batch [.fa 131 0 0 fa131_0] rfl ?_
  refine ow_r rfl (dstOk_lt rfl) (ry_box1 (off := 0) rfl rfl ty82 (boxIn (i := 1) rfl) rfl) ?_
  obtain ⟨y19, h20, H⟩ := of_bind H
  refine ow_q rfl rfl (dstOk_lt rfl) (qy_call rfl fn30 rfl (fun w1 hw1 => spec_l5SameInts_ok w1  h20 (rds_bor g3 w1 hw1) (rds_bor g11 w1 hw1))) (fun _ _ => trivial) ?_
  refine ow_batch [.p, .p] rfl ?_
  refine ow_cut [(20, .bool ((!y19) || ((p0.Cells_.length : Int) != (p1.Cells_.length : Int)))), (2, .pointer (some ⟨b17, 0, none⟩)), (3, .pointer (some ⟨b18, 0, none⟩))] 8 ?_ (fun key => OW.sub (R := [(2, .pointer (some ⟨b17, 0, none⟩)), (3, .pointer (some ⟨b18, 0, none⟩)), (12, .bool (!y19))]) ?_ ⟨rfl, rfl, rfl, trivial⟩)
  · refine ow_nil ?_
    refine x_qs ?_
    refine c_if rfl (fun hb => ?_) (fun hb => ?_)
    · have H := of_if_t hb H
      refine c_seq ?_
      refine c_reg ?_
      refine ow_batch [.p] rfl ?_
      refine ow_nil ?_
      refine x_qs ?_
      refine c_ret ?_
      refine x_qs_ret ?_
      exact x_retR (rs := [.tmp 4]) (vs := [.bool false]) rfl ⟨rfl, trivial⟩ (fun w' hw' => by
          obtain rfl := of_some H
          exact ⟨rfl, hw'.ext⟩)
    · have H := of_if_f hb H
      refine c_skip ?_
      refine x_qs ?_
      refine c_seq ?_
      refine c_seq ?_
      refine c_reg ?_
      refine ow_batch [.p] rfl ?_
      refine ow_nil ?_
      refine x_qs ?_
      refine c_block ?_
      refine CW.at (loopI1 (fun (i42 : Int) => St w [] [Res.box b17 131 [.slice a5 p0.Totals_.length c6, .slice a7 p0.Cells_.length c8], Res.box b18 131 [.slice a13 p1.Totals_.length c14, .slice a15 p1.Cells_.length c16]]) (fun (i42 : Int) => [(2, .pointer (some ⟨b17, 0, none⟩)), (3, .pointer (some ⟨b18, 0, none⟩)), (5, .int .i64 i42)]) (fun kk => fun (i42 : Int) => spec_StatsSame_L1 p0 p1 kk i42 = some r) (fun _ H => ?_) (fun k1 ihk1 i42 H => ?_) Fuel (0) (H)) (fun _ h => St.sel [0, 1] rfl rfl h) ⟨rfl, rfl, rfl,  trivial⟩
      · unfold spec_StatsSame_L1 at H
        exact absurd H (by simp)
      · unfold spec_StatsSame_L1 at H
        refine c_seq ?_
        refine c_seq ?_
        refine c_reg ?_
        refine ow_batch [.p, .fa 131 1 1 fa131_1] rfl ?_
        refine ow_r rfl (dstOk_lt rfl) (ry_box1 (off := 1) rfl rfl ty33 (boxIn (i := 0) rfl) rfl) ?_
        refine ow_batch [.lenS 33 82 sl33, .p] rfl ?_
        refine ow_nil ?_
        refine x_qs ?_
        refine c_if rfl (fun hb => ?_) (fun hb => ?_)
        · have H := of_if_t hb H
          refine c_skip ?_
          refine x_qs ?_
          refine c_seq ?_
          refine c_block ?_
          refine c_seq ?_
          refine c_regQ mixed (by kernel_rfl) ?_
          refine ow_batch [.fa 131 1 1 fa131_1] rfl ?_
          refine ow_r rfl (dstOk_lt rfl) (ry_box1 (off := 1) rfl rfl ty33 (boxIn (i := 0) rfl) rfl) ?_
          refine ow_batch [.p] rfl ?_
          obtain ⟨e62, h63, H⟩ := of_bind H
          refine ow_ixB rfl rfl rfl rfl rfl sl33 ty82 rfl g4 h63 (fun q66 c67 hd64 hA65 => ?_)
          obtain ⟨a68, c69, rfl⟩ := rd_sl1 hd64
          refine ow_r rfl (dstOk_lt rfl) (ry_load1 rfl rfl ty82 (at_bor bor hA65)) ?_
          refine ow_batch [.fa 131 1 1 fa131_1] rfl ?_
          refine ow_r rfl (dstOk_lt rfl) (ry_box1 (off := 1) rfl rfl ty33 (boxIn (i := 1) rfl) rfl) ?_
          refine ow_batch [.p] rfl ?_
          obtain ⟨e70, h71, H⟩ := of_bind H
          refine ow_ixB rfl rfl rfl rfl rfl sl33 ty82 rfl g12 h71 (fun q74 c75 hd72 hA73 => ?_)
          obtain ⟨a76, c77, rfl⟩ := rd_sl1 hd72
          refine ow_r rfl (dstOk_lt rfl) (ry_load1 rfl rfl ty82 (at_bor bor hA73)) ?_
          obtain ⟨y78, h79, H⟩ := of_bind H
          refine ow_q rfl rfl (dstOk_lt rfl) (qy_call rfl fn30 rfl (fun w1 hw1 => spec_l5SameInts_ok w1  h79 (rds_bor hd64 w1 hw1) (rds_bor hd72 w1 hw1))) (fun _ _ => trivial) ?_
          refine ow_batch [.p] rfl ?_
          refine ow_nilQ ?_
          refine x_qs ?_
          refine c_if rfl (fun hb => ?_) (fun hb => ?_)
          · have H := of_if_t hb H
            refine c_seq ?_
            refine c_reg ?_
            refine ow_batch [.p] rfl ?_
            refine ow_nil ?_
            refine x_qs ?_
            refine c_ret ?_
            refine x_qb_ret ?_
            refine x_qs_ret ?_
            refine x_ql_ret ?_
            refine x_qb_ret ?_
            refine x_qs_ret ?_
            exact x_retR (rs := [.tmp 4]) (vs := [.bool false]) rfl ⟨rfl, trivial⟩ (fun w' hw' => by
                obtain rfl := of_some H
                exact ⟨rfl, hw'.ext⟩)
          · have H := of_if_f hb H
            refine c_skip ?_
            refine x_qb ?_
            refine x_qs ?_
            refine c_reg ?_
            refine ow_batch [.p, .p, .p] rfl ?_
            refine ow_nil ?_
            exact x_ql (RW.at (ihk1 (IntKind.i64.wrap (i42 + 1)) (H)) (fun _ h => St.sel [0, 1] rfl rfl h) ⟨rfl, rfl, rfl, trivial⟩)
        · have H := of_if_f hb H
          refine c_exit ?_
          refine x_qs_exit ?_
          refine x_ql_exit ?_
          refine x_qb_here ?_
          refine x_qs ?_
          refine c_seq ?_
          refine c_reg ?_
          refine ow_batch [.p] rfl ?_
          refine ow_nil ?_
          refine x_qs ?_
          refine c_ret ?_
          exact x_retR (rs := [.tmp 4]) (vs := [.bool true]) rfl ⟨rfl, trivial⟩ (fun w' hw' => by
              obtain rfl := of_some H
              exact ⟨rfl, hw'.ext⟩)
  · generalize (!y19) = t22 at key ⊢
    cases t22
    · refine ow_batch [.fa 131 1 1 fa131_1] rfl ?_
      refine ow_r rfl (dstOk_lt rfl) (ry_box1 (off := 1) rfl rfl ty33 (boxIn (i := 0) rfl) rfl) ?_
      refine ow_batch [.lenS 33 82 sl33, .fa 131 1 1 fa131_1] rfl ?_
      refine ow_r rfl (dstOk_lt rfl) (ry_box1 (off := 1) rfl rfl ty33 (boxIn (i := 1) rfl) rfl) ?_
      refine ow_batch [.lenS 33 82 sl33, .p] rfl ?_
      refine ow_batch [.p] rfl ?_
      exact OW.sub key ⟨rfl, rfl, rfl, trivial⟩
    · refine ow_batch [.p, .p, .p, .p, .p, .p, .p, .p] rfl ?_
      exact OW.sub key ⟨rfl, rfl, rfl, trivial⟩

set_option maxHeartbeats 4000000 in
set_option maxRecDepth 100000 in
theorem spec_NodeSame_ok (w : World) {p0 : Timpl_Node} {p1 : Timpl_Node} {cs0 : List Value} {cs1 : List Value} {r : Bool} (H : spec_NodeSame p0 p1 = some r)  (g0 : (eTimpl_Node).rd w [] p0 cs0) (g1 : (eTimpl_Node).rd w [] p1 cs1) :
    Calls Try.prog 74 #[.agg cs0.toArray, .agg cs1.toArray] w (fun en w' => en = .returned (.bool r) ∧ Ext [] w w') := by
  obtain ⟨c1, c2, c3, c4, c5, c6, c7, c8, c9, c10, rfl, g11, g12, g13, g14, g15, g16, g17, g18, g19, g20⟩ := rdo_Timpl_Node g0
  obtain rfl : c1 = [.bool p0.Leaf_] := g11
  obtain rfl : c2 = [.int .i64 p0.Fork_.Attr_, .int .i64 p0.Fork_.At_] := g12
  obtain ⟨a21, c22, rfl⟩ := rd_sl1 g13
  obtain rfl : c4 = [.int .i64 p0.Miss_] := g14
  obtain ⟨c23, c24, rfl, g25, g26⟩ := rdo_Timpl_Stats g15
  obtain ⟨a27, c28, rfl⟩ := rd_sl1 g25
  obtain ⟨a29, c30, rfl⟩ := rd_sl1 g26
  obtain rfl : c6 = [.int .i64 p0.Since_] := g16
  obtain ⟨a31, c32, rfl⟩ := rd_sl1 g17
  obtain rfl : c8 = [.int .i64 p0.Depth_] := g18
  obtain rfl : c9 = [.int .i64 p0.Up_] := g19
  obtain rfl : c10 = [.int .i64 p0.Born_] := g20
  obtain ⟨c33, c34, c35, c36, c37, c38, c39, c40, c41, c42, rfl, g43, g44, g45, g46, g47, g48, g49, g50, g51, g52⟩ := rdo_Timpl_Node g1
  obtain rfl : c33 = [.bool p1.Leaf_] := g43
  obtain rfl : c34 = [.int .i64 p1.Fork_.Attr_, .int .i64 p1.Fork_.At_] := g44
  obtain ⟨a53, c54, rfl⟩ := rd_sl1 g45
  obtain rfl : c36 = [.int .i64 p1.Miss_] := g46
  obtain ⟨c55, c56, rfl, g57, g58⟩ := rdo_Timpl_Stats g47
  obtain ⟨a59, c60, rfl⟩ := rd_sl1 g57
  obtain ⟨a61, c62, rfl⟩ := rd_sl1 g58
  obtain rfl : c38 = [.int .i64 p1.Since_] := g48
  obtain ⟨a63, c64, rfl⟩ := rd_sl1 g49
  obtain rfl : c40 = [.int .i64 p1.Depth_] := g50
  obtain rfl : c41 = [.int .i64 p1.Up_] := g51
  obtain rfl : c42 = [.int .i64 p1.Born_] := g52
  unfold spec_NodeSame at H
  refine f_enter (vs := [.agg #[.bool p0.Leaf_, .int .i64 p0.Fork_.Attr_, .int .i64 p0.Fork_.At_, .slice a21 p0.Kids_.length c22, .int .i64 p0.Miss_, .slice a27 p0.Stats_.Totals_.length c28, .slice a29 p0.Stats_.Cells_.length c30, .int .i64 p0.Since_, .slice a31 p0.Attrs_.length c32, .int .i64 p0.Depth_, .int .i64 p0.Up_, .int .i64 p0.Born_], .agg #[.bool p1.Leaf_, .int .i64 p1.Fork_.Attr_, .int .i64 p1.Fork_.At_, .slice a53 p1.Kids_.length c54, .int .i64 p1.Miss_, .slice a59 p1.Stats_.Totals_.length c60, .slice a61 p1.Stats_.Cells_.length c62, .int .i64 p1.Since_, .slice a63 p1.Attrs_.length c64, .int .i64 p1.Depth_, .int .i64 p1.Up_, .int .i64 p1.Born_]]) Try.func74 rfl Try.ntmps74 rfl (St.init w []) ?_
  refine c_seq ?_
  refine c_reg ?_
  refine ow_box (cs := [.bool p0.Leaf_, .int .i64 p0.Fork_.Attr_, .int .i64 p0.Fork_.At_, .slice a21 p0.Kids_.length c22, .int .i64 p0.Miss_, .slice a27 p0.Stats_.Totals_.length c28, .slice a29 p0.Stats_.Cells_.length c30, .int .i64 p0.Since_, .slice a31 p0.Attrs_.length c32, .int .i64 p0.Depth_, .int .i64 p0.Up_, .int .i64 p0.Born_]) rfl rfl rfl rfl rfl rfl (fun _ => kp) (fun b65 => ?_)
  refine ow_box (cs := [.bool p1.Leaf_, .int .i64 p1.Fork_.Attr_, .int .i64 p1.Fork_.At_, .slice a53 p1.Kids_.length c54, .int .i64 p1.Miss_, .slice a59 p1.Stats_.Totals_.length c60, .slice a61 p1.Stats_.Cells_.length c62, .int .i64 p1.Since_, .slice a63 p1.Attrs_.length c64, .int .i64 p1.Depth_, .int .i64 p1.Up_, .int .i64 p1.Born_]) rfl rfl rfl rfl rfl rfl (fun _ => kp) (fun b66 => ?_)
  refine ow_batch [.p] rfl ?_
  refine ow_nil ?_
  refine x_qs ?_
  refine c_seq ?_
  refine c_reg ?_
  refine ow_batch [.fa 133 0 0 fa133_0] rfl ?_
  refine ow_r rfl (dstOk_lt rfl) (ry_box1 (off := 0) rfl rfl ty4 (boxIn (i := 0) rfl) rfl) ?_
  refine ow_batch [.fa 133 0 0 fa133_0] rfl ?_
  refine ow_r rfl (dstOk_lt rfl) (ry_box1 (off := 0) rfl rfl ty4 (boxIn (i := 1) rfl) rfl) ?_
  refine ow_r rfl (dstOk_lt rfl) (ry_beql rfl rfl rfl bl4) ?_
  refine ow_batch [.p] rfl ?_
  refine ow_cut [(16, .bool ((p0.Leaf_ == p1.Leaf_) && (p0.Fork_.Attr_ == p1.Fork_.Attr_ && (p0.Fork_.At_ == p1.Fork_.At_ && true)))), (2, .pointer (some ⟨b65, 0, none⟩)), (3, .pointer (some ⟨b66, 0, none⟩)), (4, .bool false)] 6 ?_ (fun key => OW.sub (R := [(2, .pointer (some ⟨b65, 0, none⟩)), (3, .pointer (some ⟨b66, 0, none⟩)), (4, .bool false), (10, .bool (p0.Leaf_ == p1.Leaf_))]) ?_ ⟨rfl, rfl, rfl, rfl, trivial⟩)
  · refine ow_batch [.p] rfl ?_
    obtain ⟨u69, hu73, H⟩ := of_bind H
    refine ow_cut [(23, .bool u69), (2, .pointer (some ⟨b65, 0, none⟩)), (3, .pointer (some ⟨b66, 0, none⟩)), (4, .bool false)] 6 ?_ (fun key => OW.sub (R := [(2, .pointer (some ⟨b65, 0, none⟩)), (3, .pointer (some ⟨b66, 0, none⟩)), (4, .bool false), (17, .bool ((p0.Leaf_ == p1.Leaf_) && (p0.Fork_.Attr_ == p1.Fork_.Attr_ && (p0.Fork_.At_ == p1.Fork_.At_ && true))))]) ?_ ⟨rfl, rfl, rfl, rfl, trivial⟩)
    · refine ow_batch [.p] rfl ?_
      refine ow_cut [(30, .bool (u69 && (p0.Miss_ == p1.Miss_))), (2, .pointer (some ⟨b65, 0, none⟩)), (3, .pointer (some ⟨b66, 0, none⟩)), (4, .bool false)] 6 ?_ (fun key => OW.sub (R := [(2, .pointer (some ⟨b65, 0, none⟩)), (3, .pointer (some ⟨b66, 0, none⟩)), (4, .bool false), (24, .bool u69)]) ?_ ⟨rfl, rfl, rfl, rfl, trivial⟩)
      · refine ow_batch [.p] rfl ?_
        obtain ⟨u76, hu80, H⟩ := of_bind H
        refine ow_cut [(37, .bool u76), (2, .pointer (some ⟨b65, 0, none⟩)), (3, .pointer (some ⟨b66, 0, none⟩)), (4, .bool false)] 6 ?_ (fun key => OW.sub (R := [(2, .pointer (some ⟨b65, 0, none⟩)), (3, .pointer (some ⟨b66, 0, none⟩)), (4, .bool false), (31, .bool (u69 && (p0.Miss_ == p1.Miss_)))]) ?_ ⟨rfl, rfl, rfl, rfl, trivial⟩)
        · refine ow_batch [.p] rfl ?_
          refine ow_cut [(44, .bool (u76 && (p0.Since_ == p1.Since_))), (2, .pointer (some ⟨b65, 0, none⟩)), (3, .pointer (some ⟨b66, 0, none⟩)), (4, .bool false)] 6 ?_ (fun key => OW.sub (R := [(2, .pointer (some ⟨b65, 0, none⟩)), (3, .pointer (some ⟨b66, 0, none⟩)), (4, .bool false), (38, .bool u76)]) ?_ ⟨rfl, rfl, rfl, rfl, trivial⟩)
          · refine ow_batch [.p] rfl ?_
            obtain ⟨u83, hu87, H⟩ := of_bind H
            refine ow_cut [(51, .bool u83), (2, .pointer (some ⟨b65, 0, none⟩)), (3, .pointer (some ⟨b66, 0, none⟩)), (4, .bool false)] 6 ?_ (fun key => OW.sub (R := [(2, .pointer (some ⟨b65, 0, none⟩)), (3, .pointer (some ⟨b66, 0, none⟩)), (4, .bool false), (45, .bool (u76 && (p0.Since_ == p1.Since_)))]) ?_ ⟨rfl, rfl, rfl, rfl, trivial⟩)
            · refine ow_batch [.p] rfl ?_
              refine ow_cut [(58, .bool (u83 && (p0.Depth_ == p1.Depth_))), (2, .pointer (some ⟨b65, 0, none⟩)), (3, .pointer (some ⟨b66, 0, none⟩)), (4, .bool false)] 6 ?_ (fun key => OW.sub (R := [(2, .pointer (some ⟨b65, 0, none⟩)), (3, .pointer (some ⟨b66, 0, none⟩)), (4, .bool false), (52, .bool u83)]) ?_ ⟨rfl, rfl, rfl, rfl, trivial⟩)
              · refine ow_batch [.p] rfl ?_
                refine ow_cut [(65, .bool ((u83 && (p0.Depth_ == p1.Depth_)) && (p0.Up_ == p1.Up_))), (2, .pointer (some ⟨b65, 0, none⟩)), (3, .pointer (some ⟨b66, 0, none⟩)), (4, .bool false)] 6 ?_ (fun key => OW.sub (R := [(2, .pointer (some ⟨b65, 0, none⟩)), (3, .pointer (some ⟨b66, 0, none⟩)), (4, .bool false), (59, .bool (u83 && (p0.Depth_ == p1.Depth_)))]) ?_ ⟨rfl, rfl, rfl, rfl, trivial⟩)
                · refine ow_batch [.p] rfl ?_
                  refine ow_cut [(72, .bool (((u83 && (p0.Depth_ == p1.Depth_)) && (p0.Up_ == p1.Up_)) && (p0.Born_ == p1.Born_))), (4, .bool false)] 6 ?_ (fun key => OW.sub (R := [(2, .pointer (some ⟨b65, 0, none⟩)), (3, .pointer (some ⟨b66, 0, none⟩)), (4, .bool false), (66, .bool ((u83 && (p0.Depth_ == p1.Depth_)) && (p0.Up_ == p1.Up_)))]) ?_ ⟨rfl, rfl, rfl, rfl, trivial⟩)
                  · refine ow_batch [.p] rfl ?_
                    refine ow_nil ?_
                    refine x_qs ?_
                    refine c_ret ?_
                    exact x_retR (rs := [.tmp 4]) (vs := [.bool (((u83 && (p0.Depth_ == p1.Depth_)) && (p0.Up_ == p1.Up_)) && (p0.Born_ == p1.Born_))]) rfl ⟨rfl, trivial⟩ (fun w' hw' => by
                        obtain rfl := of_some H
                        exact ⟨rfl, hw'.ext⟩)
                  · generalize ((u83 && (p0.Depth_ == p1.Depth_)) && (p0.Up_ == p1.Up_)) = t93 at key ⊢
                    cases t93
                    · refine ow_batch [.p, .p, .p, .p, .p, .p] rfl ?_
                      exact OW.sub key ⟨rfl, rfl, trivial⟩
                    · refine ow_batch [.fa 133 9 11 fa133_9] rfl ?_
                      refine ow_r rfl (dstOk_lt rfl) (ry_box1 (off := 11) rfl rfl ty3 (boxIn (i := 0) rfl) rfl) ?_
                      refine ow_batch [.fa 133 9 11 fa133_9] rfl ?_
                      refine ow_r rfl (dstOk_lt rfl) (ry_box1 (off := 11) rfl rfl ty3 (boxIn (i := 1) rfl) rfl) ?_
                      refine ow_batch [.p] rfl ?_
                      refine ow_batch [.p] rfl ?_
                      exact OW.sub key ⟨rfl, rfl, trivial⟩
                · generalize (u83 && (p0.Depth_ == p1.Depth_)) = t91 at key ⊢
                  cases t91
                  · refine ow_batch [.p, .p, .p, .p, .p, .p] rfl ?_
                    exact OW.sub key ⟨rfl, rfl, rfl, rfl, trivial⟩
                  · refine ow_batch [.fa 133 8 10 fa133_8] rfl ?_
                    refine ow_r rfl (dstOk_lt rfl) (ry_box1 (off := 10) rfl rfl ty3 (boxIn (i := 0) rfl) rfl) ?_
                    refine ow_batch [.fa 133 8 10 fa133_8] rfl ?_
                    refine ow_r rfl (dstOk_lt rfl) (ry_box1 (off := 10) rfl rfl ty3 (boxIn (i := 1) rfl) rfl) ?_
                    refine ow_batch [.p] rfl ?_
                    refine ow_batch [.p] rfl ?_
                    exact OW.sub key ⟨rfl, rfl, rfl, rfl, trivial⟩
              · generalize u83 = t89 at key ⊢
                cases t89
                · refine ow_batch [.p, .p, .p, .p, .p, .p] rfl ?_
                  exact OW.sub key ⟨rfl, rfl, rfl, rfl, trivial⟩
                · refine ow_batch [.fa 133 7 9 fa133_7] rfl ?_
                  refine ow_r rfl (dstOk_lt rfl) (ry_box1 (off := 9) rfl rfl ty3 (boxIn (i := 0) rfl) rfl) ?_
                  refine ow_batch [.fa 133 7 9 fa133_7] rfl ?_
                  refine ow_r rfl (dstOk_lt rfl) (ry_box1 (off := 9) rfl rfl ty3 (boxIn (i := 1) rfl) rfl) ?_
                  refine ow_batch [.p] rfl ?_
                  refine ow_batch [.p] rfl ?_
                  exact OW.sub key ⟨rfl, rfl, rfl, rfl, trivial⟩
            · clear H
              have H := hu87
              clear hu87
              generalize (u76 && (p0.Since_ == p1.Since_)) = t86 at H ⊢
              cases t86
              · have H := of_if_f rfl H
                refine ow_batch [.p, .p, .p, .p, .p, .p] rfl ?_
                obtain rfl := of_some H
                exact OW.sub key ⟨rfl, rfl, rfl, rfl, trivial⟩
              · have H := of_if_t rfl H
                refine ow_batch [.fa 133 6 8 fa133_6] rfl ?_
                refine ow_r rfl (dstOk_lt rfl) (ry_box1 (off := 8) rfl rfl ty82 (boxIn (i := 0) rfl) rfl) ?_
                refine ow_batch [.fa 133 6 8 fa133_6] rfl ?_
                refine ow_r rfl (dstOk_lt rfl) (ry_box1 (off := 8) rfl rfl ty82 (boxIn (i := 1) rfl) rfl) ?_
                obtain ⟨y84, h85, H⟩ := of_bind H
                refine ow_q rfl rfl (dstOk_lt rfl) (qy_call rfl fn30 rfl (fun w1 hw1 => spec_l5SameInts_ok w1  h85 (rds_bor g17 w1 hw1) (rds_bor g49 w1 hw1))) (fun _ _ => trivial) ?_
                refine ow_batch [.p] rfl ?_
                obtain rfl := of_some H
                exact OW.sub key ⟨rfl, rfl, rfl, rfl, trivial⟩
          · generalize u76 = t82 at key ⊢
            cases t82
            · refine ow_batch [.p, .p, .p, .p, .p, .p] rfl ?_
              exact OW.sub key ⟨rfl, rfl, rfl, rfl, trivial⟩
            · refine ow_batch [.fa 133 5 7 fa133_5] rfl ?_
              refine ow_r rfl (dstOk_lt rfl) (ry_box1 (off := 7) rfl rfl ty3 (boxIn (i := 0) rfl) rfl) ?_
              refine ow_batch [.fa 133 5 7 fa133_5] rfl ?_
              refine ow_r rfl (dstOk_lt rfl) (ry_box1 (off := 7) rfl rfl ty3 (boxIn (i := 1) rfl) rfl) ?_
              refine ow_batch [.p] rfl ?_
              refine ow_batch [.p] rfl ?_
              exact OW.sub key ⟨rfl, rfl, rfl, rfl, trivial⟩
        · clear H
          have H := hu80
          clear hu80
          generalize (u69 && (p0.Miss_ == p1.Miss_)) = t79 at H ⊢
          cases t79
          · have H := of_if_f rfl H
            refine ow_batch [.p, .p, .p, .p, .p, .p] rfl ?_
            obtain rfl := of_some H
            exact OW.sub key ⟨rfl, rfl, rfl, rfl, trivial⟩
          · have H := of_if_t rfl H
            refine ow_batch [.fa 133 4 5 fa133_4] rfl ?_
            refine ow_r rfl (dstOk_lt rfl) (ry_box (off := 5) (ds := [.slice a27 p0.Stats_.Totals_.length c28, .slice a29 p0.Stats_.Cells_.length c30]) rfl rfl ty131 (boxIn (i := 0) rfl) rfl rfl) ?_
            refine ow_batch [.fa 133 4 5 fa133_4] rfl ?_
            refine ow_r rfl (dstOk_lt rfl) (ry_box (off := 5) (ds := [.slice a59 p1.Stats_.Totals_.length c60, .slice a61 p1.Stats_.Cells_.length c62]) rfl rfl ty131 (boxIn (i := 1) rfl) rfl rfl) ?_
            obtain ⟨y77, h78, H⟩ := of_bind H
            refine ow_q rfl rfl (dstOk_lt rfl) (qy_call rfl fn87 rfl (fun w1 hw1 => spec_StatsSame_ok w1 (cs0 := [.slice a27 p0.Stats_.Totals_.length c28, .slice a29 p0.Stats_.Cells_.length c30]) (cs1 := [.slice a59 p1.Stats_.Totals_.length c60, .slice a61 p1.Stats_.Cells_.length c62]) h78 (rdm_Timpl_Stats (x := p0.Stats_) (c0 := [.slice a27 p0.Stats_.Totals_.length c28]) (c1 := [.slice a29 p0.Stats_.Cells_.length c30]) (rds_bor g25 w1 hw1) (rds_bor g26 w1 hw1)) (rdm_Timpl_Stats (x := p1.Stats_) (c0 := [.slice a59 p1.Stats_.Totals_.length c60]) (c1 := [.slice a61 p1.Stats_.Cells_.length c62]) (rds_bor g57 w1 hw1) (rds_bor g58 w1 hw1)))) (fun _ _ => trivial) ?_
            refine ow_batch [.p] rfl ?_
            obtain rfl := of_some H
            exact OW.sub key ⟨rfl, rfl, rfl, rfl, trivial⟩
      · generalize u69 = t75 at key ⊢
        cases t75
        · refine ow_batch [.p, .p, .p, .p, .p, .p] rfl ?_
          exact OW.sub key ⟨rfl, rfl, rfl, rfl, trivial⟩
        · refine ow_batch [.fa 133 3 4 fa133_3] rfl ?_
          refine ow_r rfl (dstOk_lt rfl) (ry_box1 (off := 4) rfl rfl ty3 (boxIn (i := 0) rfl) rfl) ?_
          refine ow_batch [.fa 133 3 4 fa133_3] rfl ?_
          refine ow_r rfl (dstOk_lt rfl) (ry_box1 (off := 4) rfl rfl ty3 (boxIn (i := 1) rfl) rfl) ?_
          refine ow_batch [.p] rfl ?_
          refine ow_batch [.p] rfl ?_
          exact OW.sub key ⟨rfl, rfl, rfl, rfl, trivial⟩
    · clear H
      have H := hu73
      clear hu73
      generalize ((p0.Leaf_ == p1.Leaf_) && (p0.Fork_.Attr_ == p1.Fork_.Attr_ && (p0.Fork_.At_ == p1.Fork_.At_ && true))) = t72 at H ⊢
      cases t72
      · have H := of_if_f rfl H
        refine ow_batch [.p, .p, .p, .p, .p, .p] rfl ?_
        obtain rfl := of_some H
        exact OW.sub key ⟨rfl, rfl, rfl, rfl, trivial⟩
      · have H := of_if_t rfl H
        refine ow_batch [.fa 133 2 3 fa133_2] rfl ?_
        refine ow_r rfl (dstOk_lt rfl) (ry_box1 (off := 3) rfl rfl ty82 (boxIn (i := 0) rfl) rfl) ?_
        refine ow_batch [.fa 133 2 3 fa133_2] rfl ?_
        refine ow_r rfl (dstOk_lt rfl) (ry_box1 (off := 3) rfl rfl ty82 (boxIn (i := 1) rfl) rfl) ?_
        obtain ⟨y70, h71, H⟩ := of_bind H
        refine ow_q rfl rfl (dstOk_lt rfl) (qy_call rfl fn30 rfl (fun w1 hw1 => spec_l5SameInts_ok w1  h71 (rds_bor g13 w1 hw1) (rds_bor g45 w1 hw1))) (fun _ _ => trivial) ?_
        refine ow_batch [.p] rfl ?_
        obtain rfl := of_some H
        exact OW.sub key ⟨rfl, rfl, rfl, rfl, trivial⟩
  · generalize (p0.Leaf_ == p1.Leaf_) = t68 at key ⊢
    cases t68
    · refine ow_batch [.p, .p, .p, .p, .p, .p] rfl ?_
      exact OW.sub key ⟨rfl, rfl, rfl, rfl, trivial⟩
    · refine ow_batch [.fa 133 1 1 fa133_1] rfl ?_
      refine ow_r rfl (dstOk_lt rfl) (ry_box (off := 1) (ds := [.int .i64 p0.Fork_.Attr_, .int .i64 p0.Fork_.At_]) rfl rfl ty129 (boxIn (i := 0) rfl) rfl rfl) ?_
      refine ow_batch [.fa 133 1 1 fa133_1] rfl ?_
      refine ow_r rfl (dstOk_lt rfl) (ry_box (off := 1) (ds := [.int .i64 p1.Fork_.Attr_, .int .i64 p1.Fork_.At_]) rfl rfl ty129 (boxIn (i := 1) rfl) rfl rfl) ?_
      refine ow_r rfl (dstOk_lt rfl) (ry_seql (xs := [.int .i64 p0.Fork_.Attr_, .int .i64 p0.Fork_.At_]) (ys := [.int .i64 p1.Fork_.Attr_, .int .i64 p1.Fork_.At_]) rfl rfl rfl (se129 p0.Fork_.Attr_ p1.Fork_.Attr_ p0.Fork_.At_ p1.Fork_.At_)) ?_
      refine ow_batch [.p] rfl ?_
      exact OW.sub key ⟨rfl, rfl, rfl, rfl, trivial⟩

set_option maxHeartbeats 4000000 in
set_option maxRecDepth 100000 in
theorem spec_TreeSame_ok (w : World) {p0 : Timpl_Tree} {p1 : Timpl_Tree} {cs0 : List Value} {cs1 : List Value} {r : Bool} (H : spec_TreeSame p0 p1 = some r)  (g0 : (eTimpl_Tree).rd w [] p0 cs0) (g1 : (eTimpl_Tree).rd w [] p1 cs1) :
    Calls Try.prog 51 #[.agg cs0.toArray, .agg cs1.toArray] w (fun en w' => en = .returned (.bool r) ∧ Ext [] w w') := by
  obtain ⟨c1, c2, rfl, g3, g4⟩ := rdo_Timpl_Tree g0
  obtain ⟨a5, c6, rfl⟩ := rd_sl1 g3
  obtain rfl : c2 = [.int .i64 p0.Seen_] := g4
  obtain ⟨c7, c8, rfl, g9, g10⟩ := rdo_Timpl_Tree g1
  obtain ⟨a11, c12, rfl⟩ := rd_sl1 g9
  obtain rfl : c8 = [.int .i64 p1.Seen_] := g10
  unfold spec_TreeSame at H
  refine f_enter (vs := [.agg #[.slice a5 p0.Nodes_.length c6, .int .i64 p0.Seen_], .agg #[.slice a11 p1.Nodes_.length c12, .int .i64 p1.Seen_]]) Try.func51 rfl Try.ntmps51 rfl (St.init w []) ?_
  refine c_seq ?_
  refine c_reg ?_
  refine ow_box (cs := [.slice a5 p0.Nodes_.length c6, .int .i64 p0.Seen_]) rfl rfl rfl rfl rfl rfl (fun _ => kp) (fun b13 => ?_)
  refine ow_box (cs := [.slice a11 p1.Nodes_.length c12, .int .i64 p1.Seen_]) rfl rfl rfl rfl rfl rfl (fun _ => kp) (fun b14 => ?_)
  refine ow_batch [.p] rfl ?_
  refine ow_nil ?_
  refine x_qs ?_
  refine c_seq ?_
  refine c_seq ?_
  refine c_reg ?_
  refine ow_batch [.fa 74 0 0 fa74_0] rfl ?_
  refine ow_r rfl (dstOk_lt rfl) (ry_box1 (off := 0) rfl rfl ty72 (boxIn (i := 0) rfl) rfl) ?_
  refine ow_batch [.lenS 72 133 sl72, .fa 74 0 0 fa74_0] rfl ?_
  refine ow_r rfl (dstOk_lt rfl) (ry_box1 (off := 0) rfl rfl ty72 (boxIn (i := 1) rfl) rfl) ?_
  refine ow_batch [.lenS 72 133 sl72, .p, .p] rfl ?_
  refine ow_cut [(19, .bool (((p0.Nodes_.length : Int) != (p1.Nodes_.length : Int)) || (p0.Seen_ != p1.Seen_))), (2, .pointer (some ⟨b13, 0, none⟩)), (3, .pointer (some ⟨b14, 0, none⟩))] 6 ?_ (fun key => OW.sub (R := [(2, .pointer (some ⟨b13, 0, none⟩)), (3, .pointer (some ⟨b14, 0, none⟩)), (13, .bool ((p0.Nodes_.length : Int) != (p1.Nodes_.length : Int)))]) ?_ ⟨rfl, rfl, rfl, trivial⟩)
  · refine ow_nil ?_
    refine x_qs ?_
    refine c_if rfl (fun hb => ?_) (fun hb => ?_)
    · have H := of_if_t hb H
      refine c_seq ?_
      refine c_reg ?_
      refine ow_batch [.p] rfl ?_
      refine ow_nil ?_
      refine x_qs ?_
      refine c_ret ?_
      refine x_qs_ret ?_
      exact x_retR (rs := [.tmp 4]) (vs := [.bool false]) rfl ⟨rfl, trivial⟩ (fun w' hw' => by
          obtain rfl := of_some H
          exact ⟨rfl, hw'.ext⟩)
    · have H := of_if_f hb H
      refine c_skip ?_
      refine x_qs ?_
      refine c_seq ?_
      refine c_seq ?_
      refine c_reg ?_
      refine ow_batch [.p] rfl ?_
      refine ow_nil ?_
      refine x_qs ?_
      refine c_block ?_
      refine CW.at (loopI1 (fun (i96 : Int) => St w [] [Res.box b13 74 [.slice a5 p0.Nodes_.length c6, .int .i64 p0.Seen_], Res.box b14 74 [.slice a11 p1.Nodes_.length c12, .int .i64 p1.Seen_]]) (fun (i96 : Int) => [(2, .pointer (some ⟨b13, 0, none⟩)), (3, .pointer (some ⟨b14, 0, none⟩)), (5, .int .i64 i96)]) (fun kk => fun (i96 : Int) => spec_TreeSame_L1 p0 p1 kk i96 = some r) (fun _ H => ?_) (fun k1 ihk1 i96 H => ?_) Fuel (0) (H)) (fun _ h => St.sel [0, 1] rfl rfl h) ⟨rfl, rfl, rfl,  trivial⟩
      · unfold spec_TreeSame_L1 at H
        exact absurd H (by simp)
      · unfold spec_TreeSame_L1 at H
        refine c_seq ?_
        refine c_seq ?_
        refine c_reg ?_
        refine ow_batch [.p, .fa 74 0 0 fa74_0] rfl ?_
        refine ow_r rfl (dstOk_lt rfl) (ry_box1 (off := 0) rfl rfl ty72 (boxIn (i := 0) rfl) rfl) ?_
        refine ow_batch [.lenS 72 133 sl72, .p] rfl ?_
        refine ow_nil ?_
        refine x_qs ?_
        refine c_if rfl (fun hb => ?_) (fun hb => ?_)
        · have H := of_if_t hb H
          refine c_skip ?_
          refine x_qs ?_
          refine c_seq ?_
          refine c_block ?_
          refine c_seq ?_
          refine c_regQ mixed (by kernel_rfl) ?_
          refine ow_batch [.fa 74 0 0 fa74_0] rfl ?_
          refine ow_r rfl (dstOk_lt rfl) (ry_box1 (off := 0) rfl rfl ty72 (boxIn (i := 0) rfl) rfl) ?_
          refine ow_batch [.p] rfl ?_
          obtain ⟨e176, h177, H⟩ := of_bind H
          refine ow_ixB rfl rfl rfl rfl rfl sl72 ty133 rfl g3 h177 (fun q180 c181 hd178 hA179 => ?_)
          obtain ⟨c182, c183, c184, c185, c186, c187, c188, c189, c190, c191, rfl, g192, g193, g194, g195, g196, g197, g198, g199, g200, g201⟩ := rdo_Timpl_Node hd178
          obtain rfl : c182 = [.bool e176.Leaf_] := g192
          obtain rfl : c183 = [.int .i64 e176.Fork_.Attr_, .int .i64 e176.Fork_.At_] := g193
          obtain ⟨a202, c203, rfl⟩ := rd_sl1 g194
          obtain rfl : c185 = [.int .i64 e176.Miss_] := g195
          obtain ⟨c204, c205, rfl, g206, g207⟩ := rdo_Timpl_Stats g196
          obtain ⟨a208, c209, rfl⟩ := rd_sl1 g206
          obtain ⟨a210, c211, rfl⟩ := rd_sl1 g207
          obtain rfl : c187 = [.int .i64 e176.Since_] := g197
          obtain ⟨a212, c213, rfl⟩ := rd_sl1 g198
          obtain rfl : c189 = [.int .i64 e176.Depth_] := g199
          obtain rfl : c190 = [.int .i64 e176.Up_] := g200
          obtain rfl : c191 = [.int .i64 e176.Born_] := g201
          refine ow_r rfl (dstOk_lt rfl) (ry_load (cs := [.bool e176.Leaf_, .int .i64 e176.Fork_.Attr_, .int .i64 e176.Fork_.At_, .slice a202 e176.Kids_.length c203, .int .i64 e176.Miss_, .slice a208 e176.Stats_.Totals_.length c209, .slice a210 e176.Stats_.Cells_.length c211, .int .i64 e176.Since_, .slice a212 e176.Attrs_.length c213, .int .i64 e176.Depth_, .int .i64 e176.Up_, .int .i64 e176.Born_]) rfl rfl ty133 (at_bor bor hA179) rfl) ?_
          refine ow_batch [.fa 74 0 0 fa74_0] rfl ?_
          refine ow_r rfl (dstOk_lt rfl) (ry_box1 (off := 0) rfl rfl ty72 (boxIn (i := 1) rfl) rfl) ?_
          refine ow_batch [.p] rfl ?_
          obtain ⟨e214, h215, H⟩ := of_bind H
          refine ow_ixB rfl rfl rfl rfl rfl sl72 ty133 rfl g9 h215 (fun q218 c219 hd216 hA217 => ?_)
          obtain ⟨c220, c221, c222, c223, c224, c225, c226, c227, c228, c229, rfl, g230, g231, g232, g233, g234, g235, g236, g237, g238, g239⟩ := rdo_Timpl_Node hd216
          obtain rfl : c220 = [.bool e214.Leaf_] := g230
          obtain rfl : c221 = [.int .i64 e214.Fork_.Attr_, .int .i64 e214.Fork_.At_] := g231
          obtain ⟨a240, c241, rfl⟩ := rd_sl1 g232
          obtain rfl : c223 = [.int .i64 e214.Miss_] := g233
          obtain ⟨c242, c243, rfl, g244, g245⟩ := rdo_Timpl_Stats g234
          obtain ⟨a246, c247, rfl⟩ := rd_sl1 g244
          obtain ⟨a248, c249, rfl⟩ := rd_sl1 g245
          obtain rfl : c225 = [.int .i64 e214.Since_] := g235
          obtain ⟨a250, c251, rfl⟩ := rd_sl1 g236
          obtain rfl : c227 = [.int .i64 e214.Depth_] := g237
          obtain rfl : c228 = [.int .i64 e214.Up_] := g238
          obtain rfl : c229 = [.int .i64 e214.Born_] := g239
          refine ow_r rfl (dstOk_lt rfl) (ry_load (cs := [.bool e214.Leaf_, .int .i64 e214.Fork_.Attr_, .int .i64 e214.Fork_.At_, .slice a240 e214.Kids_.length c241, .int .i64 e214.Miss_, .slice a246 e214.Stats_.Totals_.length c247, .slice a248 e214.Stats_.Cells_.length c249, .int .i64 e214.Since_, .slice a250 e214.Attrs_.length c251, .int .i64 e214.Depth_, .int .i64 e214.Up_, .int .i64 e214.Born_]) rfl rfl ty133 (at_bor bor hA217) rfl) ?_
          obtain ⟨y252, h253, H⟩ := of_bind H
          refine ow_q rfl rfl (dstOk_lt rfl) (qy_call rfl fn74 rfl (fun w1 hw1 => spec_NodeSame_ok w1 (cs0 := [.bool e176.Leaf_, .int .i64 e176.Fork_.Attr_, .int .i64 e176.Fork_.At_, .slice a202 e176.Kids_.length c203, .int .i64 e176.Miss_, .slice a208 e176.Stats_.Totals_.length c209, .slice a210 e176.Stats_.Cells_.length c211, .int .i64 e176.Since_, .slice a212 e176.Attrs_.length c213, .int .i64 e176.Depth_, .int .i64 e176.Up_, .int .i64 e176.Born_]) (cs1 := [.bool e214.Leaf_, .int .i64 e214.Fork_.Attr_, .int .i64 e214.Fork_.At_, .slice a240 e214.Kids_.length c241, .int .i64 e214.Miss_, .slice a246 e214.Stats_.Totals_.length c247, .slice a248 e214.Stats_.Cells_.length c249, .int .i64 e214.Since_, .slice a250 e214.Attrs_.length c251, .int .i64 e214.Depth_, .int .i64 e214.Up_, .int .i64 e214.Born_]) h253 (rdm_Timpl_Node (x := e176) (c0 := [.bool e176.Leaf_]) (c1 := [.int .i64 e176.Fork_.Attr_, .int .i64 e176.Fork_.At_]) (c2 := [.slice a202 e176.Kids_.length c203]) (c3 := [.int .i64 e176.Miss_]) (c4 := [.slice a208 e176.Stats_.Totals_.length c209, .slice a210 e176.Stats_.Cells_.length c211]) (c5 := [.int .i64 e176.Since_]) (c6 := [.slice a212 e176.Attrs_.length c213]) (c7 := [.int .i64 e176.Depth_]) (c8 := [.int .i64 e176.Up_]) (c9 := [.int .i64 e176.Born_]) rfl rfl (rds_bor g194 w1 hw1) rfl (rdm_Timpl_Stats (x := e176.Stats_) (c0 := [.slice a208 e176.Stats_.Totals_.length c209]) (c1 := [.slice a210 e176.Stats_.Cells_.length c211]) (rds_bor g206 w1 hw1) (rds_bor g207 w1 hw1)) rfl (rds_bor g198 w1 hw1) rfl rfl rfl) (rdm_Timpl_Node (x := e214) (c0 := [.bool e214.Leaf_]) (c1 := [.int .i64 e214.Fork_.Attr_, .int .i64 e214.Fork_.At_]) (c2 := [.slice a240 e214.Kids_.length c241]) (c3 := [.int .i64 e214.Miss_]) (c4 := [.slice a246 e214.Stats_.Totals_.length c247, .slice a248 e214.Stats_.Cells_.length c249]) (c5 := [.int .i64 e214.Since_]) (c6 := [.slice a250 e214.Attrs_.length c251]) (c7 := [.int .i64 e214.Depth_]) (c8 := [.int .i64 e214.Up_]) (c9 := [.int .i64 e214.Born_]) rfl rfl (rds_bor g232 w1 hw1) rfl (rdm_Timpl_Stats (x := e214.Stats_) (c0 := [.slice a246 e214.Stats_.Totals_.length c247]) (c1 := [.slice a248 e214.Stats_.Cells_.length c249]) (rds_bor g244 w1 hw1) (rds_bor g245 w1 hw1)) rfl (rds_bor g236 w1 hw1) rfl rfl rfl))) (fun _ _ => trivial) ?_
          refine ow_batch [.p] rfl ?_
          refine ow_nilQ ?_
          refine x_qs ?_
          refine c_if rfl (fun hb => ?_) (fun hb => ?_)
          · have H := of_if_t hb H
            refine c_seq ?_
            refine c_reg ?_
            refine ow_batch [.p] rfl ?_
            refine ow_nil ?_
            refine x_qs ?_
            refine c_ret ?_
            refine x_qb_ret ?_
            refine x_qs_ret ?_
            refine x_ql_ret ?_
            refine x_qb_ret ?_
            refine x_qs_ret ?_
            exact x_retR (rs := [.tmp 4]) (vs := [.bool false]) rfl ⟨rfl, trivial⟩ (fun w' hw' => by
                obtain rfl := of_some H
                exact ⟨rfl, hw'.ext⟩)
          · have H := of_if_f hb H
            refine c_skip ?_
            refine x_qb ?_
            refine x_qs ?_
            refine c_reg ?_
            refine ow_batch [.p, .p, .p] rfl ?_
            refine ow_nil ?_
            exact x_ql (RW.at (ihk1 (IntKind.i64.wrap (i96 + 1)) (H)) (fun _ h => St.sel [0, 1] rfl rfl h) ⟨rfl, rfl, rfl, trivial⟩)
        · have H := of_if_f hb H
          refine c_exit ?_
          refine x_qs_exit ?_
          refine x_ql_exit ?_
          refine x_qb_here ?_
          refine x_qs ?_
          refine c_seq ?_
          refine c_reg ?_
          refine ow_batch [.p] rfl ?_
          refine ow_nil ?_
          refine x_qs ?_
          refine c_ret ?_
          exact x_retR (rs := [.tmp 4]) (vs := [.bool true]) rfl ⟨rfl, trivial⟩ (fun w' hw' => by
              obtain rfl := of_some H
              exact ⟨rfl, hw'.ext⟩)
  · generalize ((p0.Nodes_.length : Int) != (p1.Nodes_.length : Int)) = t16 at key ⊢
    cases t16
    · refine ow_batch [.fa 74 1 1 fa74_1] rfl ?_
      refine ow_r rfl (dstOk_lt rfl) (ry_box1 (off := 1) rfl rfl ty3 (boxIn (i := 0) rfl) rfl) ?_
      refine ow_batch [.fa 74 1 1 fa74_1] rfl ?_
      refine ow_r rfl (dstOk_lt rfl) (ry_box1 (off := 1) rfl rfl ty3 (boxIn (i := 1) rfl) rfl) ?_
      refine ow_batch [.p] rfl ?_
      refine ow_batch [.p] rfl ?_
      exact OW.sub key ⟨rfl, rfl, rfl, trivial⟩
    · refine ow_batch [.p, .p, .p, .p, .p, .p] rfl ?_
      exact OW.sub key ⟨rfl, rfl, rfl, trivial⟩

set_option maxHeartbeats 4000000 in
set_option maxRecDepth 100000 in
theorem spec_WindowSame_ok (w : World) {p0 : Timpl_Window} {p1 : Timpl_Window} {cs0 : List Value} {cs1 : List Value} {r : Bool} (H : spec_WindowSame p0 p1 = some r)  (g0 : (eTimpl_Window).rd w [] p0 cs0) (g1 : (eTimpl_Window).rd w [] p1 cs1) :
    Calls Try.prog 75 #[.agg cs0.toArray, .agg cs1.toArray] w (fun en w' => en = .returned (.bool r) ∧ Ext [] w w') := by
  obtain ⟨c1, rfl, g2⟩ := rdo_Timpl_Window g0
  obtain ⟨a3, c4, rfl⟩ := rd_sl1 g2
  obtain ⟨c5, rfl, g6⟩ := rdo_Timpl_Window g1
  obtain ⟨a7, c8, rfl⟩ := rd_sl1 g6
  unfold spec_WindowSame at H
  refine f_enter (vs := [.agg #[.slice a3 p0.Rows_.length c4], .agg #[.slice a7 p1.Rows_.length c8]]) Try.func75 rfl Try.ntmps75 rfl (St.init w []) ?_
  refine c_seq ?_
  refine c_reg ?_
  refine ow_box (cs := [.slice a3 p0.Rows_.length c4]) rfl rfl rfl rfl rfl rfl (fun _ => kp) (fun b9 => ?_)
  refine ow_box (cs := [.slice a7 p1.Rows_.length c8]) rfl rfl rfl rfl rfl rfl (fun _ => kp) (fun b10 => ?_)
  refine ow_batch [.p] rfl ?_
  refine ow_nil ?_
  refine x_qs ?_
  refine c_seq ?_
  refine c_seq ?_
  refine c_reg ?_
  refine ow_batch [.fa 76 0 0 fa76_0] rfl ?_
  refine ow_r rfl (dstOk_lt rfl) (ry_box1 (off := 0) rfl rfl ty33 (boxIn (i := 0) rfl) rfl) ?_
  refine ow_batch [.lenS 33 82 sl33, .fa 76 0 0 fa76_0] rfl ?_
  refine ow_r rfl (dstOk_lt rfl) (ry_box1 (off := 0) rfl rfl ty33 (boxIn (i := 1) rfl) rfl) ?_
  refine ow_batch [.lenS 33 82 sl33, .p] rfl ?_
  refine ow_nil ?_
  refine x_qs ?_
  refine c_if rfl (fun hb => ?_) (fun hb => ?_)
  · have H := of_if_t hb H
    refine c_seq ?_
    refine c_reg ?_
    refine ow_batch [.p] rfl ?_
    refine ow_nil ?_
    refine x_qs ?_
    refine c_ret ?_
    refine x_qs_ret ?_
    exact x_retR (rs := [.tmp 4]) (vs := [.bool false]) rfl ⟨rfl, trivial⟩ (fun w' hw' => by
        obtain rfl := of_some H
        exact ⟨rfl, hw'.ext⟩)
  · have H := of_if_f hb H
    refine c_skip ?_
    refine x_qs ?_
    refine c_seq ?_
    refine c_seq ?_
    refine c_reg ?_
    refine ow_batch [.p] rfl ?_
    refine ow_nil ?_
    refine x_qs ?_
    refine c_block ?_
    refine CW.at (loopI1 (fun (i30 : Int) => St w [] [Res.box b9 76 [.slice a3 p0.Rows_.length c4], Res.box b10 76 [.slice a7 p1.Rows_.length c8]]) (fun (i30 : Int) => [(2, .pointer (some ⟨b9, 0, none⟩)), (3, .pointer (some ⟨b10, 0, none⟩)), (5, .int .i64 i30)]) (fun kk => fun (i30 : Int) => spec_WindowSame_L1 p0 p1 kk i30 = some r) (fun _ H => ?_) (fun k1 ihk1 i30 H => ?_) Fuel (0) (H)) (fun _ h => St.sel [0, 1] rfl rfl h) ⟨rfl, rfl, rfl,  trivial⟩
    · unfold spec_WindowSame_L1 at H
      exact absurd H (by simp)
    · unfold spec_WindowSame_L1 at H
      refine c_seq ?_
      refine c_seq ?_
      refine c_reg ?_
      refine ow_batch [.p, .fa 76 0 0 fa76_0] rfl ?_
      refine ow_r rfl (dstOk_lt rfl) (ry_box1 (off := 0) rfl rfl ty33 (boxIn (i := 0) rfl) rfl) ?_
      refine ow_batch [.lenS 33 82 sl33, .p] rfl ?_
      refine ow_nil ?_
      refine x_qs ?_
      refine c_if rfl (fun hb => ?_) (fun hb => ?_)
      · have H := of_if_t hb H
        refine c_skip ?_
        refine x_qs ?_
        refine c_seq ?_
        refine c_block ?_
        refine c_seq ?_
        refine c_regQ mixed (by kernel_rfl) ?_
        refine ow_batch [.fa 76 0 0 fa76_0] rfl ?_
        refine ow_r rfl (dstOk_lt rfl) (ry_box1 (off := 0) rfl rfl ty33 (boxIn (i := 0) rfl) rfl) ?_
        refine ow_batch [.p] rfl ?_
        obtain ⟨e50, h51, H⟩ := of_bind H
        refine ow_ixB rfl rfl rfl rfl rfl sl33 ty82 rfl g2 h51 (fun q54 c55 hd52 hA53 => ?_)
        obtain ⟨a56, c57, rfl⟩ := rd_sl1 hd52
        refine ow_r rfl (dstOk_lt rfl) (ry_load1 rfl rfl ty82 (at_bor bor hA53)) ?_
        refine ow_batch [.fa 76 0 0 fa76_0] rfl ?_
        refine ow_r rfl (dstOk_lt rfl) (ry_box1 (off := 0) rfl rfl ty33 (boxIn (i := 1) rfl) rfl) ?_
        refine ow_batch [.p] rfl ?_
        obtain ⟨e58, h59, H⟩ := of_bind H
        refine ow_ixB rfl rfl rfl rfl rfl sl33 ty82 rfl g6 h59 (fun q62 c63 hd60 hA61 => ?_)
        obtain ⟨a64, c65, rfl⟩ := rd_sl1 hd60
        refine ow_r rfl (dstOk_lt rfl) (ry_load1 rfl rfl ty82 (at_bor bor hA61)) ?_
        obtain ⟨y66, h67, H⟩ := of_bind H
        refine ow_q rfl rfl (dstOk_lt rfl) (qy_call rfl fn30 rfl (fun w1 hw1 => spec_l5SameInts_ok w1  h67 (rds_bor hd52 w1 hw1) (rds_bor hd60 w1 hw1))) (fun _ _ => trivial) ?_
        refine ow_batch [.p] rfl ?_
        refine ow_nilQ ?_
        refine x_qs ?_
        refine c_if rfl (fun hb => ?_) (fun hb => ?_)
        · have H := of_if_t hb H
          refine c_seq ?_
          refine c_reg ?_
          refine ow_batch [.p] rfl ?_
          refine ow_nil ?_
          refine x_qs ?_
          refine c_ret ?_
          refine x_qb_ret ?_
          refine x_qs_ret ?_
          refine x_ql_ret ?_
          refine x_qb_ret ?_
          refine x_qs_ret ?_
          exact x_retR (rs := [.tmp 4]) (vs := [.bool false]) rfl ⟨rfl, trivial⟩ (fun w' hw' => by
              obtain rfl := of_some H
              exact ⟨rfl, hw'.ext⟩)
        · have H := of_if_f hb H
          refine c_skip ?_
          refine x_qb ?_
          refine x_qs ?_
          refine c_reg ?_
          refine ow_batch [.p, .p, .p] rfl ?_
          refine ow_nil ?_
          exact x_ql (RW.at (ihk1 (IntKind.i64.wrap (i30 + 1)) (H)) (fun _ h => St.sel [0, 1] rfl rfl h) ⟨rfl, rfl, rfl, trivial⟩)
      · have H := of_if_f hb H
        refine c_exit ?_
        refine x_qs_exit ?_
        refine x_ql_exit ?_
        refine x_qb_here ?_
        refine x_qs ?_
        refine c_seq ?_
        refine c_reg ?_
        refine ow_batch [.p] rfl ?_
        refine ow_nil ?_
        refine x_qs ?_
        refine c_ret ?_
        exact x_retR (rs := [.tmp 4]) (vs := [.bool true]) rfl ⟨rfl, trivial⟩ (fun w' hw' => by
            obtain rfl := of_some H
            exact ⟨rfl, hw'.ext⟩)

set_option maxHeartbeats 4000000 in
set_option maxRecDepth 100000 in
theorem spec_DetSame_ok (w : World) {p0 : Timpl_Det} {p1 : Timpl_Det} {cs0 : List Value} {cs1 : List Value} {r : Bool} (H : spec_DetSame p0 p1 = some r)  (g0 : (eTimpl_Det).rd w [] p0 cs0) (g1 : (eTimpl_Det).rd w [] p1 cs1) :
    Calls Try.prog 52 #[.agg cs0.toArray, .agg cs1.toArray] w (fun en w' => en = .returned (.bool r) ∧ Ext [] w w') := by
  obtain ⟨c1, c2, rfl, g3, g4⟩ := rdo_Timpl_Det g0
  obtain ⟨c5, rfl, g6⟩ := rdo_Timpl_Window g3
  obtain ⟨a7, c8, rfl⟩ := rd_sl1 g6
  obtain ⟨c9, rfl, g10⟩ := rdo_Timpl_Window g4
  obtain ⟨a11, c12, rfl⟩ := rd_sl1 g10
  obtain ⟨c13, c14, rfl, g15, g16⟩ := rdo_Timpl_Det g1
  obtain ⟨c17, rfl, g18⟩ := rdo_Timpl_Window g15
  obtain ⟨a19, c20, rfl⟩ := rd_sl1 g18
  obtain ⟨c21, rfl, g22⟩ := rdo_Timpl_Window g16
  obtain ⟨a23, c24, rfl⟩ := rd_sl1 g22
  unfold spec_DetSame at H
  refine f_enter (vs := [.agg #[.slice a7 p0.Warn_.Rows_.length c8, .slice a11 p0.Drift_.Rows_.length c12], .agg #[.slice a19 p1.Warn_.Rows_.length c20, .slice a23 p1.Drift_.Rows_.length c24]]) Try.func52 rfl Try.ntmps52 rfl (St.init w []) ?_
  refine c_seq ?_
  refine c_reg ?_
  refine ow_box (cs := [.slice a7 p0.Warn_.Rows_.length c8, .slice a11 p0.Drift_.Rows_.length c12]) rfl rfl rfl rfl rfl rfl (fun _ => kp) (fun b25 => ?_)
  refine ow_box (cs := [.slice a19 p1.Warn_.Rows_.length c20, .slice a23 p1.Drift_.Rows_.length c24]) rfl rfl rfl rfl rfl rfl (fun _ => kp) (fun b26 => ?_)
  refine ow_batch [.p] rfl ?_
  refine ow_nil ?_
  refine x_qs ?_
  refine c_seq ?_
  refine c_reg ?_
  refine ow_batch [.fa 78 0 0 fa78_0] rfl ?_
  refine ow_r rfl (dstOk_lt rfl) (ry_box (off := 0) (ds := [.slice a7 p0.Warn_.Rows_.length c8]) rfl rfl ty76 (boxIn (i := 0) rfl) rfl rfl) ?_
  refine ow_batch [.fa 78 0 0 fa78_0] rfl ?_
  refine ow_r rfl (dstOk_lt rfl) (ry_box (off := 0) (ds := [.slice a19 p1.Warn_.Rows_.length c20]) rfl rfl ty76 (boxIn (i := 1) rfl) rfl rfl) ?_
  obtain ⟨y27, h28, H⟩ := of_bind H
  refine ow_q rfl rfl (dstOk_lt rfl) (qy_call rfl fn75 rfl (fun w1 hw1 => spec_WindowSame_ok w1 (cs0 := [.slice a7 p0.Warn_.Rows_.length c8]) (cs1 := [.slice a19 p1.Warn_.Rows_.length c20]) h28 (rdm_Timpl_Window (x := p0.Warn_) (c0 := [.slice a7 p0.Warn_.Rows_.length c8]) (rds_bor g6 w1 hw1)) (rdm_Timpl_Window (x := p1.Warn_) (c0 := [.slice a19 p1.Warn_.Rows_.length c20]) (rds_bor g18 w1 hw1)))) (fun _ _ => trivial) ?_
  refine ow_batch [.p] rfl ?_
  obtain ⟨u29, hu33, H⟩ := of_bind H
  refine ow_cut [(16, .bool u29), (4, .bool false)] 6 ?_ (fun key => OW.sub (R := [(2, .pointer (some ⟨b25, 0, none⟩)), (3, .pointer (some ⟨b26, 0, none⟩)), (4, .bool false), (10, .bool y27)]) ?_ ⟨rfl, rfl, rfl, rfl, trivial⟩)
  · refine ow_batch [.p] rfl ?_
    refine ow_nil ?_
    refine x_qs ?_
    refine c_ret ?_
    exact x_retR (rs := [.tmp 4]) (vs := [.bool u29]) rfl ⟨rfl, trivial⟩ (fun w' hw' => by
        obtain rfl := of_some H
        exact ⟨rfl, hw'.ext⟩)
  · clear H
    have H := hu33
    clear hu33
    generalize y27 = t32 at H ⊢
    cases t32
    · have H := of_if_f rfl H
      refine ow_batch [.p, .p, .p, .p, .p, .p] rfl ?_
      obtain rfl := of_some H
      exact OW.sub key ⟨rfl, rfl, trivial⟩
    · have H := of_if_t rfl H
      refine ow_batch [.fa 78 1 1 fa78_1] rfl ?_
      refine ow_r rfl (dstOk_lt rfl) (ry_box (off := 1) (ds := [.slice a11 p0.Drift_.Rows_.length c12]) rfl rfl ty76 (boxIn (i := 0) rfl) rfl rfl) ?_
      refine ow_batch [.fa 78 1 1 fa78_1] rfl ?_
      refine ow_r rfl (dstOk_lt rfl) (ry_box (off := 1) (ds := [.slice a23 p1.Drift_.Rows_.length c24]) rfl rfl ty76 (boxIn (i := 1) rfl) rfl rfl) ?_
      obtain ⟨y30, h31, H⟩ := of_bind H
      refine ow_q rfl rfl (dstOk_lt rfl) (qy_call rfl fn75 rfl (fun w1 hw1 => spec_WindowSame_ok w1 (cs0 := [.slice a11 p0.Drift_.Rows_.length c12]) (cs1 := [.slice a23 p1.Drift_.Rows_.length c24]) h31 (rdm_Timpl_Window (x := p0.Drift_) (c0 := [.slice a11 p0.Drift_.Rows_.length c12]) (rds_bor g10 w1 hw1)) (rdm_Timpl_Window (x := p1.Drift_) (c0 := [.slice a23 p1.Drift_.Rows_.length c24]) (rds_bor g22 w1 hw1)))) (fun _ _ => trivial) ?_
      refine ow_batch [.p] rfl ?_
      obtain rfl := of_some H
      exact OW.sub key ⟨rfl, rfl, trivial⟩

set_option maxHeartbeats 4000000 in
set_option maxRecDepth 100000 in
theorem spec_MemberSame_ok (w : World) {p0 : Timpl_Member} {p1 : Timpl_Member} {cs0 : List Value} {cs1 : List Value} {r : Bool} (H : spec_MemberSame p0 p1 = some r)  (g0 : (eTimpl_Member).rd w [] p0 cs0) (g1 : (eTimpl_Member).rd w [] p1 cs1) :
    Calls Try.prog 29 #[.agg cs0.toArray, .agg cs1.toArray] w (fun en w' => en = .returned (.bool r) ∧ Ext [] w w') := by
  obtain ⟨c1, c2, c3, c4, rfl, g5, g6, g7, g8⟩ := rdo_Timpl_Member g0
  obtain ⟨c9, c10, rfl, g11, g12⟩ := rdo_Timpl_Tree g5
  obtain ⟨a13, c14, rfl⟩ := rd_sl1 g11
  obtain rfl : c10 = [.int .i64 p0.Tree_.Seen_] := g12
  obtain rfl : c2 = [.bool p0.HasYoung_] := g6
  obtain ⟨c15, c16, rfl, g17, g18⟩ := rdo_Timpl_Tree g7
  obtain ⟨a19, c20, rfl⟩ := rd_sl1 g17
  obtain rfl : c16 = [.int .i64 p0.Young_.Seen_] := g18
  obtain ⟨c21, c22, rfl, g23, g24⟩ := rdo_Timpl_Det g8
  obtain ⟨c25, rfl, g26⟩ := rdo_Timpl_Window g23
  obtain ⟨a27, c28, rfl⟩ := rd_sl1 g26
  obtain ⟨c29, rfl, g30⟩ := rdo_Timpl_Window g24
  obtain ⟨a31, c32, rfl⟩ := rd_sl1 g30
  obtain ⟨c33, c34, c35, c36, rfl, g37, g38, g39, g40⟩ := rdo_Timpl_Member g1
  obtain ⟨c41, c42, rfl, g43, g44⟩ := rdo_Timpl_Tree g37
  obtain ⟨a45, c46, rfl⟩ := rd_sl1 g43
  obtain rfl : c42 = [.int .i64 p1.Tree_.Seen_] := g44
  obtain rfl : c34 = [.bool p1.HasYoung_] := g38
  obtain ⟨c47, c48, rfl, g49, g50⟩ := rdo_Timpl_Tree g39
  obtain ⟨a51, c52, rfl⟩ := rd_sl1 g49
  obtain rfl : c48 = [.int .i64 p1.Young_.Seen_] := g50
  obtain ⟨c53, c54, rfl, g55, g56⟩ := rdo_Timpl_Det g40
  obtain ⟨c57, rfl, g58⟩ := rdo_Timpl_Window g55
  obtain ⟨a59, c60, rfl⟩ := rd_sl1 g58
  obtain ⟨c61, rfl, g62⟩ := rdo_Timpl_Window g56
  obtain ⟨a63, c64, rfl⟩ := rd_sl1 g62
  unfold spec_MemberSame at H
  refine f_enter (vs := [.agg #[.slice a13 p0.Tree_.Nodes_.length c14, .int .i64 p0.Tree_.Seen_, .bool p0.HasYoung_, .slice a19 p0.Young_.Nodes_.length c20, .int .i64 p0.Young_.Seen_, .slice a27 p0.Det_.Warn_.Rows_.length c28, .slice a31 p0.Det_.Drift_.Rows_.length c32], .agg #[.slice a45 p1.Tree_.Nodes_.length c46, .int .i64 p1.Tree_.Seen_, .bool p1.HasYoung_, .slice a51 p1.Young_.Nodes_.length c52, .int .i64 p1.Young_.Seen_, .slice a59 p1.Det_.Warn_.Rows_.length c60, .slice a63 p1.Det_.Drift_.Rows_.length c64]]) Try.func29 rfl Try.ntmps29 rfl (St.init w []) ?_
  refine c_seq ?_
  refine c_reg ?_
  refine ow_box (cs := [.slice a13 p0.Tree_.Nodes_.length c14, .int .i64 p0.Tree_.Seen_, .bool p0.HasYoung_, .slice a19 p0.Young_.Nodes_.length c20, .int .i64 p0.Young_.Seen_, .slice a27 p0.Det_.Warn_.Rows_.length c28, .slice a31 p0.Det_.Drift_.Rows_.length c32]) rfl rfl rfl rfl rfl rfl (fun _ => kp) (fun b65 => ?_)
  refine ow_box (cs := [.slice a45 p1.Tree_.Nodes_.length c46, .int .i64 p1.Tree_.Seen_, .bool p1.HasYoung_, .slice a51 p1.Young_.Nodes_.length c52, .int .i64 p1.Young_.Seen_, .slice a59 p1.Det_.Warn_.Rows_.length c60, .slice a63 p1.Det_.Drift_.Rows_.length c64]) rfl rfl rfl rfl rfl rfl (fun _ => kp) (fun b66 => ?_)
  refine ow_batch [.p] rfl ?_
  refine ow_nil ?_
  refine x_qs ?_
  refine c_seq ?_
  refine c_reg ?_
  refine ow_batch [.fa 80 0 0 fa80_0] rfl ?_
  refine ow_r rfl (dstOk_lt rfl) (ry_box (off := 0) (ds := [.slice a13 p0.Tree_.Nodes_.length c14, .int .i64 p0.Tree_.Seen_]) rfl rfl ty74 (boxIn (i := 0) rfl) rfl rfl) ?_
  refine ow_batch [.fa 80 0 0 fa80_0] rfl ?_
  refine ow_r rfl (dstOk_lt rfl) (ry_box (off := 0) (ds := [.slice a45 p1.Tree_.Nodes_.length c46, .int .i64 p1.Tree_.Seen_]) rfl rfl ty74 (boxIn (i := 1) rfl) rfl rfl) ?_
  obtain ⟨y67, h68, H⟩ := of_bind H
  refine ow_q rfl rfl (dstOk_lt rfl) (qy_call rfl fn51 rfl (fun w1 hw1 => spec_TreeSame_ok w1 (cs0 := [.slice a13 p0.Tree_.Nodes_.length c14, .int .i64 p0.Tree_.Seen_]) (cs1 := [.slice a45 p1.Tree_.Nodes_.length c46, .int .i64 p1.Tree_.Seen_]) h68 (rdm_Timpl_Tree (x := p0.Tree_) (c0 := [.slice a13 p0.Tree_.Nodes_.length c14]) (c1 := [.int .i64 p0.Tree_.Seen_]) (rds_bor g11 w1 hw1) rfl) (rdm_Timpl_Tree (x := p1.Tree_) (c0 := [.slice a45 p1.Tree_.Nodes_.length c46]) (c1 := [.int .i64 p1.Tree_.Seen_]) (rds_bor g43 w1 hw1) rfl))) (fun _ _ => trivial) ?_
  refine ow_batch [.p] rfl ?_
  refine ow_cut [(16, .bool (y67 && (p0.HasYoung_ == p1.HasYoung_))), (2, .pointer (some ⟨b65, 0, none⟩)), (3, .pointer (some ⟨b66, 0, none⟩)), (4, .bool false)] 6 ?_ (fun key => OW.sub (R := [(2, .pointer (some ⟨b65, 0, none⟩)), (3, .pointer (some ⟨b66, 0, none⟩)), (4, .bool false), (10, .bool y67)]) ?_ ⟨rfl, rfl, rfl, rfl, trivial⟩)
  · refine ow_batch [.p] rfl ?_
    obtain ⟨u71, hu75, H⟩ := of_bind H
    refine ow_cut [(23, .bool u71), (2, .pointer (some ⟨b65, 0, none⟩)), (3, .pointer (some ⟨b66, 0, none⟩)), (4, .bool false)] 6 ?_ (fun key => OW.sub (R := [(2, .pointer (some ⟨b65, 0, none⟩)), (3, .pointer (some ⟨b66, 0, none⟩)), (4, .bool false), (17, .bool (y67 && (p0.HasYoung_ == p1.HasYoung_)))]) ?_ ⟨rfl, rfl, rfl, rfl, trivial⟩)
    · refine ow_batch [.p] rfl ?_
      obtain ⟨u76, hu80, H⟩ := of_bind H
      refine ow_cut [(30, .bool u76), (4, .bool false)] 6 ?_ (fun key => OW.sub (R := [(2, .pointer (some ⟨b65, 0, none⟩)), (3, .pointer (some ⟨b66, 0, none⟩)), (4, .bool false), (24, .bool u71)]) ?_ ⟨rfl, rfl, rfl, rfl, trivial⟩)
      · refine ow_batch [.p] rfl ?_
        refine ow_nil ?_
        refine x_qs ?_
        refine c_ret ?_
        exact x_retR (rs := [.tmp 4]) (vs := [.bool u76]) rfl ⟨rfl, trivial⟩ (fun w' hw' => by
            obtain rfl := of_some H
            exact ⟨rfl, hw'.ext⟩)
      · clear H
        have H := hu80
        clear hu80
        generalize u71 = t79 at H ⊢
        cases t79
        · have H := of_if_f rfl H
          refine ow_batch [.p, .p, .p, .p, .p, .p] rfl ?_
          obtain rfl := of_some H
          exact OW.sub key ⟨rfl, rfl, trivial⟩
        · have H := of_if_t rfl H
          refine ow_batch [.fa 80 3 5 fa80_3] rfl ?_
          refine ow_r rfl (dstOk_lt rfl) (ry_box (off := 5) (ds := [.slice a27 p0.Det_.Warn_.Rows_.length c28, .slice a31 p0.Det_.Drift_.Rows_.length c32]) rfl rfl ty78 (boxIn (i := 0) rfl) rfl rfl) ?_
          refine ow_batch [.fa 80 3 5 fa80_3] rfl ?_
          refine ow_r rfl (dstOk_lt rfl) (ry_box (off := 5) (ds := [.slice a59 p1.Det_.Warn_.Rows_.length c60, .slice a63 p1.Det_.Drift_.Rows_.length c64]) rfl rfl ty78 (boxIn (i := 1) rfl) rfl rfl) ?_
          obtain ⟨y77, h78, H⟩ := of_bind H
          refine ow_q rfl rfl (dstOk_lt rfl) (qy_call rfl fn52 rfl (fun w1 hw1 => spec_DetSame_ok w1 (cs0 := [.slice a27 p0.Det_.Warn_.Rows_.length c28, .slice a31 p0.Det_.Drift_.Rows_.length c32]) (cs1 := [.slice a59 p1.Det_.Warn_.Rows_.length c60, .slice a63 p1.Det_.Drift_.Rows_.length c64]) h78 (rdm_Timpl_Det (x := p0.Det_) (c0 := [.slice a27 p0.Det_.Warn_.Rows_.length c28]) (c1 := [.slice a31 p0.Det_.Drift_.Rows_.length c32]) (rdm_Timpl_Window (x := p0.Det_.Warn_) (c0 := [.slice a27 p0.Det_.Warn_.Rows_.length c28]) (rds_bor g26 w1 hw1)) (rdm_Timpl_Window (x := p0.Det_.Drift_) (c0 := [.slice a31 p0.Det_.Drift_.Rows_.length c32]) (rds_bor g30 w1 hw1))) (rdm_Timpl_Det (x := p1.Det_) (c0 := [.slice a59 p1.Det_.Warn_.Rows_.length c60]) (c1 := [.slice a63 p1.Det_.Drift_.Rows_.length c64]) (rdm_Timpl_Window (x := p1.Det_.Warn_) (c0 := [.slice a59 p1.Det_.Warn_.Rows_.length c60]) (rds_bor g58 w1 hw1)) (rdm_Timpl_Window (x := p1.Det_.Drift_) (c0 := [.slice a63 p1.Det_.Drift_.Rows_.length c64]) (rds_bor g62 w1 hw1))))) (fun _ _ => trivial) ?_
          refine ow_batch [.p] rfl ?_
          obtain rfl := of_some H
          exact OW.sub key ⟨rfl, rfl, trivial⟩
    · clear H
      have H := hu75
      clear hu75
      generalize (y67 && (p0.HasYoung_ == p1.HasYoung_)) = t74 at H ⊢
      cases t74
      · have H := of_if_f rfl H
        refine ow_batch [.p, .p, .p, .p, .p, .p] rfl ?_
        obtain rfl := of_some H
        exact OW.sub key ⟨rfl, rfl, rfl, rfl, trivial⟩
      · have H := of_if_t rfl H
        refine ow_batch [.fa 80 2 3 fa80_2] rfl ?_
        refine ow_r rfl (dstOk_lt rfl) (ry_box (off := 3) (ds := [.slice a19 p0.Young_.Nodes_.length c20, .int .i64 p0.Young_.Seen_]) rfl rfl ty74 (boxIn (i := 0) rfl) rfl rfl) ?_
        refine ow_batch [.fa 80 2 3 fa80_2] rfl ?_
        refine ow_r rfl (dstOk_lt rfl) (ry_box (off := 3) (ds := [.slice a51 p1.Young_.Nodes_.length c52, .int .i64 p1.Young_.Seen_]) rfl rfl ty74 (boxIn (i := 1) rfl) rfl rfl) ?_
        obtain ⟨y72, h73, H⟩ := of_bind H
        refine ow_q rfl rfl (dstOk_lt rfl) (qy_call rfl fn51 rfl (fun w1 hw1 => spec_TreeSame_ok w1 (cs0 := [.slice a19 p0.Young_.Nodes_.length c20, .int .i64 p0.Young_.Seen_]) (cs1 := [.slice a51 p1.Young_.Nodes_.length c52, .int .i64 p1.Young_.Seen_]) h73 (rdm_Timpl_Tree (x := p0.Young_) (c0 := [.slice a19 p0.Young_.Nodes_.length c20]) (c1 := [.int .i64 p0.Young_.Seen_]) (rds_bor g17 w1 hw1) rfl) (rdm_Timpl_Tree (x := p1.Young_) (c0 := [.slice a51 p1.Young_.Nodes_.length c52]) (c1 := [.int .i64 p1.Young_.Seen_]) (rds_bor g49 w1 hw1) rfl))) (fun _ _ => trivial) ?_
        refine ow_batch [.p] rfl ?_
        obtain rfl := of_some H
        exact OW.sub key ⟨rfl, rfl, rfl, rfl, trivial⟩
  · generalize y67 = t70 at key ⊢
    cases t70
    · refine ow_batch [.p, .p, .p, .p, .p, .p] rfl ?_
      exact OW.sub key ⟨rfl, rfl, rfl, rfl, trivial⟩
    · refine ow_batch [.fa 80 1 2 fa80_1] rfl ?_
      refine ow_r rfl (dstOk_lt rfl) (ry_box1 (off := 2) rfl rfl ty4 (boxIn (i := 0) rfl) rfl) ?_
      refine ow_batch [.fa 80 1 2 fa80_1] rfl ?_
      refine ow_r rfl (dstOk_lt rfl) (ry_box1 (off := 2) rfl rfl ty4 (boxIn (i := 1) rfl) rfl) ?_
      refine ow_r rfl (dstOk_lt rfl) (ry_beql rfl rfl rfl bl4) ?_
      refine ow_batch [.p] rfl ?_
      exact OW.sub key ⟨rfl, rfl, rfl, rfl, trivial⟩

set_option maxHeartbeats 4000000 in
set_option maxRecDepth 100000 in
theorem spec_ForestSame_ok (w : World) {p0 : Timpl_Forest} {p1 : Timpl_Forest} {cs0 : List Value} {cs1 : List Value} {r : Bool} (H : spec_ForestSame p0 p1 = some r)  (g0 : (eTimpl_Forest).rd w [] p0 cs0) (g1 : (eTimpl_Forest).rd w [] p1 cs1) :
    Calls Try.prog 13 #[.agg cs0.toArray, .agg cs1.toArray] w (fun en w' => en = .returned (.bool r) ∧ Ext [] w w') := by
  obtain ⟨c1, rfl, g2⟩ := rdo_Timpl_Forest g0
  obtain ⟨a3, c4, rfl⟩ := rd_sl1 g2
  obtain ⟨c5, rfl, g6⟩ := rdo_Timpl_Forest g1
  obtain ⟨a7, c8, rfl⟩ := rd_sl1 g6
  unfold spec_ForestSame at H
  refine f_enter (vs := [.agg #[.slice a3 p0.Members_.length c4], .agg #[.slice a7 p1.Members_.length c8]]) Try.func13 rfl Try.ntmps13 rfl (St.init w []) ?_
  refine c_seq ?_
  refine c_reg ?_
  refine ow_box (cs := [.slice a3 p0.Members_.length c4]) rfl rfl rfl rfl rfl rfl (fun _ => kp) (fun b9 => ?_)
  refine ow_box (cs := [.slice a7 p1.Members_.length c8]) rfl rfl rfl rfl rfl rfl (fun _ => kp) (fun b10 => ?_)
  refine ow_batch [.p] rfl ?_
  refine ow_nil ?_
  refine x_qs ?_
  refine c_seq ?_
  refine c_seq ?_
  refine c_reg ?_
  refine ow_batch [.fa 49 0 0 fa49_0] rfl ?_
  refine ow_r rfl (dstOk_lt rfl) (ry_box1 (off := 0) rfl rfl ty47 (boxIn (i := 0) rfl) rfl) ?_
  refine ow_batch [.lenS 47 80 sl47, .fa 49 0 0 fa49_0] rfl ?_
  refine ow_r rfl (dstOk_lt rfl) (ry_box1 (off := 0) rfl rfl ty47 (boxIn (i := 1) rfl) rfl) ?_
  refine ow_batch [.lenS 47 80 sl47, .p] rfl ?_
  refine ow_nil ?_
  refine x_qs ?_
  refine c_if rfl (fun hb => ?_) (fun hb => ?_)
  · have H := of_if_t hb H
    refine c_seq ?_
    refine c_reg ?_
    refine ow_batch [.p] rfl ?_
    refine ow_nil ?_
    refine x_qs ?_
    refine c_ret ?_
    refine x_qs_ret ?_
    exact x_retR (rs := [.tmp 4]) (vs := [.bool false]) rfl ⟨rfl, trivial⟩ (fun w' hw' => by
        obtain rfl := of_some H
        exact ⟨rfl, hw'.ext⟩)
  · have H := of_if_f hb H
    refine c_skip ?_
    refine x_qs ?_
    refine c_seq ?_
    refine c_seq ?_
    refine c_reg ?_
    refine ow_batch [.p] rfl ?_
    refine ow_nil ?_
    refine x_qs ?_
    refine c_block ?_
    refine CW.at (loopI1 (fun (i90 : Int) => St w [] [Res.box b9 49 [.slice a3 p0.Members_.length c4], Res.box b10 49 [.slice a7 p1.Members_.length c8]]) (fun (i90 : Int) => [(2, .pointer (some ⟨b9, 0, none⟩)), (3, .pointer (some ⟨b10, 0, none⟩)), (5, .int .i64 i90)]) (fun kk => fun (i90 : Int) => spec_ForestSame_L1 p0 p1 kk i90 = some r) (fun _ H => ?_) (fun k1 ihk1 i90 H => ?_) Fuel (0) (H)) (fun _ h => St.sel [0, 1] rfl rfl h) ⟨rfl, rfl, rfl,  trivial⟩
    · unfold spec_ForestSame_L1 at H
      exact absurd H (by simp)
    · unfold spec_ForestSame_L1 at H
      refine c_seq ?_
      refine c_seq ?_
      refine c_reg ?_
      refine ow_batch [.p, .fa 49 0 0 fa49_0] rfl ?_
      refine ow_r rfl (dstOk_lt rfl) (ry_box1 (off := 0) rfl rfl ty47 (boxIn (i := 0) rfl) rfl) ?_
      refine ow_batch [.lenS 47 80 sl47, .p] rfl ?_
      refine ow_nil ?_
      refine x_qs ?_
      refine c_if rfl (fun hb => ?_) (fun hb => ?_)
      · have H := of_if_t hb H
        refine c_skip ?_
        refine x_qs ?_
        refine c_seq ?_
        refine c_block ?_
        refine c_seq ?_
        refine c_regQ mixed (by kernel_rfl) ?_
        refine ow_batch [.fa 49 0 0 fa49_0] rfl ?_
        refine ow_r rfl (dstOk_lt rfl) (ry_box1 (off := 0) rfl rfl ty47 (boxIn (i := 0) rfl) rfl) ?_
        refine ow_batch [.p] rfl ?_
        obtain ⟨e170, h171, H⟩ := of_bind H
        refine ow_ixB rfl rfl rfl rfl rfl sl47 ty80 rfl g2 h171 (fun q174 c175 hd172 hA173 => ?_)
        obtain ⟨c176, c177, c178, c179, rfl, g180, g181, g182, g183⟩ := rdo_Timpl_Member hd172
        obtain ⟨c184, c185, rfl, g186, g187⟩ := rdo_Timpl_Tree g180
        obtain ⟨a188, c189, rfl⟩ := rd_sl1 g186
        obtain rfl : c185 = [.int .i64 e170.Tree_.Seen_] := g187
        obtain rfl : c177 = [.bool e170.HasYoung_] := g181
        obtain ⟨c190, c191, rfl, g192, g193⟩ := rdo_Timpl_Tree g182
        obtain ⟨a194, c195, rfl⟩ := rd_sl1 g192
        obtain rfl : c191 = [.int .i64 e170.Young_.Seen_] := g193
        obtain ⟨c196, c197, rfl, g198, g199⟩ := rdo_Timpl_Det g183
        obtain ⟨c200, rfl, g201⟩ := rdo_Timpl_Window g198
        obtain ⟨a202, c203, rfl⟩ := rd_sl1 g201
        obtain ⟨c204, rfl, g205⟩ := rdo_Timpl_Window g199
        obtain ⟨a206, c207, rfl⟩ := rd_sl1 g205
        refine ow_r rfl (dstOk_lt rfl) (ry_load (cs := [.slice a188 e170.Tree_.Nodes_.length c189, .int .i64 e170.Tree_.Seen_, .bool e170.HasYoung_, .slice a194 e170.Young_.Nodes_.length c195, .int .i64 e170.Young_.Seen_, .slice a202 e170.Det_.Warn_.Rows_.length c203, .slice a206 e170.Det_.Drift_.Rows_.length c207]) rfl rfl ty80 (at_bor bor hA173) rfl) ?_
        refine ow_batch [.fa 49 0 0 fa49_0] rfl ?_
        refine ow_r rfl (dstOk_lt rfl) (ry_box1 (off := 0) rfl rfl ty47 (boxIn (i := 1) rfl) rfl) ?_
        refine ow_batch [.p] rfl ?_
        obtain ⟨e208, h209, H⟩ := of_bind H
        refine ow_ixB rfl rfl rfl rfl rfl sl47 ty80 rfl g6 h209 (fun q212 c213 hd210 hA211 => ?_)
        obtain ⟨c214, c215, c216, c217, rfl, g218, g219, g220, g221⟩ := rdo_Timpl_Member hd210
        obtain ⟨c222, c223, rfl, g224, g225⟩ := rdo_Timpl_Tree g218
        obtain ⟨a226, c227, rfl⟩ := rd_sl1 g224
        obtain rfl : c223 = [.int .i64 e208.Tree_.Seen_] := g225
        obtain rfl : c215 = [.bool e208.HasYoung_] := g219
        obtain ⟨c228, c229, rfl, g230, g231⟩ := rdo_Timpl_Tree g220
        obtain ⟨a232, c233, rfl⟩ := rd_sl1 g230
        obtain rfl : c229 = [.int .i64 e208.Young_.Seen_] := g231
        obtain ⟨c234, c235, rfl, g236, g237⟩ := rdo_Timpl_Det g221
        obtain ⟨c238, rfl, g239⟩ := rdo_Timpl_Window g236
        obtain ⟨a240, c241, rfl⟩ := rd_sl1 g239
        obtain ⟨c242, rfl, g243⟩ := rdo_Timpl_Window g237
        obtain ⟨a244, c245, rfl⟩ := rd_sl1 g243
        refine ow_r rfl (dstOk_lt rfl) (ry_load (cs := [.slice a226 e208.Tree_.Nodes_.length c227, .int .i64 e208.Tree_.Seen_, .bool e208.HasYoung_, .slice a232 e208.Young_.Nodes_.length c233, .int .i64 e208.Young_.Seen_, .slice a240 e208.Det_.Warn_.Rows_.length c241, .slice a244 e208.Det_.Drift_.Rows_.length c245]) rfl rfl ty80 (at_bor bor hA211) rfl) ?_
        obtain ⟨y246, h247, H⟩ := of_bind H
        refine ow_q rfl rfl (dstOk_lt rfl) (qy_call rfl fn29 rfl (fun w1 hw1 => spec_MemberSame_ok w1 (cs0 := [.slice a188 e170.Tree_.Nodes_.length c189, .int .i64 e170.Tree_.Seen_, .bool e170.HasYoung_, .slice a194 e170.Young_.Nodes_.length c195, .int .i64 e170.Young_.Seen_, .slice a202 e170.Det_.Warn_.Rows_.length c203, .slice a206 e170.Det_.Drift_.Rows_.length c207]) (cs1 := [.slice a226 e208.Tree_.Nodes_.length c227, .int .i64 e208.Tree_.Seen_, .bool e208.HasYoung_, .slice a232 e208.Young_.Nodes_.length c233, .int .i64 e208.Young_.Seen_, .slice a240 e208.Det_.Warn_.Rows_.length c241, .slice a244 e208.Det_.Drift_.Rows_.length c245]) h247 (rdm_Timpl_Member (x := e170) (c0 := [.slice a188 e170.Tree_.Nodes_.length c189, .int .i64 e170.Tree_.Seen_]) (c1 := [.bool e170.HasYoung_]) (c2 := [.slice a194 e170.Young_.Nodes_.length c195, .int .i64 e170.Young_.Seen_]) (c3 := [.slice a202 e170.Det_.Warn_.Rows_.length c203, .slice a206 e170.Det_.Drift_.Rows_.length c207]) (rdm_Timpl_Tree (x := e170.Tree_) (c0 := [.slice a188 e170.Tree_.Nodes_.length c189]) (c1 := [.int .i64 e170.Tree_.Seen_]) (rds_bor g186 w1 hw1) rfl) rfl (rdm_Timpl_Tree (x := e170.Young_) (c0 := [.slice a194 e170.Young_.Nodes_.length c195]) (c1 := [.int .i64 e170.Young_.Seen_]) (rds_bor g192 w1 hw1) rfl) (rdm_Timpl_Det (x := e170.Det_) (c0 := [.slice a202 e170.Det_.Warn_.Rows_.length c203]) (c1 := [.slice a206 e170.Det_.Drift_.Rows_.length c207]) (rdm_Timpl_Window (x := e170.Det_.Warn_) (c0 := [.slice a202 e170.Det_.Warn_.Rows_.length c203]) (rds_bor g201 w1 hw1)) (rdm_Timpl_Window (x := e170.Det_.Drift_) (c0 := [.slice a206 e170.Det_.Drift_.Rows_.length c207]) (rds_bor g205 w1 hw1)))) (rdm_Timpl_Member (x := e208) (c0 := [.slice a226 e208.Tree_.Nodes_.length c227, .int .i64 e208.Tree_.Seen_]) (c1 := [.bool e208.HasYoung_]) (c2 := [.slice a232 e208.Young_.Nodes_.length c233, .int .i64 e208.Young_.Seen_]) (c3 := [.slice a240 e208.Det_.Warn_.Rows_.length c241, .slice a244 e208.Det_.Drift_.Rows_.length c245]) (rdm_Timpl_Tree (x := e208.Tree_) (c0 := [.slice a226 e208.Tree_.Nodes_.length c227]) (c1 := [.int .i64 e208.Tree_.Seen_]) (rds_bor g224 w1 hw1) rfl) rfl (rdm_Timpl_Tree (x := e208.Young_) (c0 := [.slice a232 e208.Young_.Nodes_.length c233]) (c1 := [.int .i64 e208.Young_.Seen_]) (rds_bor g230 w1 hw1) rfl) (rdm_Timpl_Det (x := e208.Det_) (c0 := [.slice a240 e208.Det_.Warn_.Rows_.length c241]) (c1 := [.slice a244 e208.Det_.Drift_.Rows_.length c245]) (rdm_Timpl_Window (x := e208.Det_.Warn_) (c0 := [.slice a240 e208.Det_.Warn_.Rows_.length c241]) (rds_bor g239 w1 hw1)) (rdm_Timpl_Window (x := e208.Det_.Drift_) (c0 := [.slice a244 e208.Det_.Drift_.Rows_.length c245]) (rds_bor g243 w1 hw1)))))) (fun _ _ => trivial) ?_
        refine ow_batch [.p] rfl ?_
        refine ow_nilQ ?_
        refine x_qs ?_
        refine c_if rfl (fun hb => ?_) (fun hb => ?_)
        · have H := of_if_t hb H
          refine c_seq ?_
          refine c_reg ?_
          refine ow_batch [.p] rfl ?_
          refine ow_nil ?_
          refine x_qs ?_
          refine c_ret ?_
          refine x_qb_ret ?_
          refine x_qs_ret ?_
          refine x_ql_ret ?_
          refine x_qb_ret ?_
          refine x_qs_ret ?_
          exact x_retR (rs := [.tmp 4]) (vs := [.bool false]) rfl ⟨rfl, trivial⟩ (fun w' hw' => by
              obtain rfl := of_some H
              exact ⟨rfl, hw'.ext⟩)
        · have H := of_if_f hb H
          refine c_skip ?_
          refine x_qb ?_
          refine x_qs ?_
          refine c_reg ?_
          refine ow_batch [.p, .p, .p] rfl ?_
          refine ow_nil ?_
          exact x_ql (RW.at (ihk1 (IntKind.i64.wrap (i90 + 1)) (H)) (fun _ h => St.sel [0, 1] rfl rfl h) ⟨rfl, rfl, rfl, trivial⟩)
      · have H := of_if_f hb H
        refine c_exit ?_
        refine x_qs_exit ?_
        refine x_ql_exit ?_
        refine x_qb_here ?_
        refine x_qs ?_
        refine c_seq ?_
        refine c_reg ?_
        refine ow_batch [.p] rfl ?_
        refine ow_nil ?_
        refine x_qs ?_
        refine c_ret ?_
        exact x_retR (rs := [.tmp 4]) (vs := [.bool true]) rfl ⟨rfl, trivial⟩ (fun w' hw' => by
            obtain rfl := of_some H
            exact ⟨rfl, hw'.ext⟩)

set_option maxHeartbeats 4000000 in
set_option maxRecDepth 100000 in
theorem spec_ScoreSame_ok (w : World) {p0 : Timpl_Score} {p1 : Timpl_Score} {cs0 : List Value} {cs1 : List Value} {r : Bool} (H : spec_ScoreSame p0 p1 = some r)  (g0 : (eTimpl_Score).rd w [] p0 cs0) (g1 : (eTimpl_Score).rd w [] p1 cs1) :
    Calls Try.prog 14 #[.agg cs0.toArray, .agg cs1.toArray] w (fun en w' => en = .returned (.bool r) ∧ Ext [] w w') := by
  obtain ⟨c1, c2, rfl, g3, g4⟩ := rdo_Timpl_Score g0
  obtain ⟨a5, c6, rfl⟩ := rd_sl1 g3
  obtain ⟨a7, c8, rfl⟩ := rd_sl1 g4
  obtain ⟨c9, c10, rfl, g11, g12⟩ := rdo_Timpl_Score g1
  obtain ⟨a13, c14, rfl⟩ := rd_sl1 g11
  obtain ⟨a15, c16, rfl⟩ := rd_sl1 g12
  unfold spec_ScoreSame at H
  refine f_enter (vs := [.agg #[.slice a5 p0.Table_.length c6, .slice a7 p0.Last_.length c8], .agg #[.slice a13 p1.Table_.length c14, .slice a15 p1.Last_.length c16]]) Try.func14 rfl Try.ntmps14 rfl (St.init w []) ?_
  refine c_seq ?_
  refine c_reg ?_
  refine ow_box (cs := [.slice a5 p0.Table_.length c6, .slice a7 p0.Last_.length c8]) rfl rfl rfl rfl rfl rfl (fun _ => kp) (fun b17 => ?_)
  refine ow_box (cs := [.slice a13 p1.Table_.length c14, .slice a15 p1.Last_.length c16]) rfl rfl rfl rfl rfl rfl (fun _ => kp) (fun b18 => ?_)
  refine ow_batch [.p] rfl ?_
  refine ow_nil ?_
  refine x_qs ?_
  refine c_seq ?_
  refine c_seq ?_
  refine c_reg ?_
  refine ow_batch [.fa 52 0 0 fa52_0] rfl ?_
  refine ow_r rfl (dstOk_lt rfl) (ry_box1 (off := 0) rfl rfl ty33 (boxIn (i := 0) rfl) rfl) ?_
  refine ow_batch [.lenS 33 82 sl33, .fa 52 0 0 fa52_0] rfl ?_
  refine ow_r rfl (dstOk_lt rfl) (ry_box1 (off := 0) rfl rfl ty33 (boxIn (i := 1) rfl) rfl) ?_
  refine ow_batch [.lenS 33 82 sl33, .p, .p] rfl ?_
  refine ow_cut [(22, .bool (((p0.Table_.length : Int) != (p1.Table_.length : Int)) || ((p0.Last_.length : Int) != (p1.Last_.length : Int)))), (2, .pointer (some ⟨b17, 0, none⟩)), (3, .pointer (some ⟨b18, 0, none⟩))] 8 ?_ (fun key => OW.sub (R := [(2, .pointer (some ⟨b17, 0, none⟩)), (3, .pointer (some ⟨b18, 0, none⟩)), (14, .bool ((p0.Table_.length : Int) != (p1.Table_.length : Int)))]) ?_ ⟨rfl, rfl, rfl, trivial⟩)
  · refine ow_nil ?_
    refine x_qs ?_
    refine c_if rfl (fun hb => ?_) (fun hb => ?_)
    · have H := of_if_t hb H
      refine c_seq ?_
      refine c_reg ?_
      refine ow_batch [.p] rfl ?_
      refine ow_nil ?_
      refine x_qs ?_
      refine c_ret ?_
      refine x_qs_ret ?_
      exact x_retR (rs := [.tmp 4]) (vs := [.bool false]) rfl ⟨rfl, trivial⟩ (fun w' hw' => by
          obtain rfl := of_some H
          exact ⟨rfl, hw'.ext⟩)
    · have H := of_if_f hb H
      refine c_skip ?_
      refine x_qs ?_
      refine c_seq ?_
      refine c_seq ?_
      refine c_reg ?_
      refine ow_batch [.p] rfl ?_
      refine ow_nil ?_
      refine x_qs ?_
      refine c_block ?_
      refine CW.at (loopI1 (fun (i40 : Int) => St w [] [Res.box b17 52 [.slice a5 p0.Table_.length c6, .slice a7 p0.Last_.length c8], Res.box b18 52 [.slice a13 p1.Table_.length c14, .slice a15 p1.Last_.length c16]]) (fun (i40 : Int) => [(2, .pointer (some ⟨b17, 0, none⟩)), (3, .pointer (some ⟨b18, 0, none⟩)), (5, .int .i64 i40)]) (fun kk => fun (i40 : Int) => spec_ScoreSame_L1 p0 p1 kk i40 = some r) (fun _ H => ?_) (fun k1 ihk1 i40 H => ?_) Fuel (0) (H)) (fun _ h => St.sel [0, 1] rfl rfl h) ⟨rfl, rfl, rfl,  trivial⟩
      · unfold spec_ScoreSame_L1 at H
        exact absurd H (by simp)
      · unfold spec_ScoreSame_L1 at H
        refine c_seq ?_
        refine c_seq ?_
        refine c_reg ?_
        refine ow_batch [.p, .fa 52 0 0 fa52_0] rfl ?_
        refine ow_r rfl (dstOk_lt rfl) (ry_box1 (off := 0) rfl rfl ty33 (boxIn (i := 0) rfl) rfl) ?_
        refine ow_batch [.lenS 33 82 sl33, .p] rfl ?_
        refine ow_nil ?_
        refine x_qs ?_
        refine c_if rfl (fun hb => ?_) (fun hb => ?_)
        · have H := of_if_t hb H
          refine c_skip ?_
          refine x_qs ?_
          refine c_seq ?_
          refine c_block ?_
          refine c_seq ?_
          refine c_regQ mixed (by kernel_rfl) ?_
          refine ow_batch [.fa 52 0 0 fa52_0] rfl ?_
          refine ow_r rfl (dstOk_lt rfl) (ry_box1 (off := 0) rfl rfl ty33 (boxIn (i := 0) rfl) rfl) ?_
          refine ow_batch [.p] rfl ?_
          obtain ⟨e60, h61, H⟩ := of_bind H
          refine ow_ixB rfl rfl rfl rfl rfl sl33 ty82 rfl g3 h61 (fun q64 c65 hd62 hA63 => ?_)
          obtain ⟨a66, c67, rfl⟩ := rd_sl1 hd62
          refine ow_r rfl (dstOk_lt rfl) (ry_load1 rfl rfl ty82 (at_bor bor hA63)) ?_
          refine ow_batch [.fa 52 0 0 fa52_0] rfl ?_
          refine ow_r rfl (dstOk_lt rfl) (ry_box1 (off := 0) rfl rfl ty33 (boxIn (i := 1) rfl) rfl) ?_
          refine ow_batch [.p] rfl ?_
          obtain ⟨e68, h69, H⟩ := of_bind H
          refine ow_ixB rfl rfl rfl rfl rfl sl33 ty82 rfl g11 h69 (fun q72 c73 hd70 hA71 => ?_)
          obtain ⟨a74, c75, rfl⟩ := rd_sl1 hd70
          refine ow_r rfl (dstOk_lt rfl) (ry_load1 rfl rfl ty82 (at_bor bor hA71)) ?_
          obtain ⟨y76, h77, H⟩ := of_bind H
          refine ow_q rfl rfl (dstOk_lt rfl) (qy_call rfl fn30 rfl (fun w1 hw1 => spec_l5SameInts_ok w1  h77 (rds_bor hd62 w1 hw1) (rds_bor hd70 w1 hw1))) (fun _ _ => trivial) ?_
          refine ow_batch [.p] rfl ?_
          refine ow_nilQ ?_
          refine x_qs ?_
          refine c_if rfl (fun hb => ?_) (fun hb => ?_)
          · have H := of_if_t hb H
            refine c_seq ?_
            refine c_reg ?_
            refine ow_batch [.p] rfl ?_
            refine ow_nil ?_
            refine x_qs ?_
            refine c_ret ?_
            refine x_qb_ret ?_
            refine x_qs_ret ?_
            refine x_ql_ret ?_
            refine x_qb_ret ?_
            refine x_qs_ret ?_
            exact x_retR (rs := [.tmp 4]) (vs := [.bool false]) rfl ⟨rfl, trivial⟩ (fun w' hw' => by
                obtain rfl := of_some H
                exact ⟨rfl, hw'.ext⟩)
          · have H := of_if_f hb H
            refine c_skip ?_
            refine x_qb ?_
            refine x_qs ?_
            refine c_reg ?_
            refine ow_batch [.p, .p, .p] rfl ?_
            refine ow_nil ?_
            exact x_ql (RW.at (ihk1 (IntKind.i64.wrap (i40 + 1)) (H)) (fun _ h => St.sel [0, 1] rfl rfl h) ⟨rfl, rfl, rfl, trivial⟩)
        · have H := of_if_f hb H
          refine c_exit ?_
          refine x_qs_exit ?_
          refine x_ql_exit ?_
          refine x_qb_here ?_
          refine x_qs ?_
          refine c_seq ?_
          refine c_seq ?_
          refine c_reg ?_
          refine ow_batch [.p] rfl ?_
          refine ow_nil ?_
          refine x_qs ?_
          refine c_block ?_
          refine CW.at (loopI1 (fun (i83 : Int) => St w [] [Res.box b17 52 [.slice a5 p0.Table_.length c6, .slice a7 p0.Last_.length c8], Res.box b18 52 [.slice a13 p1.Table_.length c14, .slice a15 p1.Last_.length c16]]) (fun (i83 : Int) => [(2, .pointer (some ⟨b17, 0, none⟩)), (3, .pointer (some ⟨b18, 0, none⟩)), (6, .int .i64 i83)]) (fun kk => fun (i83 : Int) => spec_ScoreSame_L2 p0 p1 kk i83 = some r) (fun _ H => ?_) (fun k2 ihk2 i83 H => ?_) Fuel (0) (H)) (fun _ h => St.sel [0, 1] rfl rfl h) ⟨rfl, rfl, rfl,  trivial⟩
          · unfold spec_ScoreSame_L2 at H
            exact absurd H (by simp)
          · unfold spec_ScoreSame_L2 at H
            refine c_seq ?_
            refine c_seq ?_
            refine c_reg ?_
            refine ow_batch [.p, .fa 52 1 1 fa52_1] rfl ?_
            refine ow_r rfl (dstOk_lt rfl) (ry_box1 (off := 1) rfl rfl ty50 (boxIn (i := 0) rfl) rfl) ?_
            refine ow_batch [.lenS 50 84 sl50, .p] rfl ?_
            refine ow_nil ?_
            refine x_qs ?_
            refine c_if rfl (fun hb => ?_) (fun hb => ?_)
            · have H := of_if_t hb H
              refine c_skip ?_
              refine x_qs ?_
              refine c_seq ?_
              refine c_block ?_
              refine c_seq ?_
              refine c_regQ mixed (by kernel_rfl) ?_
              refine ow_batch [.fa 52 1 1 fa52_1] rfl ?_
              refine ow_r rfl (dstOk_lt rfl) (ry_box1 (off := 1) rfl rfl ty50 (boxIn (i := 0) rfl) rfl) ?_
              refine ow_batch [.p] rfl ?_
              obtain ⟨e89, h90, H⟩ := of_bind H
              refine ow_ixE (e := eTimpl_Pair) (xs := p0.Last_) (j := i83) rfl rfl rfl rfl rfl sl50 ty84 rfl (fun w1 hw1 => rds_bor g4 w1 hw1) h90 rfl ?_
              refine ow_r rfl (dstOk_lt rfl) (ry_load (cs := [.int .i64 e89.Truth_, .int .i64 e89.Said_]) rfl rfl ty84 (at_castA (at_eltE (fun w1 hw1 => rds_bor g4 w1 hw1) h90 (fun _ _ h => h)) rfl) rfl) ?_
              refine ow_batch [.fa 52 1 1 fa52_1] rfl ?_
              refine ow_r rfl (dstOk_lt rfl) (ry_box1 (off := 1) rfl rfl ty50 (boxIn (i := 1) rfl) rfl) ?_
              refine ow_batch [.p] rfl ?_
              obtain ⟨e91, h92, H⟩ := of_bind H
              refine ow_ixE (e := eTimpl_Pair) (xs := p1.Last_) (j := i83) rfl rfl rfl rfl rfl sl50 ty84 rfl (fun w1 hw1 => rds_bor g12 w1 hw1) h92 rfl ?_
              refine ow_r rfl (dstOk_lt rfl) (ry_load (cs := [.int .i64 e91.Truth_, .int .i64 e91.Said_]) rfl rfl ty84 (at_castA (at_eltE (fun w1 hw1 => rds_bor g12 w1 hw1) h92 (fun _ _ h => h)) rfl) rfl) ?_
              refine ow_r rfl (dstOk_lt rfl) (ry_sneq (xs := [.int .i64 e89.Truth_, .int .i64 e89.Said_]) (ys := [.int .i64 e91.Truth_, .int .i64 e91.Said_]) rfl rfl rfl (se84 e89.Truth_ e91.Truth_ e89.Said_ e91.Said_)) ?_
              refine ow_nilQ ?_
              refine x_qs ?_
              refine c_if rfl (fun hb => ?_) (fun hb => ?_)
              · have H := of_if_t hb H
                refine c_seq ?_
                refine c_reg ?_
                refine ow_batch [.p] rfl ?_
                refine ow_nil ?_
                refine x_qs ?_
                refine c_ret ?_
                refine x_qb_ret ?_
                refine x_qs_ret ?_
                refine x_ql_ret ?_
                refine x_qb_ret ?_
                refine x_qs_ret ?_
                exact x_retR (rs := [.tmp 4]) (vs := [.bool false]) rfl ⟨rfl, trivial⟩ (fun w' hw' => by
                    obtain rfl := of_some H
                    exact ⟨rfl, hw'.ext⟩)
              · have H := of_if_f hb H
                refine c_skip ?_
                refine x_qb ?_
                refine x_qs ?_
                refine c_reg ?_
                refine ow_batch [.p, .p, .p] rfl ?_
                refine ow_nil ?_
                exact x_ql (RW.at (ihk2 (IntKind.i64.wrap (i83 + 1)) (H)) (fun _ h => St.sel [0, 1] rfl rfl h) ⟨rfl, rfl, rfl, trivial⟩)
            · have H := of_if_f hb H
              refine c_exit ?_
              refine x_qs_exit ?_
              refine x_ql_exit ?_
              refine x_qb_here ?_
              refine x_qs ?_
              refine c_seq ?_
              refine c_reg ?_
              refine ow_batch [.p] rfl ?_
              refine ow_nil ?_
              refine x_qs ?_
              refine c_ret ?_
              exact x_retR (rs := [.tmp 4]) (vs := [.bool true]) rfl ⟨rfl, trivial⟩ (fun w' hw' => by
                  obtain rfl := of_some H
                  exact ⟨rfl, hw'.ext⟩)
  · generalize ((p0.Table_.length : Int) != (p1.Table_.length : Int)) = t20 at key ⊢
    cases t20
    · refine ow_batch [.fa 52 1 1 fa52_1] rfl ?_
      refine ow_r rfl (dstOk_lt rfl) (ry_box1 (off := 1) rfl rfl ty50 (boxIn (i := 0) rfl) rfl) ?_
      refine ow_batch [.lenS 50 84 sl50, .fa 52 1 1 fa52_1] rfl ?_
      refine ow_r rfl (dstOk_lt rfl) (ry_box1 (off := 1) rfl rfl ty50 (boxIn (i := 1) rfl) rfl) ?_
      refine ow_batch [.lenS 50 84 sl50, .p] rfl ?_
      refine ow_batch [.p] rfl ?_
      exact OW.sub key ⟨rfl, rfl, rfl, trivial⟩
    · refine ow_batch [.p, .p, .p, .p, .p, .p, .p, .p] rfl ?_
      exact OW.sub key ⟨rfl, rfl, rfl, trivial⟩

set_option maxHeartbeats 4000000 in
set_option maxRecDepth 100000 in
theorem spec_StateSame_ok (w : World) {p0 : Timpl_State} {p1 : Timpl_State} {cs0 : List Value} {cs1 : List Value} {r : Bool} (H : spec_StateSame p0 p1 = some r)  (g0 : (eTimpl_State).rd w [] p0 cs0) (g1 : (eTimpl_State).rd w [] p1 cs1) :
    Calls Try.prog 5 #[.agg cs0.toArray, .agg cs1.toArray] w (fun en w' => en = .returned (.bool r) ∧ Ext [] w w') := by
  obtain ⟨c1, c2, c3, rfl, g4, g5, g6⟩ := rdo_Timpl_State g0
  obtain ⟨c7, c8, c9, c10, c11, c12, c13, rfl, g14, g15, g16, g17, g18, g19, g20⟩ := rdo_Timpl_Conf g4
  obtain ⟨c21, c22, rfl, g23, g24⟩ := rdo_Timpl_Schema g14
  obtain ⟨a25, c26, rfl⟩ := rd_sl1 g23
  obtain ⟨a27, c28, rfl⟩ := rd_sl1 g24
  obtain rfl : c8 = [.int .i64 p0.Conf_.Rule_.Sure_, .int .i64 p0.Conf_.Rule_.Tie_, .int .i64 p0.Conf_.Rule_.Grace_, .int .i64 p0.Conf_.Rule_.Depth_, .int .i64 p0.Conf_.Rule_.Nodes_, .int .i64 p0.Conf_.Rule_.Units_, .bool p0.Conf_.Rule_.Two_] := g15
  obtain rfl : c9 = [.int .i64 p0.Conf_.Members_] := g16
  obtain rfl : c10 = [.int .i64 p0.Conf_.Pick_] := g17
  obtain rfl : c11 = [.int .i64 p0.Conf_.Lambda_] := g18
  obtain rfl : c12 = [.int .i64 p0.Conf_.Warn_] := g19
  obtain rfl : c13 = [.int .i64 p0.Conf_.Drift_] := g20
  obtain ⟨c29, rfl, g30⟩ := rdo_Timpl_Forest g5
  obtain ⟨a31, c32, rfl⟩ := rd_sl1 g30
  obtain ⟨c33, c34, rfl, g35, g36⟩ := rdo_Timpl_Score g6
  obtain ⟨a37, c38, rfl⟩ := rd_sl1 g35
  obtain ⟨a39, c40, rfl⟩ := rd_sl1 g36
  obtain ⟨c41, c42, c43, rfl, g44, g45, g46⟩ := rdo_Timpl_State g1
  obtain ⟨c47, c48, c49, c50, c51, c52, c53, rfl, g54, g55, g56, g57, g58, g59, g60⟩ := rdo_Timpl_Conf g44
  obtain ⟨c61, c62, rfl, g63, g64⟩ := rdo_Timpl_Schema g54
  obtain ⟨a65, c66, rfl⟩ := rd_sl1 g63
  obtain ⟨a67, c68, rfl⟩ := rd_sl1 g64
  obtain rfl : c48 = [.int .i64 p1.Conf_.Rule_.Sure_, .int .i64 p1.Conf_.Rule_.Tie_, .int .i64 p1.Conf_.Rule_.Grace_, .int .i64 p1.Conf_.Rule_.Depth_, .int .i64 p1.Conf_.Rule_.Nodes_, .int .i64 p1.Conf_.Rule_.Units_, .bool p1.Conf_.Rule_.Two_] := g55
  obtain rfl : c49 = [.int .i64 p1.Conf_.Members_] := g56
  obtain rfl : c50 = [.int .i64 p1.Conf_.Pick_] := g57
  obtain rfl : c51 = [.int .i64 p1.Conf_.Lambda_] := g58
  obtain rfl : c52 = [.int .i64 p1.Conf_.Warn_] := g59
  obtain rfl : c53 = [.int .i64 p1.Conf_.Drift_] := g60
  obtain ⟨c69, rfl, g70⟩ := rdo_Timpl_Forest g45
  obtain ⟨a71, c72, rfl⟩ := rd_sl1 g70
  obtain ⟨c73, c74, rfl, g75, g76⟩ := rdo_Timpl_Score g46
  obtain ⟨a77, c78, rfl⟩ := rd_sl1 g75
  obtain ⟨a79, c80, rfl⟩ := rd_sl1 g76
  unfold spec_StateSame at H
  refine f_enter (vs := [.agg #[.slice a25 p0.Conf_.Schema_.Attrs_.length c26, .slice a27 p0.Conf_.Schema_.Classes_.length c28, .int .i64 p0.Conf_.Rule_.Sure_, .int .i64 p0.Conf_.Rule_.Tie_, .int .i64 p0.Conf_.Rule_.Grace_, .int .i64 p0.Conf_.Rule_.Depth_, .int .i64 p0.Conf_.Rule_.Nodes_, .int .i64 p0.Conf_.Rule_.Units_, .bool p0.Conf_.Rule_.Two_, .int .i64 p0.Conf_.Members_, .int .i64 p0.Conf_.Pick_, .int .i64 p0.Conf_.Lambda_, .int .i64 p0.Conf_.Warn_, .int .i64 p0.Conf_.Drift_, .slice a31 p0.Forest_.Members_.length c32, .slice a37 p0.Score_.Table_.length c38, .slice a39 p0.Score_.Last_.length c40], .agg #[.slice a65 p1.Conf_.Schema_.Attrs_.length c66, .slice a67 p1.Conf_.Schema_.Classes_.length c68, .int .i64 p1.Conf_.Rule_.Sure_, .int .i64 p1.Conf_.Rule_.Tie_, .int .i64 p1.Conf_.Rule_.Grace_, .int .i64 p1.Conf_.Rule_.Depth_, .int .i64 p1.Conf_.Rule_.Nodes_, .int .i64 p1.Conf_.Rule_.Units_, .bool p1.Conf_.Rule_.Two_, .int .i64 p1.Conf_.Members_, .int .i64 p1.Conf_.Pick_, .int .i64 p1.Conf_.Lambda_, .int .i64 p1.Conf_.Warn_, .int .i64 p1.Conf_.Drift_, .slice a71 p1.Forest_.Members_.length c72, .slice a77 p1.Score_.Table_.length c78, .slice a79 p1.Score_.Last_.length c80]]) Try.func5 rfl Try.ntmps5 rfl (St.init w []) ?_
  refine c_seq ?_
  refine c_reg ?_
  refine ow_box (cs := [.slice a25 p0.Conf_.Schema_.Attrs_.length c26, .slice a27 p0.Conf_.Schema_.Classes_.length c28, .int .i64 p0.Conf_.Rule_.Sure_, .int .i64 p0.Conf_.Rule_.Tie_, .int .i64 p0.Conf_.Rule_.Grace_, .int .i64 p0.Conf_.Rule_.Depth_, .int .i64 p0.Conf_.Rule_.Nodes_, .int .i64 p0.Conf_.Rule_.Units_, .bool p0.Conf_.Rule_.Two_, .int .i64 p0.Conf_.Members_, .int .i64 p0.Conf_.Pick_, .int .i64 p0.Conf_.Lambda_, .int .i64 p0.Conf_.Warn_, .int .i64 p0.Conf_.Drift_, .slice a31 p0.Forest_.Members_.length c32, .slice a37 p0.Score_.Table_.length c38, .slice a39 p0.Score_.Last_.length c40]) rfl rfl rfl rfl rfl rfl (fun _ => kp) (fun b81 => ?_)
  refine ow_box (cs := [.slice a65 p1.Conf_.Schema_.Attrs_.length c66, .slice a67 p1.Conf_.Schema_.Classes_.length c68, .int .i64 p1.Conf_.Rule_.Sure_, .int .i64 p1.Conf_.Rule_.Tie_, .int .i64 p1.Conf_.Rule_.Grace_, .int .i64 p1.Conf_.Rule_.Depth_, .int .i64 p1.Conf_.Rule_.Nodes_, .int .i64 p1.Conf_.Rule_.Units_, .bool p1.Conf_.Rule_.Two_, .int .i64 p1.Conf_.Members_, .int .i64 p1.Conf_.Pick_, .int .i64 p1.Conf_.Lambda_, .int .i64 p1.Conf_.Warn_, .int .i64 p1.Conf_.Drift_, .slice a71 p1.Forest_.Members_.length c72, .slice a77 p1.Score_.Table_.length c78, .slice a79 p1.Score_.Last_.length c80]) rfl rfl rfl rfl rfl rfl (fun _ => kp) (fun b82 => ?_)
  refine ow_batch [.p] rfl ?_
  refine ow_nil ?_
  refine x_qs ?_
  refine c_seq ?_
  refine c_reg ?_
  refine ow_batch [.fa 54 0 0 fa54_0] rfl ?_
  refine ow_r rfl (dstOk_lt rfl) (ry_box (off := 0) (ds := [.slice a25 p0.Conf_.Schema_.Attrs_.length c26, .slice a27 p0.Conf_.Schema_.Classes_.length c28, .int .i64 p0.Conf_.Rule_.Sure_, .int .i64 p0.Conf_.Rule_.Tie_, .int .i64 p0.Conf_.Rule_.Grace_, .int .i64 p0.Conf_.Rule_.Depth_, .int .i64 p0.Conf_.Rule_.Nodes_, .int .i64 p0.Conf_.Rule_.Units_, .bool p0.Conf_.Rule_.Two_, .int .i64 p0.Conf_.Members_, .int .i64 p0.Conf_.Pick_, .int .i64 p0.Conf_.Lambda_, .int .i64 p0.Conf_.Warn_, .int .i64 p0.Conf_.Drift_]) rfl rfl ty46 (boxIn (i := 0) rfl) rfl rfl) ?_
  refine ow_batch [.fa 54 0 0 fa54_0] rfl ?_
  refine ow_r rfl (dstOk_lt rfl) (ry_box (off := 0) (ds := [.slice a65 p1.Conf_.Schema_.Attrs_.length c66, .slice a67 p1.Conf_.Schema_.Classes_.length c68, .int .i64 p1.Conf_.Rule_.Sure_, .int .i64 p1.Conf_.Rule_.Tie_, .int .i64 p1.Conf_.Rule_.Grace_, .int .i64 p1.Conf_.Rule_.Depth_, .int .i64 p1.Conf_.Rule_.Nodes_, .int .i64 p1.Conf_.Rule_.Units_, .bool p1.Conf_.Rule_.Two_, .int .i64 p1.Conf_.Members_, .int .i64 p1.Conf_.Pick_, .int .i64 p1.Conf_.Lambda_, .int .i64 p1.Conf_.Warn_, .int .i64 p1.Conf_.Drift_]) rfl rfl ty46 (boxIn (i := 1) rfl) rfl rfl) ?_
  obtain ⟨y83, h84, H⟩ := of_bind H
  refine ow_q rfl rfl (dstOk_lt rfl) (qy_call rfl fn12 rfl (fun w1 hw1 => spec_ConfSame_ok w1 (cs0 := [.slice a25 p0.Conf_.Schema_.Attrs_.length c26, .slice a27 p0.Conf_.Schema_.Classes_.length c28, .int .i64 p0.Conf_.Rule_.Sure_, .int .i64 p0.Conf_.Rule_.Tie_, .int .i64 p0.Conf_.Rule_.Grace_, .int .i64 p0.Conf_.Rule_.Depth_, .int .i64 p0.Conf_.Rule_.Nodes_, .int .i64 p0.Conf_.Rule_.Units_, .bool p0.Conf_.Rule_.Two_, .int .i64 p0.Conf_.Members_, .int .i64 p0.Conf_.Pick_, .int .i64 p0.Conf_.Lambda_, .int .i64 p0.Conf_.Warn_, .int .i64 p0.Conf_.Drift_]) (cs1 := [.slice a65 p1.Conf_.Schema_.Attrs_.length c66, .slice a67 p1.Conf_.Schema_.Classes_.length c68, .int .i64 p1.Conf_.Rule_.Sure_, .int .i64 p1.Conf_.Rule_.Tie_, .int .i64 p1.Conf_.Rule_.Grace_, .int .i64 p1.Conf_.Rule_.Depth_, .int .i64 p1.Conf_.Rule_.Nodes_, .int .i64 p1.Conf_.Rule_.Units_, .bool p1.Conf_.Rule_.Two_, .int .i64 p1.Conf_.Members_, .int .i64 p1.Conf_.Pick_, .int .i64 p1.Conf_.Lambda_, .int .i64 p1.Conf_.Warn_, .int .i64 p1.Conf_.Drift_]) h84 (rdm_Timpl_Conf (x := p0.Conf_) (c0 := [.slice a25 p0.Conf_.Schema_.Attrs_.length c26, .slice a27 p0.Conf_.Schema_.Classes_.length c28]) (c1 := [.int .i64 p0.Conf_.Rule_.Sure_, .int .i64 p0.Conf_.Rule_.Tie_, .int .i64 p0.Conf_.Rule_.Grace_, .int .i64 p0.Conf_.Rule_.Depth_, .int .i64 p0.Conf_.Rule_.Nodes_, .int .i64 p0.Conf_.Rule_.Units_, .bool p0.Conf_.Rule_.Two_]) (c2 := [.int .i64 p0.Conf_.Members_]) (c3 := [.int .i64 p0.Conf_.Pick_]) (c4 := [.int .i64 p0.Conf_.Lambda_]) (c5 := [.int .i64 p0.Conf_.Warn_]) (c6 := [.int .i64 p0.Conf_.Drift_]) (rdm_Timpl_Schema (x := p0.Conf_.Schema_) (c0 := [.slice a25 p0.Conf_.Schema_.Attrs_.length c26]) (c1 := [.slice a27 p0.Conf_.Schema_.Classes_.length c28]) (rds_bor g23 w1 hw1) (rds_bor g24 w1 hw1)) rfl rfl rfl rfl rfl rfl) (rdm_Timpl_Conf (x := p1.Conf_) (c0 := [.slice a65 p1.Conf_.Schema_.Attrs_.length c66, .slice a67 p1.Conf_.Schema_.Classes_.length c68]) (c1 := [.int .i64 p1.Conf_.Rule_.Sure_, .int .i64 p1.Conf_.Rule_.Tie_, .int .i64 p1.Conf_.Rule_.Grace_, .int .i64 p1.Conf_.Rule_.Depth_, .int .i64 p1.Conf_.Rule_.Nodes_, .int .i64 p1.Conf_.Rule_.Units_, .bool p1.Conf_.Rule_.Two_]) (c2 := [.int .i64 p1.Conf_.Members_]) (c3 := [.int .i64 p1.Conf_.Pick_]) (c4 := [.int .i64 p1.Conf_.Lambda_]) (c5 := [.int .i64 p1.Conf_.Warn_]) (c6 := [.int .i64 p1.Conf_.Drift_]) (rdm_Timpl_Schema (x := p1.Conf_.Schema_) (c0 := [.slice a65 p1.Conf_.Schema_.Attrs_.length c66]) (c1 := [.slice a67 p1.Conf_.Schema_.Classes_.length c68]) (rds_bor g63 w1 hw1) (rds_bor g64 w1 hw1)) rfl rfl rfl rfl rfl rfl))) (fun _ _ => trivial) ?_
  refine ow_batch [.p] rfl ?_
  obtain ⟨u85, hu89, H⟩ := of_bind H
  refine ow_cut [(16, .bool u85), (2, .pointer (some ⟨b81, 0, none⟩)), (3, .pointer (some ⟨b82, 0, none⟩)), (4, .bool false)] 6 ?_ (fun key => OW.sub (R := [(2, .pointer (some ⟨b81, 0, none⟩)), (3, .pointer (some ⟨b82, 0, none⟩)), (4, .bool false), (10, .bool y83)]) ?_ ⟨rfl, rfl, rfl, rfl, trivial⟩)
  · refine ow_batch [.p] rfl ?_
    obtain ⟨u90, hu94, H⟩ := of_bind H
    refine ow_cut [(23, .bool u90), (4, .bool false)] 6 ?_ (fun key => OW.sub (R := [(2, .pointer (some ⟨b81, 0, none⟩)), (3, .pointer (some ⟨b82, 0, none⟩)), (4, .bool false), (17, .bool u85)]) ?_ ⟨rfl, rfl, rfl, rfl, trivial⟩)
    · refine ow_batch [.p] rfl ?_
      refine ow_nil ?_
      refine x_qs ?_
      refine c_ret ?_
      exact x_retR (rs := [.tmp 4]) (vs := [.bool u90]) rfl ⟨rfl, trivial⟩ (fun w' hw' => by
          obtain rfl := of_some H
          exact ⟨rfl, hw'.ext⟩)
    · clear H
      have H := hu94
      clear hu94
      generalize u85 = t93 at H ⊢
      cases t93
      · have H := of_if_f rfl H
        refine ow_batch [.p, .p, .p, .p, .p, .p] rfl ?_
        obtain rfl := of_some H
        exact OW.sub key ⟨rfl, rfl, trivial⟩
      · have H := of_if_t rfl H
        refine ow_batch [.fa 54 2 15 fa54_2] rfl ?_
        refine ow_r rfl (dstOk_lt rfl) (ry_box (off := 15) (ds := [.slice a37 p0.Score_.Table_.length c38, .slice a39 p0.Score_.Last_.length c40]) rfl rfl ty52 (boxIn (i := 0) rfl) rfl rfl) ?_
        refine ow_batch [.fa 54 2 15 fa54_2] rfl ?_
        refine ow_r rfl (dstOk_lt rfl) (ry_box (off := 15) (ds := [.slice a77 p1.Score_.Table_.length c78, .slice a79 p1.Score_.Last_.length c80]) rfl rfl ty52 (boxIn (i := 1) rfl) rfl rfl) ?_
        obtain ⟨y91, h92, H⟩ := of_bind H
        refine ow_q rfl rfl (dstOk_lt rfl) (qy_call rfl fn14 rfl (fun w1 hw1 => spec_ScoreSame_ok w1 (cs0 := [.slice a37 p0.Score_.Table_.length c38, .slice a39 p0.Score_.Last_.length c40]) (cs1 := [.slice a77 p1.Score_.Table_.length c78, .slice a79 p1.Score_.Last_.length c80]) h92 (rdm_Timpl_Score (x := p0.Score_) (c0 := [.slice a37 p0.Score_.Table_.length c38]) (c1 := [.slice a39 p0.Score_.Last_.length c40]) (rds_bor g35 w1 hw1) (rds_bor g36 w1 hw1)) (rdm_Timpl_Score (x := p1.Score_) (c0 := [.slice a77 p1.Score_.Table_.length c78]) (c1 := [.slice a79 p1.Score_.Last_.length c80]) (rds_bor g75 w1 hw1) (rds_bor g76 w1 hw1)))) (fun _ _ => trivial) ?_
        refine ow_batch [.p] rfl ?_
        obtain rfl := of_some H
        exact OW.sub key ⟨rfl, rfl, trivial⟩
  · clear H
    have H := hu89
    clear hu89
    generalize y83 = t88 at H ⊢
    cases t88
    · have H := of_if_f rfl H
      refine ow_batch [.p, .p, .p, .p, .p, .p] rfl ?_
      obtain rfl := of_some H
      exact OW.sub key ⟨rfl, rfl, rfl, rfl, trivial⟩
    · have H := of_if_t rfl H
      refine ow_batch [.fa 54 1 14 fa54_1] rfl ?_
      refine ow_r rfl (dstOk_lt rfl) (ry_box (off := 14) (ds := [.slice a31 p0.Forest_.Members_.length c32]) rfl rfl ty49 (boxIn (i := 0) rfl) rfl rfl) ?_
      refine ow_batch [.fa 54 1 14 fa54_1] rfl ?_
      refine ow_r rfl (dstOk_lt rfl) (ry_box (off := 14) (ds := [.slice a71 p1.Forest_.Members_.length c72]) rfl rfl ty49 (boxIn (i := 1) rfl) rfl rfl) ?_
      obtain ⟨y86, h87, H⟩ := of_bind H
      refine ow_q rfl rfl (dstOk_lt rfl) (qy_call rfl fn13 rfl (fun w1 hw1 => spec_ForestSame_ok w1 (cs0 := [.slice a31 p0.Forest_.Members_.length c32]) (cs1 := [.slice a71 p1.Forest_.Members_.length c72]) h87 (rdm_Timpl_Forest (x := p0.Forest_) (c0 := [.slice a31 p0.Forest_.Members_.length c32]) (rds_bor g30 w1 hw1)) (rdm_Timpl_Forest (x := p1.Forest_) (c0 := [.slice a71 p1.Forest_.Members_.length c72]) (rds_bor g70 w1 hw1)))) (fun _ _ => trivial) ?_
      refine ow_batch [.p] rfl ?_
      obtain rfl := of_some H
      exact OW.sub key ⟨rfl, rfl, rfl, rfl, trivial⟩

set_option maxHeartbeats 4000000 in
set_option maxRecDepth 100000 in
theorem lib_slices_Equal___string_string__ok (w : World) {p0 : List (List UInt8)} {p1 : List (List UInt8)} {a_0 : Option Addr} {n_0 c_0 : Nat} {a_1 : Option Addr} {n_1 c_1 : Nat} {r : Bool} (H : lib_slices_Equal___string_string_ p0 p1 = some r)  (g0 : (eList (eStr) 9).rd w [] p0 [.slice a_0 n_0 c_0]) (g1 : (eList (eStr) 9).rd w [] p1 [.slice a_1 n_1 c_1]) :
    Calls Try.prog 58 #[.slice a_0 n_0 c_0, .slice a_1 n_1 c_1] w (fun en w' => en = .returned (.bool r) ∧ Ext [] w w') := by
  obtain rfl := rd_n g0
  obtain rfl := rd_n g1
  unfold lib_slices_Equal___string_string_ at H
  refine f_enter (vs := [.slice a_0 p0.length c_0, .slice a_1 p1.length c_1]) Try.func58 rfl Try.ntmps58 rfl (St.init w []) ?_
  refine c_seq ?_
  refine c_reg ?_
  refine ow_batch [.p] rfl ?_
  refine ow_nil ?_
  refine x_qs ?_
  refine c_seq ?_
  refine c_seq ?_
  refine c_reg ?_
  refine ow_batch [.p, .lenS 23 9 sl23, .p, .lenS 23 9 sl23, .p] rfl ?_
  refine ow_nil ?_
  refine x_qs ?_
  refine c_if rfl (fun hb => ?_) (fun hb => ?_)
  · have H := of_if_t hb H
    refine c_seq ?_
    refine c_reg ?_
    refine ow_batch [.p] rfl ?_
    refine ow_nil ?_
    refine x_qs ?_
    refine c_ret ?_
    refine x_qs_ret ?_
    exact x_retR (rs := [.tmp 4]) (vs := [.bool false]) rfl ⟨rfl, trivial⟩ (fun w' hw' => by
        obtain rfl := of_some H
        exact ⟨rfl, hw'.ext⟩)
  · have H := of_if_f hb H
    refine c_skip ?_
    refine x_qs ?_
    refine c_seq ?_
    refine c_seq ?_
    refine c_reg ?_
    refine ow_batch [.p, .lenS 23 9 sl23, .p] rfl ?_
    refine ow_nil ?_
    refine x_qs ?_
    refine c_block ?_
    refine CW.at (loopI1 (fun (i6 : Int) => St w [] []) (fun (i6 : Int) => [(0, .slice a_0 p0.length c_0), (1, .slice a_1 p1.length c_1), (12, .int .i64 (p0.length : Int)), (13, .int .i64 i6)]) (fun kk => fun (i6 : Int) => lib_slices_Equal___string_string__L1 p0 p1 kk i6 = some r) (fun _ H => ?_) (fun k1 ihk1 i6 H => ?_) Fuel (0) (H)) (fun _ h => St.sel [] rfl rfl h) ⟨rfl, rfl, rfl, rfl,  trivial⟩
    · unfold lib_slices_Equal___string_string__L1 at H
      exact absurd H (by simp)
    · unfold lib_slices_Equal___string_string__L1 at H
      refine c_seq ?_
      refine c_reg ?_
      refine ow_batch [.p] rfl ?_
      refine ow_nil ?_
      refine x_qs ?_
      refine c_seq ?_
      refine c_if rfl (fun hb => ?_) (fun hb => ?_)
      · have H := of_if_t hb H
        refine c_skip ?_
        refine x_qs ?_
        refine c_seq ?_
        refine c_block ?_
        refine c_seq ?_
        refine c_reg ?_
        refine ow_batch [.p, .p] rfl ?_
        refine ow_nil ?_
        refine x_qs ?_
        refine c_seq ?_
        refine c_regQ mixed (by kernel_rfl) ?_
        refine ow_batch [.p, .p] rfl ?_
        obtain ⟨e12, h13, H⟩ := of_bind H
        refine ow_ixE (e := eStr) (xs := p0) (j := i6) rfl rfl rfl rfl rfl sl23 ty9 rfl (fun w1 hw1 => rds_bor g0 w1 hw1) h13 (by rw [Nat.mul_one]) ?_
        refine ow_r rfl (dstOk_lt rfl) (ry_load1 rfl rfl ty9 (at_elV (fun w1 hw1 => rds_bor g0 w1 hw1) h13)) ?_
        refine ow_batch [.p, .p] rfl ?_
        obtain ⟨e14, h15, H⟩ := of_bind H
        refine ow_ixE (e := eStr) (xs := p1) (j := i6) rfl rfl rfl rfl rfl sl23 ty9 rfl (fun w1 hw1 => rds_bor g1 w1 hw1) h15 (by rw [Nat.mul_one]) ?_
        refine ow_r rfl (dstOk_lt rfl) (ry_load1 rfl rfl ty9 (at_elV (fun w1 hw1 => rds_bor g1 w1 hw1) h15)) ?_
        refine ow_batch [.p] rfl ?_
        refine ow_nilQ ?_
        refine x_qs ?_
        refine c_if rfl (fun hb => ?_) (fun hb => ?_)
        · have H := of_if_t hb H
          refine c_seq ?_
          refine c_reg ?_
          refine ow_batch [.p] rfl ?_
          refine ow_nil ?_
          refine x_qs ?_
          refine c_ret ?_
          refine x_qb_ret ?_
          refine x_qs_ret ?_
          refine x_ql_ret ?_
          refine x_qb_ret ?_
          refine x_qs_ret ?_
          exact x_retR (rs := [.tmp 4]) (vs := [.bool false]) rfl ⟨rfl, trivial⟩ (fun w' hw' => by
              obtain rfl := of_some H
              exact ⟨rfl, hw'.ext⟩)
        · have H := of_if_f hb H
          refine c_skip ?_
          refine x_qb ?_
          refine x_qs ?_
          refine c_reg ?_
          refine ow_batch [.p, .p] rfl ?_
          refine ow_nil ?_
          exact x_ql (RW.at (ihk1 (IntKind.i64.wrap (i6 + 1)) (H)) (fun _ h => St.sel [] rfl rfl h) ⟨rfl, rfl, rfl, rfl, trivial⟩)
      · have H := of_if_f hb H
        refine c_exit ?_
        refine x_qs_exit ?_
        refine x_ql_exit ?_
        refine x_qb_here ?_
        refine x_qs ?_
        refine c_seq ?_
        refine c_reg ?_
        refine ow_batch [.p] rfl ?_
        refine ow_nil ?_
        refine x_qs ?_
        refine c_ret ?_
        exact x_retR (rs := [.tmp 4]) (vs := [.bool true]) rfl ⟨rfl, trivial⟩ (fun w' hw' => by
            obtain rfl := of_some H
            exact ⟨rfl, hw'.ext⟩)

set_option maxHeartbeats 4000000 in
set_option maxRecDepth 100000 in
theorem lib_slices_Equal___int_int__ok (w : World) {p0 : List Int} {p1 : List Int} {a_0 : Option Addr} {n_0 c_0 : Nat} {a_1 : Option Addr} {n_1 c_1 : Nat} {r : Bool} (H : lib_slices_Equal___int_int_ p0 p1 = some r)  (g0 : (eList (eVal (Value.int .i64) (fun _ => rfl)) 3).rd w [] p0 [.slice a_0 n_0 c_0]) (g1 : (eList (eVal (Value.int .i64) (fun _ => rfl)) 3).rd w [] p1 [.slice a_1 n_1 c_1]) :
    Calls Try.prog 61 #[.slice a_0 n_0 c_0, .slice a_1 n_1 c_1] w (fun en w' => en = .returned (.bool r) ∧ Ext [] w w') := by
  obtain rfl := rd_n g0
  obtain rfl := rd_n g1
  unfold lib_slices_Equal___int_int_ at H
  refine f_enter (vs := [.slice a_0 p0.length c_0, .slice a_1 p1.length c_1]) Try.func61 rfl Try.ntmps61 rfl (St.init w []) ?_
  refine c_seq ?_
  refine c_reg ?_
  refine ow_batch [.p] rfl ?_
  refine ow_nil ?_
  refine x_qs ?_
  refine c_seq ?_
  refine c_seq ?_
  refine c_reg ?_
  refine ow_batch [.p, .lenS 82 3 sl82, .p, .lenS 82 3 sl82, .p] rfl ?_
  refine ow_nil ?_
  refine x_qs ?_
  refine c_if rfl (fun hb => ?_) (fun hb => ?_)
  · have H := of_if_t hb H
    refine c_seq ?_
    refine c_reg ?_
    refine ow_batch [.p] rfl ?_
    refine ow_nil ?_
    refine x_qs ?_
    refine c_ret ?_
    refine x_qs_ret ?_
    exact x_retR (rs := [.tmp 4]) (vs := [.bool false]) rfl ⟨rfl, trivial⟩ (fun w' hw' => by
        obtain rfl := of_some H
        exact ⟨rfl, hw'.ext⟩)
  · have H := of_if_f hb H
    refine c_skip ?_
    refine x_qs ?_
    refine c_seq ?_
    refine c_seq ?_
    refine c_reg ?_
    refine ow_batch [.p, .lenS 82 3 sl82, .p] rfl ?_
    refine ow_nil ?_
    refine x_qs ?_
    refine c_block ?_
    refine CW.at (loopI1 (fun (i6 : Int) => St w [] []) (fun (i6 : Int) => [(0, .slice a_0 p0.length c_0), (1, .slice a_1 p1.length c_1), (12, .int .i64 (p0.length : Int)), (13, .int .i64 i6)]) (fun kk => fun (i6 : Int) => lib_slices_Equal___int_int__L1 p0 p1 kk i6 = some r) (fun _ H => ?_) (fun k1 ihk1 i6 H => ?_) Fuel (0) (H)) (fun _ h => St.sel [] rfl rfl h) ⟨rfl, rfl, rfl, rfl,  trivial⟩
    · unfold lib_slices_Equal___int_int__L1 at H
      exact absurd H (by simp)
    · unfold lib_slices_Equal___int_int__L1 at H
      refine c_seq ?_
      refine c_reg ?_
      refine ow_batch [.p] rfl ?_
      refine ow_nil ?_
      refine x_qs ?_
      refine c_seq ?_
      refine c_if rfl (fun hb => ?_) (fun hb => ?_)
      · have H := of_if_t hb H
        refine c_skip ?_
        refine x_qs ?_
        refine c_seq ?_
        refine c_block ?_
        refine c_seq ?_
        refine c_reg ?_
        refine ow_batch [.p, .p] rfl ?_
        refine ow_nil ?_
        refine x_qs ?_
        refine c_seq ?_
        refine c_regQ mixed (by kernel_rfl) ?_
        refine ow_batch [.p, .p] rfl ?_
        obtain ⟨e12, h13, H⟩ := of_bind H
        refine ow_ixE (e := eVal (Value.int .i64) (fun _ => rfl)) (xs := p0) (j := i6) rfl rfl rfl rfl rfl sl82 ty3 rfl (fun w1 hw1 => rds_bor g0 w1 hw1) h13 (by rw [Nat.mul_one]) ?_
        refine ow_r rfl (dstOk_lt rfl) (ry_load1 rfl rfl ty3 (at_elV (fun w1 hw1 => rds_bor g0 w1 hw1) h13)) ?_
        refine ow_batch [.p, .p] rfl ?_
        obtain ⟨e14, h15, H⟩ := of_bind H
        refine ow_ixE (e := eVal (Value.int .i64) (fun _ => rfl)) (xs := p1) (j := i6) rfl rfl rfl rfl rfl sl82 ty3 rfl (fun w1 hw1 => rds_bor g1 w1 hw1) h15 (by rw [Nat.mul_one]) ?_
        refine ow_r rfl (dstOk_lt rfl) (ry_load1 rfl rfl ty3 (at_elV (fun w1 hw1 => rds_bor g1 w1 hw1) h15)) ?_
        refine ow_batch [.p] rfl ?_
        refine ow_nilQ ?_
        refine x_qs ?_
        refine c_if rfl (fun hb => ?_) (fun hb => ?_)
        · have H := of_if_t hb H
          refine c_seq ?_
          refine c_reg ?_
          refine ow_batch [.p] rfl ?_
          refine ow_nil ?_
          refine x_qs ?_
          refine c_ret ?_
          refine x_qb_ret ?_
          refine x_qs_ret ?_
          refine x_ql_ret ?_
          refine x_qb_ret ?_
          refine x_qs_ret ?_
          exact x_retR (rs := [.tmp 4]) (vs := [.bool false]) rfl ⟨rfl, trivial⟩ (fun w' hw' => by
              obtain rfl := of_some H
              exact ⟨rfl, hw'.ext⟩)
        · have H := of_if_f hb H
          refine c_skip ?_
          refine x_qb ?_
          refine x_qs ?_
          refine c_reg ?_
          refine ow_batch [.p, .p] rfl ?_
          refine ow_nil ?_
          exact x_ql (RW.at (ihk1 (IntKind.i64.wrap (i6 + 1)) (H)) (fun _ h => St.sel [] rfl rfl h) ⟨rfl, rfl, rfl, rfl, trivial⟩)
      · have H := of_if_f hb H
        refine c_exit ?_
        refine x_qs_exit ?_
        refine x_ql_exit ?_
        refine x_qb_here ?_
        refine x_qs ?_
        refine c_seq ?_
        refine c_reg ?_
        refine ow_batch [.p] rfl ?_
        refine ow_nil ?_
        refine x_qs ?_
        refine c_ret ?_
        exact x_retR (rs := [.tmp 4]) (vs := [.bool true]) rfl ⟨rfl, trivial⟩ (fun w' hw' => by
            obtain rfl := of_some H
            exact ⟨rfl, hw'.ext⟩)

set_option maxHeartbeats 4000000 in
set_option maxRecDepth 100000 in
theorem impl_SchemaSame_1_ok (w : World) {p0 : Timpl_Attr} {p1 : Timpl_Attr} {cs0 : List Value} {cs1 : List Value} {r : Bool} (H : impl_SchemaSame_1 p0 p1 = some r)  (g0 : (eTimpl_Attr).rd w [] p0 cs0) (g1 : (eTimpl_Attr).rd w [] p1 cs1) :
    Calls Try.prog 60 #[.agg cs0.toArray, .agg cs1.toArray] w (fun en w' => en = .returned (.bool r) ∧ Ext [] w w') := by
  obtain ⟨c1, c2, c3, rfl, g4, g5, g6⟩ := rdo_Timpl_Attr g0
  obtain rfl : c1 = [vS p0.Name_] := g4
  obtain ⟨a7, c8, rfl⟩ := rd_sl1 g5
  obtain ⟨a9, c10, rfl⟩ := rd_sl1 g6
  obtain ⟨c11, c12, c13, rfl, g14, g15, g16⟩ := rdo_Timpl_Attr g1
  obtain rfl : c11 = [vS p1.Name_] := g14
  obtain ⟨a17, c18, rfl⟩ := rd_sl1 g15
  obtain ⟨a19, c20, rfl⟩ := rd_sl1 g16
  unfold impl_SchemaSame_1 at H
  refine f_enter (vs := [.agg #[vS p0.Name_, .slice a7 p0.Cuts_.length c8, .slice a9 p0.Values_.length c10], .agg #[vS p1.Name_, .slice a17 p1.Cuts_.length c18, .slice a19 p1.Values_.length c20]]) Try.func60 rfl Try.ntmps60 rfl (St.init w []) ?_
  refine c_seq ?_
  refine c_reg ?_
  refine ow_box (cs := [vS p0.Name_, .slice a7 p0.Cuts_.length c8, .slice a9 p0.Values_.length c10]) rfl rfl rfl rfl rfl rfl (fun _ => kp) (fun b21 => ?_)
  refine ow_box (cs := [vS p1.Name_, .slice a17 p1.Cuts_.length c18, .slice a19 p1.Values_.length c20]) rfl rfl rfl rfl rfl rfl (fun _ => kp) (fun b22 => ?_)
  refine ow_batch [.p] rfl ?_
  refine ow_nil ?_
  refine x_qs ?_
  refine c_seq ?_
  refine c_reg ?_
  refine ow_batch [.fa 109 0 0 fa109_0] rfl ?_
  refine ow_r rfl (dstOk_lt rfl) (ry_box1 (off := 0) rfl rfl ty9 (boxIn (i := 0) rfl) rfl) ?_
  refine ow_batch [.fa 109 0 0 fa109_0] rfl ?_
  refine ow_r rfl (dstOk_lt rfl) (ry_box1 (off := 0) rfl rfl ty9 (boxIn (i := 1) rfl) rfl) ?_
  refine ow_batch [.p, .p] rfl ?_
  obtain ⟨u23, hu27, H⟩ := of_bind H
  refine ow_cut [(16, .bool u23), (2, .pointer (some ⟨b21, 0, none⟩)), (3, .pointer (some ⟨b22, 0, none⟩)), (4, .bool false)] 6 ?_ (fun key => OW.sub (R := [(2, .pointer (some ⟨b21, 0, none⟩)), (3, .pointer (some ⟨b22, 0, none⟩)), (4, .bool false), (10, .bool (p0.Name_ == p1.Name_))]) ?_ ⟨rfl, rfl, rfl, rfl, trivial⟩)
  · refine ow_batch [.p] rfl ?_
    obtain ⟨u28, hu32, H⟩ := of_bind H
    refine ow_cut [(23, .bool u28), (4, .bool false)] 6 ?_ (fun key => OW.sub (R := [(2, .pointer (some ⟨b21, 0, none⟩)), (3, .pointer (some ⟨b22, 0, none⟩)), (4, .bool false), (17, .bool u23)]) ?_ ⟨rfl, rfl, rfl, rfl, trivial⟩)
    · refine ow_batch [.p] rfl ?_
      refine ow_nil ?_
      refine x_qs ?_
      refine c_ret ?_
      exact x_retR (rs := [.tmp 4]) (vs := [.bool u28]) rfl ⟨rfl, trivial⟩ (fun w' hw' => by
          obtain rfl := of_some H
          exact ⟨rfl, hw'.ext⟩)
    · clear H
      have H := hu32
      clear hu32
      generalize u23 = t31 at H ⊢
      cases t31
      · have H := of_if_f rfl H
        refine ow_batch [.p, .p, .p, .p, .p, .p] rfl ?_
        obtain rfl := of_some H
        exact OW.sub key ⟨rfl, rfl, trivial⟩
      · have H := of_if_t rfl H
        refine ow_batch [.fa 109 2 2 fa109_2] rfl ?_
        refine ow_r rfl (dstOk_lt rfl) (ry_box1 (off := 2) rfl rfl ty23 (boxIn (i := 0) rfl) rfl) ?_
        refine ow_batch [.fa 109 2 2 fa109_2] rfl ?_
        refine ow_r rfl (dstOk_lt rfl) (ry_box1 (off := 2) rfl rfl ty23 (boxIn (i := 1) rfl) rfl) ?_
        obtain ⟨y29, h30, H⟩ := of_bind H
        refine ow_q rfl rfl (dstOk_lt rfl) (qy_call rfl fn58 rfl (fun w1 hw1 => lib_slices_Equal___string_string__ok w1  h30 (rds_bor g6 w1 hw1) (rds_bor g16 w1 hw1))) (fun _ _ => trivial) ?_
        refine ow_batch [.p] rfl ?_
        obtain rfl := of_some H
        exact OW.sub key ⟨rfl, rfl, trivial⟩
  · clear H
    have H := hu27
    clear hu27
    generalize (p0.Name_ == p1.Name_) = t26 at H ⊢
    cases t26
    · have H := of_if_f rfl H
      refine ow_batch [.p, .p, .p, .p, .p, .p] rfl ?_
      obtain rfl := of_some H
      exact OW.sub key ⟨rfl, rfl, rfl, rfl, trivial⟩
    · have H := of_if_t rfl H
      refine ow_batch [.fa 109 1 1 fa109_1] rfl ?_
      refine ow_r rfl (dstOk_lt rfl) (ry_box1 (off := 1) rfl rfl ty82 (boxIn (i := 0) rfl) rfl) ?_
      refine ow_batch [.fa 109 1 1 fa109_1] rfl ?_
      refine ow_r rfl (dstOk_lt rfl) (ry_box1 (off := 1) rfl rfl ty82 (boxIn (i := 1) rfl) rfl) ?_
      obtain ⟨y24, h25, H⟩ := of_bind H
      refine ow_q rfl rfl (dstOk_lt rfl) (qy_call rfl fn61 rfl (fun w1 hw1 => lib_slices_Equal___int_int__ok w1  h25 (rds_bor g5 w1 hw1) (rds_bor g15 w1 hw1))) (fun _ _ => trivial) ?_
      refine ow_batch [.p] rfl ?_
      obtain rfl := of_some H
      exact OW.sub key ⟨rfl, rfl, rfl, rfl, trivial⟩

set_option maxHeartbeats 4000000 in
set_option maxRecDepth 100000 in
theorem lib_slices_EqualFunc___impl_Attr___impl_Attr_impl_Attr_impl_Attr___impl_SchemaSame_1_ok (w : World) {p0 : List Timpl_Attr} {p1 : List Timpl_Attr} {a_0 : Option Addr} {n_0 c_0 : Nat} {a_1 : Option Addr} {n_1 c_1 : Nat} {r : Bool} (H : lib_slices_EqualFunc___impl_Attr___impl_Attr_impl_Attr_impl_Attr___impl_SchemaSame_1 p0 p1 = some r)  (g0 : (eList (eTimpl_Attr) 109).rd w [] p0 [.slice a_0 n_0 c_0]) (g1 : (eList (eTimpl_Attr) 109).rd w [] p1 [.slice a_1 n_1 c_1]) :
    Calls Try.prog 59 #[.slice a_0 n_0 c_0, .slice a_1 n_1 c_1, .func (.func 60) #[] #[]] w (fun en w' => en = .returned (.bool r) ∧ Ext [] w w') := by
  obtain rfl := rd_n g0
  obtain rfl := rd_n g1
  unfold lib_slices_EqualFunc___impl_Attr___impl_Attr_impl_Attr_impl_Attr___impl_SchemaSame_1 at H
  refine f_enter (vs := [.slice a_0 p0.length c_0, .slice a_1 p1.length c_1, .func (.func 60) #[] #[]]) Try.func59 rfl Try.ntmps59 rfl (St.init w []) ?_
  refine c_seq ?_
  refine c_reg ?_
  refine ow_batch [.p] rfl ?_
  refine ow_nil ?_
  refine x_qs ?_
  refine c_seq ?_
  refine c_seq ?_
  refine c_reg ?_
  refine ow_batch [.p, .lenS 41 109 sl41, .p, .lenS 41 109 sl41, .p] rfl ?_
  refine ow_nil ?_
  refine x_qs ?_
  refine c_if rfl (fun hb => ?_) (fun hb => ?_)
  · have H := of_if_t hb H
    refine c_seq ?_
    refine c_reg ?_
    refine ow_batch [.p] rfl ?_
    refine ow_nil ?_
    refine x_qs ?_
    refine c_ret ?_
    refine x_qs_ret ?_
    exact x_retR (rs := [.tmp 6]) (vs := [.bool false]) rfl ⟨rfl, trivial⟩ (fun w' hw' => by
        obtain rfl := of_some H
        exact ⟨rfl, hw'.ext⟩)
  · have H := of_if_f hb H
    refine c_skip ?_
    refine x_qs ?_
    refine c_seq ?_
    refine c_seq ?_
    refine c_reg ?_
    refine ow_batch [.p, .lenS 41 109 sl41, .p] rfl ?_
    refine ow_nil ?_
    refine x_qs ?_
    refine c_block ?_
    refine CW.at (loopI1 (fun (i38 : Int) => St w [] []) (fun (i38 : Int) => [(1, .slice a_1 p1.length c_1), (2, .func (.func 60) #[] #[]), (15, .slice a_0 p0.length c_0), (16, .int .i64 (p0.length : Int)), (17, .int .i64 i38)]) (fun kk => fun (i38 : Int) => lib_slices_EqualFunc___impl_Attr___impl_Attr_impl_Attr_impl_Attr___impl_SchemaSame_1_L1 p0 p1 kk i38 = some r) (fun _ H => ?_) (fun k1 ihk1 i38 H => ?_) Fuel (0) (H)) (fun _ h => St.sel [] rfl rfl h) ⟨rfl, rfl, rfl, rfl, rfl,  trivial⟩
    · unfold lib_slices_EqualFunc___impl_Attr___impl_Attr_impl_Attr_impl_Attr___impl_SchemaSame_1_L1 at H
      exact absurd H (by simp)
    · unfold lib_slices_EqualFunc___impl_Attr___impl_Attr_impl_Attr_impl_Attr___impl_SchemaSame_1_L1 at H
      refine c_seq ?_
      refine c_reg ?_
      refine ow_batch [.p] rfl ?_
      refine ow_nil ?_
      refine x_qs ?_
      refine c_seq ?_
      refine c_if rfl (fun hb => ?_) (fun hb => ?_)
      · have H := of_if_t hb H
        refine c_skip ?_
        refine x_qs ?_
        refine c_seq ?_
        refine c_block ?_
        refine c_seq ?_
        refine c_reg ?_
        refine ow_batch [.p] rfl ?_
        obtain ⟨e76, h77, H⟩ := of_bind H
        refine ow_ixB rfl rfl rfl rfl rfl sl41 ty109 rfl g0 h77 (fun q80 c81 hd78 hA79 => ?_)
        obtain ⟨c82, c83, c84, rfl, g85, g86, g87⟩ := rdo_Timpl_Attr hd78
        obtain rfl : c82 = [vS e76.Name_] := g85
        obtain ⟨a88, c89, rfl⟩ := rd_sl1 g86
        obtain ⟨a90, c91, rfl⟩ := rd_sl1 g87
        refine ow_r rfl (dstOk_lt rfl) (ry_load (cs := [vS e76.Name_, .slice a88 e76.Cuts_.length c89, .slice a90 e76.Values_.length c91]) rfl rfl ty109 (at_bor bor hA79) rfl) ?_
        refine ow_alloc rfl rfl rfl rfl ty109 (fun _ => kp) (fun b92 => ?_)
        refine ow_batch [.p] rfl ?_
        refine ow_storeC (off := 0) [vS e76.Name_, .slice a88 e76.Cuts_.length c89, .slice a90 e76.Values_.length c91] [_, _, _] (i := 0) rfl rfl rfl rfl rfl rfl ty109 rfl rfl (by intro u hu; simp only [List.mem_cons, List.not_mem_nil, or_false] at hu; rcases hu with rfl | rfl | rfl <;> rfl) rfl rfl rfl kp ?_
        refine ow_nil ?_
        refine x_qs ?_
        refine c_seq ?_
        refine c_reg ?_
        refine ow_batch [.p, .p] rfl ?_
        obtain ⟨e93, h94, H⟩ := of_bind H
        refine ow_ixB rfl rfl rfl rfl rfl sl41 ty109 rfl g1 h94 (fun q97 c98 hd95 hA96 => ?_)
        obtain ⟨c99, c100, c101, rfl, g102, g103, g104⟩ := rdo_Timpl_Attr hd95
        obtain rfl : c99 = [vS e93.Name_] := g102
        obtain ⟨a105, c106, rfl⟩ := rd_sl1 g103
        obtain ⟨a107, c108, rfl⟩ := rd_sl1 g104
        refine ow_r rfl (dstOk_lt rfl) (ry_load (cs := [vS e93.Name_, .slice a105 e93.Cuts_.length c106, .slice a107 e93.Values_.length c108]) rfl rfl ty109 (at_bor bor hA96) rfl) ?_
        refine ow_alloc rfl rfl rfl rfl ty109 (fun _ => kp) (fun b109 => ?_)
        refine ow_storeC (off := 0) [vS e93.Name_, .slice a105 e93.Cuts_.length c106, .slice a107 e93.Values_.length c108] [_, _, _] (i := 1) rfl rfl rfl rfl rfl rfl ty109 rfl rfl (by intro u hu; simp only [List.mem_cons, List.not_mem_nil, or_false] at hu; rcases hu with rfl | rfl | rfl <;> rfl) rfl rfl rfl kp ?_
        refine ow_nil ?_
        refine x_qs ?_
        refine c_seq ?_
        refine c_reg ?_
        refine ow_batch [.p] rfl ?_
        refine ow_r rfl (dstOk_lt rfl) (ry_box (off := 0) (ds := [vS e76.Name_, .slice a88 e76.Cuts_.length c89, .slice a90 e76.Values_.length c91]) rfl rfl ty109 (boxIn (i := 0) rfl) rfl rfl) ?_
        refine ow_r rfl (dstOk_lt rfl) (ry_box (off := 0) (ds := [vS e93.Name_, .slice a105 e93.Cuts_.length c106, .slice a107 e93.Values_.length c108]) rfl rfl ty109 (boxIn (i := 1) rfl) rfl rfl) ?_
        obtain ⟨y110, h111, H⟩ := of_bind H
        refine ow_q rfl rfl (dstOk_lt rfl) (qy_callV (cap := []) rfl fn60 rfl rfl (fun w1 hw1 => impl_SchemaSame_1_ok w1 (cs0 := [vS e76.Name_, .slice a88 e76.Cuts_.length c89, .slice a90 e76.Values_.length c91]) (cs1 := [vS e93.Name_, .slice a105 e93.Cuts_.length c106, .slice a107 e93.Values_.length c108]) h111 (rdm_Timpl_Attr (x := e76) (c0 := [vS e76.Name_]) (c1 := [.slice a88 e76.Cuts_.length c89]) (c2 := [.slice a90 e76.Values_.length c91]) rfl (rds_bor g86 w1 hw1) (rds_bor g87 w1 hw1)) (rdm_Timpl_Attr (x := e93) (c0 := [vS e93.Name_]) (c1 := [.slice a105 e93.Cuts_.length c106]) (c2 := [.slice a107 e93.Values_.length c108]) rfl (rds_bor g103 w1 hw1) (rds_bor g104 w1 hw1)))) (fun _ _ => trivial) ?_
        refine ow_batch [.p] rfl ?_
        refine ow_nil ?_
        refine x_qs ?_
        refine c_if rfl (fun hb => ?_) (fun hb => ?_)
        · have H := of_if_t hb H
          refine c_seq ?_
          refine c_reg ?_
          refine ow_batch [.p] rfl ?_
          refine ow_nil ?_
          refine x_qs ?_
          refine c_ret ?_
          refine x_qb_ret ?_
          refine x_qs_ret ?_
          refine x_ql_ret ?_
          refine x_qb_ret ?_
          refine x_qs_ret ?_
          exact x_retR (rs := [.tmp 6]) (vs := [.bool false]) rfl ⟨rfl, trivial⟩ (fun w' hw' => by
              obtain rfl := of_some H
              exact ⟨rfl, hw'.ext⟩)
        · have H := of_if_f hb H
          refine c_skip ?_
          refine x_qb ?_
          refine x_qs ?_
          refine c_reg ?_
          refine ow_batch [.p, .p] rfl ?_
          refine ow_nil ?_
          exact x_ql (RW.at (ihk1 (IntKind.i64.wrap (i38 + 1)) (H)) (fun _ h => St.sel [] rfl rfl h) ⟨rfl, rfl, rfl, rfl, rfl, trivial⟩)
      · have H := of_if_f hb H
        refine c_exit ?_
        refine x_qs_exit ?_
        refine x_ql_exit ?_
        refine x_qb_here ?_
        refine x_qs ?_
        refine c_seq ?_
        refine c_reg ?_
        refine ow_batch [.p] rfl ?_
        refine ow_nil ?_
        refine x_qs ?_
        refine c_ret ?_
        exact x_retR (rs := [.tmp 6]) (vs := [.bool true]) rfl ⟨rfl, trivial⟩ (fun w' hw' => by
            obtain rfl := of_some H
            exact ⟨rfl, hw'.ext⟩)

set_option maxHeartbeats 4000000 in
set_option maxRecDepth 100000 in
theorem impl_SchemaSame_ok (w : World) {p0 : Timpl_Schema} {p1 : Timpl_Schema} {cs0 : List Value} {cs1 : List Value} {r : Bool} (H : impl_SchemaSame p0 p1 = some r)  (g0 : (eTimpl_Schema).rd w [] p0 cs0) (g1 : (eTimpl_Schema).rd w [] p1 cs1) :
    Calls Try.prog 36 #[.agg cs0.toArray, .agg cs1.toArray] w (fun en w' => en = .returned (.bool r) ∧ Ext [] w w') := by
  obtain ⟨c1, c2, rfl, g3, g4⟩ := rdo_Timpl_Schema g0
  obtain ⟨a5, c6, rfl⟩ := rd_sl1 g3
  obtain ⟨a7, c8, rfl⟩ := rd_sl1 g4
  obtain ⟨c9, c10, rfl, g11, g12⟩ := rdo_Timpl_Schema g1
  obtain ⟨a13, c14, rfl⟩ := rd_sl1 g11
  obtain ⟨a15, c16, rfl⟩ := rd_sl1 g12
  unfold impl_SchemaSame at H
  refine f_enter (vs := [.agg #[.slice a5 p0.Attrs_.length c6, .slice a7 p0.Classes_.length c8], .agg #[.slice a13 p1.Attrs_.length c14, .slice a15 p1.Classes_.length c16]]) Try.func36 rfl Try.ntmps36 rfl (St.init w []) ?_
  refine c_seq ?_
  refine c_reg ?_
  refine ow_box (cs := [.slice a5 p0.Attrs_.length c6, .slice a7 p0.Classes_.length c8]) rfl rfl rfl rfl rfl rfl (fun _ => kp) (fun b17 => ?_)
  refine ow_box (cs := [.slice a13 p1.Attrs_.length c14, .slice a15 p1.Classes_.length c16]) rfl rfl rfl rfl rfl rfl (fun _ => kp) (fun b18 => ?_)
  refine ow_batch [.p] rfl ?_
  refine ow_nil ?_
  refine x_qs ?_
  refine c_seq ?_
  refine c_reg ?_
  refine ow_batch [.fa 43 1 1 fa43_1] rfl ?_
  refine ow_r rfl (dstOk_lt rfl) (ry_box1 (off := 1) rfl rfl ty23 (boxIn (i := 0) rfl) rfl) ?_
  refine ow_batch [.fa 43 1 1 fa43_1] rfl ?_
  refine ow_r rfl (dstOk_lt rfl) (ry_box1 (off := 1) rfl rfl ty23 (boxIn (i := 1) rfl) rfl) ?_
  obtain ⟨y19, h20, H⟩ := of_bind H
  refine ow_q rfl rfl (dstOk_lt rfl) (qy_call rfl fn58 rfl (fun w1 hw1 => lib_slices_Equal___string_string__ok w1  h20 (rds_bor g4 w1 hw1) (rds_bor g12 w1 hw1))) (fun _ _ => trivial) ?_
  refine ow_batch [.p] rfl ?_
  obtain ⟨u21, hu25, H⟩ := of_bind H
  refine ow_cut [(16, .bool u21), (4, .bool false)] 6 ?_ (fun key => OW.sub (R := [(2, .pointer (some ⟨b17, 0, none⟩)), (3, .pointer (some ⟨b18, 0, none⟩)), (4, .bool false), (10, .bool y19)]) ?_ ⟨rfl, rfl, rfl, rfl, trivial⟩)
  · refine ow_batch [.p] rfl ?_
    refine ow_nil ?_
    refine x_qs ?_
    refine c_ret ?_
    exact x_retR (rs := [.tmp 4]) (vs := [.bool u21]) rfl ⟨rfl, trivial⟩ (fun w' hw' => by
        obtain rfl := of_some H
        exact ⟨rfl, hw'.ext⟩)
  · clear H
    have H := hu25
    clear hu25
    generalize y19 = t24 at H ⊢
    cases t24
    · have H := of_if_f rfl H
      refine ow_batch [.p, .p, .p, .p, .p, .p] rfl ?_
      obtain rfl := of_some H
      exact OW.sub key ⟨rfl, rfl, trivial⟩
    · have H := of_if_t rfl H
      refine ow_batch [.fa 43 0 0 fa43_0] rfl ?_
      refine ow_r rfl (dstOk_lt rfl) (ry_box1 (off := 0) rfl rfl ty41 (boxIn (i := 0) rfl) rfl) ?_
      refine ow_batch [.fa 43 0 0 fa43_0] rfl ?_
      refine ow_r rfl (dstOk_lt rfl) (ry_box1 (off := 0) rfl rfl ty41 (boxIn (i := 1) rfl) rfl) ?_
      obtain ⟨y22, h23, H⟩ := of_bind H
      refine ow_q rfl rfl (dstOk_lt rfl) (qy_call rfl fn59 rfl (fun w1 hw1 => lib_slices_EqualFunc___impl_Attr___impl_Attr_impl_Attr_impl_Attr___impl_SchemaSame_1_ok w1  h23 (rds_bor g3 w1 hw1) (rds_bor g11 w1 hw1))) (fun _ _ => trivial) ?_
      refine ow_batch [.p] rfl ?_
      obtain rfl := of_some H
      exact OW.sub key ⟨rfl, rfl, trivial⟩

set_option maxHeartbeats 4000000 in
set_option maxRecDepth 100000 in
theorem impl_ConfSame_ok (w : World) {p0 : Timpl_Conf} {p1 : Timpl_Conf} {cs0 : List Value} {cs1 : List Value} {r : Bool} (H : impl_ConfSame p0 p1 = some r)  (g0 : (eTimpl_Conf).rd w [] p0 cs0) (g1 : (eTimpl_Conf).rd w [] p1 cs1) :
    Calls Try.prog 18 #[.agg cs0.toArray, .agg cs1.toArray] w (fun en w' => en = .returned (.bool r) ∧ Ext [] w w') := by
  obtain ⟨c1, c2, c3, c4, c5, c6, c7, rfl, g8, g9, g10, g11, g12, g13, g14⟩ := rdo_Timpl_Conf g0
  obtain ⟨c15, c16, rfl, g17, g18⟩ := rdo_Timpl_Schema g8
  obtain ⟨a19, c20, rfl⟩ := rd_sl1 g17
  obtain ⟨a21, c22, rfl⟩ := rd_sl1 g18
  obtain rfl : c2 = [.int .i64 p0.Rule_.Sure_, .int .i64 p0.Rule_.Tie_, .int .i64 p0.Rule_.Grace_, .int .i64 p0.Rule_.Depth_, .int .i64 p0.Rule_.Nodes_, .int .i64 p0.Rule_.Units_, .bool p0.Rule_.Two_] := g9
  obtain rfl : c3 = [.int .i64 p0.Members_] := g10
  obtain rfl : c4 = [.int .i64 p0.Pick_] := g11
  obtain rfl : c5 = [.int .i64 p0.Lambda_] := g12
  obtain rfl : c6 = [.int .i64 p0.Warn_] := g13
  obtain rfl : c7 = [.int .i64 p0.Drift_] := g14
  obtain ⟨c23, c24, c25, c26, c27, c28, c29, rfl, g30, g31, g32, g33, g34, g35, g36⟩ := rdo_Timpl_Conf g1
  obtain ⟨c37, c38, rfl, g39, g40⟩ := rdo_Timpl_Schema g30
  obtain ⟨a41, c42, rfl⟩ := rd_sl1 g39
  obtain ⟨a43, c44, rfl⟩ := rd_sl1 g40
  obtain rfl : c24 = [.int .i64 p1.Rule_.Sure_, .int .i64 p1.Rule_.Tie_, .int .i64 p1.Rule_.Grace_, .int .i64 p1.Rule_.Depth_, .int .i64 p1.Rule_.Nodes_, .int .i64 p1.Rule_.Units_, .bool p1.Rule_.Two_] := g31
  obtain rfl : c25 = [.int .i64 p1.Members_] := g32
  obtain rfl : c26 = [.int .i64 p1.Pick_] := g33
  obtain rfl : c27 = [.int .i64 p1.Lambda_] := g34
  obtain rfl : c28 = [.int .i64 p1.Warn_] := g35
  obtain rfl : c29 = [.int .i64 p1.Drift_] := g36
  unfold impl_ConfSame at H
  refine f_enter (vs := [.agg #[.slice a19 p0.Schema_.Attrs_.length c20, .slice a21 p0.Schema_.Classes_.length c22, .int .i64 p0.Rule_.Sure_, .int .i64 p0.Rule_.Tie_, .int .i64 p0.Rule_.Grace_, .int .i64 p0.Rule_.Depth_, .int .i64 p0.Rule_.Nodes_, .int .i64 p0.Rule_.Units_, .bool p0.Rule_.Two_, .int .i64 p0.Members_, .int .i64 p0.Pick_, .int .i64 p0.Lambda_, .int .i64 p0.Warn_, .int .i64 p0.Drift_], .agg #[.slice a41 p1.Schema_.Attrs_.length c42, .slice a43 p1.Schema_.Classes_.length c44, .int .i64 p1.Rule_.Sure_, .int .i64 p1.Rule_.Tie_, .int .i64 p1.Rule_.Grace_, .int .i64 p1.Rule_.Depth_, .int .i64 p1.Rule_.Nodes_, .int .i64 p1.Rule_.Units_, .bool p1.Rule_.Two_, .int .i64 p1.Members_, .int .i64 p1.Pick_, .int .i64 p1.Lambda_, .int .i64 p1.Warn_, .int .i64 p1.Drift_]]) Try.func18 rfl Try.ntmps18 rfl (St.init w []) ?_
  refine c_seq ?_
  refine c_reg ?_
  refine ow_box (cs := [.slice a19 p0.Schema_.Attrs_.length c20, .slice a21 p0.Schema_.Classes_.length c22, .int .i64 p0.Rule_.Sure_, .int .i64 p0.Rule_.Tie_, .int .i64 p0.Rule_.Grace_, .int .i64 p0.Rule_.Depth_, .int .i64 p0.Rule_.Nodes_, .int .i64 p0.Rule_.Units_, .bool p0.Rule_.Two_, .int .i64 p0.Members_, .int .i64 p0.Pick_, .int .i64 p0.Lambda_, .int .i64 p0.Warn_, .int .i64 p0.Drift_]) rfl rfl rfl rfl rfl rfl (fun _ => kp) (fun b45 => ?_)
  refine ow_box (cs := [.slice a41 p1.Schema_.Attrs_.length c42, .slice a43 p1.Schema_.Classes_.length c44, .int .i64 p1.Rule_.Sure_, .int .i64 p1.Rule_.Tie_, .int .i64 p1.Rule_.Grace_, .int .i64 p1.Rule_.Depth_, .int .i64 p1.Rule_.Nodes_, .int .i64 p1.Rule_.Units_, .bool p1.Rule_.Two_, .int .i64 p1.Members_, .int .i64 p1.Pick_, .int .i64 p1.Lambda_, .int .i64 p1.Warn_, .int .i64 p1.Drift_]) rfl rfl rfl rfl rfl rfl (fun _ => kp) (fun b46 => ?_)
  refine ow_batch [.p] rfl ?_
  refine ow_nil ?_
  refine x_qs ?_
  refine c_seq ?_
  refine c_reg ?_
  refine ow_batch [.fa 46 0 0 fa46_0] rfl ?_
  refine ow_r rfl (dstOk_lt rfl) (ry_box (off := 0) (ds := [.slice a19 p0.Schema_.Attrs_.length c20, .slice a21 p0.Schema_.Classes_.length c22]) rfl rfl ty43 (boxIn (i := 0) rfl) rfl rfl) ?_
  refine ow_batch [.fa 46 0 0 fa46_0] rfl ?_
  refine ow_r rfl (dstOk_lt rfl) (ry_box (off := 0) (ds := [.slice a41 p1.Schema_.Attrs_.length c42, .slice a43 p1.Schema_.Classes_.length c44]) rfl rfl ty43 (boxIn (i := 1) rfl) rfl rfl) ?_
  obtain ⟨y47, h48, H⟩ := of_bind H
  refine ow_q rfl rfl (dstOk_lt rfl) (qy_call rfl fn36 rfl (fun w1 hw1 => impl_SchemaSame_ok w1 (cs0 := [.slice a19 p0.Schema_.Attrs_.length c20, .slice a21 p0.Schema_.Classes_.length c22]) (cs1 := [.slice a41 p1.Schema_.Attrs_.length c42, .slice a43 p1.Schema_.Classes_.length c44]) h48 (rdm_Timpl_Schema (x := p0.Schema_) (c0 := [.slice a19 p0.Schema_.Attrs_.length c20]) (c1 := [.slice a21 p0.Schema_.Classes_.length c22]) (rds_bor g17 w1 hw1) (rds_bor g18 w1 hw1)) (rdm_Timpl_Schema (x := p1.Schema_) (c0 := [.slice a41 p1.Schema_.Attrs_.length c42]) (c1 := [.slice a43 p1.Schema_.Classes_.length c44]) (rds_bor g39 w1 hw1) (rds_bor g40 w1 hw1)))) (fun _ _ => trivial) ?_
  refine ow_batch [.p] rfl ?_
  refine ow_cut [(16, .bool (y47 && (p0.Rule_.Sure_ == p1.Rule_.Sure_ && (p0.Rule_.Tie_ == p1.Rule_.Tie_ && (p0.Rule_.Grace_ == p1.Rule_.Grace_ && (p0.Rule_.Depth_ == p1.Rule_.Depth_ && (p0.Rule_.Nodes_ == p1.Rule_.Nodes_ && (p0.Rule_.Units_ == p1.Rule_.Units_ && (p0.Rule_.Two_ == p1.Rule_.Two_ && true))))))))), (2, .pointer (some ⟨b45, 0, none⟩)), (3, .pointer (some ⟨b46, 0, none⟩)), (4, .bool false)] 6 ?_ (fun key => OW.sub (R := [(2, .pointer (some ⟨b45, 0, none⟩)), (3, .pointer (some ⟨b46, 0, none⟩)), (4, .bool false), (10, .bool y47)]) ?_ ⟨rfl, rfl, rfl, rfl, trivial⟩)
  · refine ow_batch [.p] rfl ?_
    refine ow_cut [(23, .bool ((y47 && (p0.Rule_.Sure_ == p1.Rule_.Sure_ && (p0.Rule_.Tie_ == p1.Rule_.Tie_ && (p0.Rule_.Grace_ == p1.Rule_.Grace_ && (p0.Rule_.Depth_ == p1.Rule_.Depth_ && (p0.Rule_.Nodes_ == p1.Rule_.Nodes_ && (p0.Rule_.Units_ == p1.Rule_.Units_ && (p0.Rule_.Two_ == p1.Rule_.Two_ && true)))))))) && (p0.Members_ == p1.Members_))), (2, .pointer (some ⟨b45, 0, none⟩)), (3, .pointer (some ⟨b46, 0, none⟩)), (4, .bool false)] 6 ?_ (fun key => OW.sub (R := [(2, .pointer (some ⟨b45, 0, none⟩)), (3, .pointer (some ⟨b46, 0, none⟩)), (4, .bool false), (17, .bool (y47 && (p0.Rule_.Sure_ == p1.Rule_.Sure_ && (p0.Rule_.Tie_ == p1.Rule_.Tie_ && (p0.Rule_.Grace_ == p1.Rule_.Grace_ && (p0.Rule_.Depth_ == p1.Rule_.Depth_ && (p0.Rule_.Nodes_ == p1.Rule_.Nodes_ && (p0.Rule_.Units_ == p1.Rule_.Units_ && (p0.Rule_.Two_ == p1.Rule_.Two_ && true)))))))))]) ?_ ⟨rfl, rfl, rfl, rfl, trivial⟩)
    · refine ow_batch [.p] rfl ?_
      refine ow_cut [(30, .bool (((y47 && (p0.Rule_.Sure_ == p1.Rule_.Sure_ && (p0.Rule_.Tie_ == p1.Rule_.Tie_ && (p0.Rule_.Grace_ == p1.Rule_.Grace_ && (p0.Rule_.Depth_ == p1.Rule_.Depth_ && (p0.Rule_.Nodes_ == p1.Rule_.Nodes_ && (p0.Rule_.Units_ == p1.Rule_.Units_ && (p0.Rule_.Two_ == p1.Rule_.Two_ && true)))))))) && (p0.Members_ == p1.Members_)) && (p0.Pick_ == p1.Pick_))), (2, .pointer (some ⟨b45, 0, none⟩)), (3, .pointer (some ⟨b46, 0, none⟩)), (4, .bool false)] 6 ?_ (fun key => OW.sub (R := [(2, .pointer (some ⟨b45, 0, none⟩)), (3, .pointer (some ⟨b46, 0, none⟩)), (4, .bool false), (24, .bool ((y47 && (p0.Rule_.Sure_ == p1.Rule_.Sure_ && (p0.Rule_.Tie_ == p1.Rule_.Tie_ && (p0.Rule_.Grace_ == p1.Rule_.Grace_ && (p0.Rule_.Depth_ == p1.Rule_.Depth_ && (p0.Rule_.Nodes_ == p1.Rule_.Nodes_ && (p0.Rule_.Units_ == p1.Rule_.Units_ && (p0.Rule_.Two_ == p1.Rule_.Two_ && true)))))))) && (p0.Members_ == p1.Members_)))]) ?_ ⟨rfl, rfl, rfl, rfl, trivial⟩)
      · refine ow_batch [.p] rfl ?_
        refine ow_cut [(37, .bool ((((y47 && (p0.Rule_.Sure_ == p1.Rule_.Sure_ && (p0.Rule_.Tie_ == p1.Rule_.Tie_ && (p0.Rule_.Grace_ == p1.Rule_.Grace_ && (p0.Rule_.Depth_ == p1.Rule_.Depth_ && (p0.Rule_.Nodes_ == p1.Rule_.Nodes_ && (p0.Rule_.Units_ == p1.Rule_.Units_ && (p0.Rule_.Two_ == p1.Rule_.Two_ && true)))))))) && (p0.Members_ == p1.Members_)) && (p0.Pick_ == p1.Pick_)) && (p0.Lambda_ == p1.Lambda_))), (2, .pointer (some ⟨b45, 0, none⟩)), (3, .pointer (some ⟨b46, 0, none⟩)), (4, .bool false)] 6 ?_ (fun key => OW.sub (R := [(2, .pointer (some ⟨b45, 0, none⟩)), (3, .pointer (some ⟨b46, 0, none⟩)), (4, .bool false), (31, .bool (((y47 && (p0.Rule_.Sure_ == p1.Rule_.Sure_ && (p0.Rule_.Tie_ == p1.Rule_.Tie_ && (p0.Rule_.Grace_ == p1.Rule_.Grace_ && (p0.Rule_.Depth_ == p1.Rule_.Depth_ && (p0.Rule_.Nodes_ == p1.Rule_.Nodes_ && (p0.Rule_.Units_ == p1.Rule_.Units_ && (p0.Rule_.Two_ == p1.Rule_.Two_ && true)))))))) && (p0.Members_ == p1.Members_)) && (p0.Pick_ == p1.Pick_)))]) ?_ ⟨rfl, rfl, rfl, rfl, trivial⟩)
        · refine ow_batch [.p] rfl ?_
          refine ow_cut [(44, .bool (((((y47 && (p0.Rule_.Sure_ == p1.Rule_.Sure_ && (p0.Rule_.Tie_ == p1.Rule_.Tie_ && (p0.Rule_.Grace_ == p1.Rule_.Grace_ && (p0.Rule_.Depth_ == p1.Rule_.Depth_ && (p0.Rule_.Nodes_ == p1.Rule_.Nodes_ && (p0.Rule_.Units_ == p1.Rule_.Units_ && (p0.Rule_.Two_ == p1.Rule_.Two_ && true)))))))) && (p0.Members_ == p1.Members_)) && (p0.Pick_ == p1.Pick_)) && (p0.Lambda_ == p1.Lambda_)) && (p0.Warn_ == p1.Warn_))), (2, .pointer (some ⟨b45, 0, none⟩)), (3, .pointer (some ⟨b46, 0, none⟩)), (4, .bool false)] 6 ?_ (fun key => OW.sub (R := [(2, .pointer (some ⟨b45, 0, none⟩)), (3, .pointer (some ⟨b46, 0, none⟩)), (4, .bool false), (38, .bool ((((y47 && (p0.Rule_.Sure_ == p1.Rule_.Sure_ && (p0.Rule_.Tie_ == p1.Rule_.Tie_ && (p0.Rule_.Grace_ == p1.Rule_.Grace_ && (p0.Rule_.Depth_ == p1.Rule_.Depth_ && (p0.Rule_.Nodes_ == p1.Rule_.Nodes_ && (p0.Rule_.Units_ == p1.Rule_.Units_ && (p0.Rule_.Two_ == p1.Rule_.Two_ && true)))))))) && (p0.Members_ == p1.Members_)) && (p0.Pick_ == p1.Pick_)) && (p0.Lambda_ == p1.Lambda_)))]) ?_ ⟨rfl, rfl, rfl, rfl, trivial⟩)
          · refine ow_batch [.p] rfl ?_
            refine ow_cut [(51, .bool ((((((y47 && (p0.Rule_.Sure_ == p1.Rule_.Sure_ && (p0.Rule_.Tie_ == p1.Rule_.Tie_ && (p0.Rule_.Grace_ == p1.Rule_.Grace_ && (p0.Rule_.Depth_ == p1.Rule_.Depth_ && (p0.Rule_.Nodes_ == p1.Rule_.Nodes_ && (p0.Rule_.Units_ == p1.Rule_.Units_ && (p0.Rule_.Two_ == p1.Rule_.Two_ && true)))))))) && (p0.Members_ == p1.Members_)) && (p0.Pick_ == p1.Pick_)) && (p0.Lambda_ == p1.Lambda_)) && (p0.Warn_ == p1.Warn_)) && (p0.Drift_ == p1.Drift_))), (4, .bool false)] 6 ?_ (fun key => OW.sub (R := [(2, .pointer (some ⟨b45, 0, none⟩)), (3, .pointer (some ⟨b46, 0, none⟩)), (4, .bool false), (45, .bool (((((y47 && (p0.Rule_.Sure_ == p1.Rule_.Sure_ && (p0.Rule_.Tie_ == p1.Rule_.Tie_ && (p0.Rule_.Grace_ == p1.Rule_.Grace_ && (p0.Rule_.Depth_ == p1.Rule_.Depth_ && (p0.Rule_.Nodes_ == p1.Rule_.Nodes_ && (p0.Rule_.Units_ == p1.Rule_.Units_ && (p0.Rule_.Two_ == p1.Rule_.Two_ && true)))))))) && (p0.Members_ == p1.Members_)) && (p0.Pick_ == p1.Pick_)) && (p0.Lambda_ == p1.Lambda_)) && (p0.Warn_ == p1.Warn_)))]) ?_ ⟨rfl, rfl, rfl, rfl, trivial⟩)
            · refine ow_batch [.p] rfl ?_
              refine ow_nil ?_
              refine x_qs ?_
              refine c_ret ?_
              exact x_retR (rs := [.tmp 4]) (vs := [.bool ((((((y47 && (p0.Rule_.Sure_ == p1.Rule_.Sure_ && (p0.Rule_.Tie_ == p1.Rule_.Tie_ && (p0.Rule_.Grace_ == p1.Rule_.Grace_ && (p0.Rule_.Depth_ == p1.Rule_.Depth_ && (p0.Rule_.Nodes_ == p1.Rule_.Nodes_ && (p0.Rule_.Units_ == p1.Rule_.Units_ && (p0.Rule_.Two_ == p1.Rule_.Two_ && true)))))))) && (p0.Members_ == p1.Members_)) && (p0.Pick_ == p1.Pick_)) && (p0.Lambda_ == p1.Lambda_)) && (p0.Warn_ == p1.Warn_)) && (p0.Drift_ == p1.Drift_))]) rfl ⟨rfl, trivial⟩ (fun w' hw' => by
                  obtain rfl := of_some H
                  exact ⟨rfl, hw'.ext⟩)
            · generalize (((((y47 && (p0.Rule_.Sure_ == p1.Rule_.Sure_ && (p0.Rule_.Tie_ == p1.Rule_.Tie_ && (p0.Rule_.Grace_ == p1.Rule_.Grace_ && (p0.Rule_.Depth_ == p1.Rule_.Depth_ && (p0.Rule_.Nodes_ == p1.Rule_.Nodes_ && (p0.Rule_.Units_ == p1.Rule_.Units_ && (p0.Rule_.Two_ == p1.Rule_.Two_ && true)))))))) && (p0.Members_ == p1.Members_)) && (p0.Pick_ == p1.Pick_)) && (p0.Lambda_ == p1.Lambda_)) && (p0.Warn_ == p1.Warn_)) = t60 at key ⊢
              cases t60
              · refine ow_batch [.p, .p, .p, .p, .p, .p] rfl ?_
                exact OW.sub key ⟨rfl, rfl, trivial⟩
              · refine ow_batch [.fa 46 6 13 fa46_6] rfl ?_
                refine ow_r rfl (dstOk_lt rfl) (ry_box1 (off := 13) rfl rfl ty3 (boxIn (i := 0) rfl) rfl) ?_
                refine ow_batch [.fa 46 6 13 fa46_6] rfl ?_
                refine ow_r rfl (dstOk_lt rfl) (ry_box1 (off := 13) rfl rfl ty3 (boxIn (i := 1) rfl) rfl) ?_
                refine ow_batch [.p] rfl ?_
                refine ow_batch [.p] rfl ?_
                exact OW.sub key ⟨rfl, rfl, trivial⟩
          · generalize ((((y47 && (p0.Rule_.Sure_ == p1.Rule_.Sure_ && (p0.Rule_.Tie_ == p1.Rule_.Tie_ && (p0.Rule_.Grace_ == p1.Rule_.Grace_ && (p0.Rule_.Depth_ == p1.Rule_.Depth_ && (p0.Rule_.Nodes_ == p1.Rule_.Nodes_ && (p0.Rule_.Units_ == p1.Rule_.Units_ && (p0.Rule_.Two_ == p1.Rule_.Two_ && true)))))))) && (p0.Members_ == p1.Members_)) && (p0.Pick_ == p1.Pick_)) && (p0.Lambda_ == p1.Lambda_)) = t58 at key ⊢
            cases t58
            · refine ow_batch [.p, .p, .p, .p, .p, .p] rfl ?_
              exact OW.sub key ⟨rfl, rfl, rfl, rfl, trivial⟩
            · refine ow_batch [.fa 46 5 12 fa46_5] rfl ?_
              refine ow_r rfl (dstOk_lt rfl) (ry_box1 (off := 12) rfl rfl ty3 (boxIn (i := 0) rfl) rfl) ?_
              refine ow_batch [.fa 46 5 12 fa46_5] rfl ?_
              refine ow_r rfl (dstOk_lt rfl) (ry_box1 (off := 12) rfl rfl ty3 (boxIn (i := 1) rfl) rfl) ?_
              refine ow_batch [.p] rfl ?_
              refine ow_batch [.p] rfl ?_
              exact OW.sub key ⟨rfl, rfl, rfl, rfl, trivial⟩
        · generalize (((y47 && (p0.Rule_.Sure_ == p1.Rule_.Sure_ && (p0.Rule_.Tie_ == p1.Rule_.Tie_ && (p0.Rule_.Grace_ == p1.Rule_.Grace_ && (p0.Rule_.Depth_ == p1.Rule_.Depth_ && (p0.Rule_.Nodes_ == p1.Rule_.Nodes_ && (p0.Rule_.Units_ == p1.Rule_.Units_ && (p0.Rule_.Two_ == p1.Rule_.Two_ && true)))))))) && (p0.Members_ == p1.Members_)) && (p0.Pick_ == p1.Pick_)) = t56 at key ⊢
          cases t56
          · refine ow_batch [.p, .p, .p, .p, .p, .p] rfl ?_
            exact OW.sub key ⟨rfl, rfl, rfl, rfl, trivial⟩
          · refine ow_batch [.fa 46 4 11 fa46_4] rfl ?_
            refine ow_r rfl (dstOk_lt rfl) (ry_box1 (off := 11) rfl rfl ty3 (boxIn (i := 0) rfl) rfl) ?_
            refine ow_batch [.fa 46 4 11 fa46_4] rfl ?_
            refine ow_r rfl (dstOk_lt rfl) (ry_box1 (off := 11) rfl rfl ty3 (boxIn (i := 1) rfl) rfl) ?_
            refine ow_batch [.p] rfl ?_
            refine ow_batch [.p] rfl ?_
            exact OW.sub key ⟨rfl, rfl, rfl, rfl, trivial⟩
      · generalize ((y47 && (p0.Rule_.Sure_ == p1.Rule_.Sure_ && (p0.Rule_.Tie_ == p1.Rule_.Tie_ && (p0.Rule_.Grace_ == p1.Rule_.Grace_ && (p0.Rule_.Depth_ == p1.Rule_.Depth_ && (p0.Rule_.Nodes_ == p1.Rule_.Nodes_ && (p0.Rule_.Units_ == p1.Rule_.Units_ && (p0.Rule_.Two_ == p1.Rule_.Two_ && true)))))))) && (p0.Members_ == p1.Members_)) = t54 at key ⊢
        cases t54
        · refine ow_batch [.p, .p, .p, .p, .p, .p] rfl ?_
          exact OW.sub key ⟨rfl, rfl, rfl, rfl, trivial⟩
        · refine ow_batch [.fa 46 3 10 fa46_3] rfl ?_
          refine ow_r rfl (dstOk_lt rfl) (ry_box1 (off := 10) rfl rfl ty3 (boxIn (i := 0) rfl) rfl) ?_
          refine ow_batch [.fa 46 3 10 fa46_3] rfl ?_
          refine ow_r rfl (dstOk_lt rfl) (ry_box1 (off := 10) rfl rfl ty3 (boxIn (i := 1) rfl) rfl) ?_
          refine ow_batch [.p] rfl ?_
          refine ow_batch [.p] rfl ?_
          exact OW.sub key ⟨rfl, rfl, rfl, rfl, trivial⟩
    · generalize (y47 && (p0.Rule_.Sure_ == p1.Rule_.Sure_ && (p0.Rule_.Tie_ == p1.Rule_.Tie_ && (p0.Rule_.Grace_ == p1.Rule_.Grace_ && (p0.Rule_.Depth_ == p1.Rule_.Depth_ && (p0.Rule_.Nodes_ == p1.Rule_.Nodes_ && (p0.Rule_.Units_ == p1.Rule_.Units_ && (p0.Rule_.Two_ == p1.Rule_.Two_ && true)))))))) = t52 at key ⊢
      cases t52
      · refine ow_batch [.p, .p, .p, .p, .p, .p] rfl ?_
        exact OW.sub key ⟨rfl, rfl, rfl, rfl, trivial⟩
      · refine ow_batch [.fa 46 2 9 fa46_2] rfl ?_
        refine ow_r rfl (dstOk_lt rfl) (ry_box1 (off := 9) rfl rfl ty3 (boxIn (i := 0) rfl) rfl) ?_
        refine ow_batch [.fa 46 2 9 fa46_2] rfl ?_
        refine ow_r rfl (dstOk_lt rfl) (ry_box1 (off := 9) rfl rfl ty3 (boxIn (i := 1) rfl) rfl) ?_
        refine ow_batch [.p] rfl ?_
        refine ow_batch [.p] rfl ?_
        exact OW.sub key ⟨rfl, rfl, rfl, rfl, trivial⟩
  · generalize y47 = t50 at key ⊢
    cases t50
    · refine ow_batch [.p, .p, .p, .p, .p, .p] rfl ?_
      exact OW.sub key ⟨rfl, rfl, rfl, rfl, trivial⟩
    · refine ow_batch [.fa 46 1 2 fa46_1] rfl ?_
      refine ow_r rfl (dstOk_lt rfl) (ry_box (off := 2) (ds := [.int .i64 p0.Rule_.Sure_, .int .i64 p0.Rule_.Tie_, .int .i64 p0.Rule_.Grace_, .int .i64 p0.Rule_.Depth_, .int .i64 p0.Rule_.Nodes_, .int .i64 p0.Rule_.Units_, .bool p0.Rule_.Two_]) rfl rfl ty44 (boxIn (i := 0) rfl) rfl rfl) ?_
      refine ow_batch [.fa 46 1 2 fa46_1] rfl ?_
      refine ow_r rfl (dstOk_lt rfl) (ry_box (off := 2) (ds := [.int .i64 p1.Rule_.Sure_, .int .i64 p1.Rule_.Tie_, .int .i64 p1.Rule_.Grace_, .int .i64 p1.Rule_.Depth_, .int .i64 p1.Rule_.Nodes_, .int .i64 p1.Rule_.Units_, .bool p1.Rule_.Two_]) rfl rfl ty44 (boxIn (i := 1) rfl) rfl rfl) ?_
      refine ow_r rfl (dstOk_lt rfl) (ry_seql (xs := [.int .i64 p0.Rule_.Sure_, .int .i64 p0.Rule_.Tie_, .int .i64 p0.Rule_.Grace_, .int .i64 p0.Rule_.Depth_, .int .i64 p0.Rule_.Nodes_, .int .i64 p0.Rule_.Units_, .bool p0.Rule_.Two_]) (ys := [.int .i64 p1.Rule_.Sure_, .int .i64 p1.Rule_.Tie_, .int .i64 p1.Rule_.Grace_, .int .i64 p1.Rule_.Depth_, .int .i64 p1.Rule_.Nodes_, .int .i64 p1.Rule_.Units_, .bool p1.Rule_.Two_]) rfl rfl rfl (se44 p0.Rule_.Sure_ p1.Rule_.Sure_ p0.Rule_.Tie_ p1.Rule_.Tie_ p0.Rule_.Grace_ p1.Rule_.Grace_ p0.Rule_.Depth_ p1.Rule_.Depth_ p0.Rule_.Nodes_ p1.Rule_.Nodes_ p0.Rule_.Units_ p1.Rule_.Units_ p0.Rule_.Two_ p1.Rule_.Two_)) ?_
      refine ow_batch [.p] rfl ?_
      exact OW.sub key ⟨rfl, rfl, rfl, rfl, trivial⟩

set_option maxHeartbeats 4000000 in
set_option maxRecDepth 100000 in
theorem impl_sameLists_1_ok (w : World) {p0 : List Int} {p1 : List Int} {a_0 : Option Addr} {n_0 c_0 : Nat} {a_1 : Option Addr} {n_1 c_1 : Nat} {r : Bool} (H : impl_sameLists_1 p0 p1 = some r)  (g0 : (eList (eVal (Value.int .i64) (fun _ => rfl)) 3).rd w [] p0 [.slice a_0 n_0 c_0]) (g1 : (eList (eVal (Value.int .i64) (fun _ => rfl)) 3).rd w [] p1 [.slice a_1 n_1 c_1]) :
    Calls Try.prog 65 #[.slice a_0 n_0 c_0, .slice a_1 n_1 c_1] w (fun en w' => en = .returned (.bool r) ∧ Ext [] w w') := by
  obtain rfl := rd_n g0
  obtain rfl := rd_n g1
  unfold impl_sameLists_1 at H
  refine f_enter (vs := [.slice a_0 p0.length c_0, .slice a_1 p1.length c_1]) Try.func65 rfl Try.ntmps65 rfl (St.init w []) ?_
  refine c_seq ?_
  refine c_reg ?_
  refine ow_batch [.p] rfl ?_
  refine ow_nil ?_
  refine x_qs ?_
  refine c_seq ?_
  refine c_reg ?_
  refine ow_batch [.p, .p] rfl ?_
  obtain ⟨y1, h2, H⟩ := of_bind H
  refine ow_q rfl rfl (dstOk_lt rfl) (qy_call rfl fn61 rfl (fun w1 hw1 => lib_slices_Equal___int_int__ok w1  h2 (rds_bor g0 w1 hw1) (rds_bor g1 w1 hw1))) (fun _ _ => trivial) ?_
  refine ow_batch [.p] rfl ?_
  refine ow_nil ?_
  refine x_qs ?_
  refine c_ret ?_
  exact x_retR (rs := [.tmp 4]) (vs := [.bool y1]) rfl ⟨rfl, trivial⟩ (fun w' hw' => by
      obtain rfl := of_some H
      exact ⟨rfl, hw'.ext⟩)

end Go.Vk
