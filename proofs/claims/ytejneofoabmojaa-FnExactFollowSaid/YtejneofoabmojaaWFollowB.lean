/- The code does what the functions of data say. Printed by program. -/

import Derived.Test.YtejneofoabmojaaWFollowA

namespace Go.Vk

open Go.Proofs Go.RowKit



set_option maxHeartbeats 4000000 in
set_option maxRecDepth 100000 in
theorem laws_markPastS_ok (w : World) {M0 : List Nat} {p0 : List Timpl_Past} {p1 : Int} {a_0_0 : Option Addr} {n_0_0 c_0_0 : Nat} {F_0_0 : List Nat} {r : Int × (List Timpl_Past)} (H : laws_markPastS p0 p1 = some r) (HS : St w M0 [Res.own (eList (eTimpl_Past) 120) F_0_0 p0 [.slice a_0_0 n_0_0 c_0_0]] w)  :
    Calls Try.prog 46 #[.slice a_0_0 n_0_0 c_0_0, .int .i64 p1] w (fun en w' => ∃ v, en = .returned v ∧ ∃ (F0 : List Nat), v = .int .i64 r.1 ∧ St w M0 [Res.own (eList (eTimpl_Past) 120) F0 r.2 [.slice a_0_0 n_0_0 c_0_0]] w') := by
  obtain rfl := own_nS (i := 0) HS rfl
  unfold laws_markPastS at H
  refine f_enter (vs := [.slice a_0_0 p0.length c_0_0, .int .i64 p1]) Try.func46 rfl Try.ntmps46 rfl (HS) ?_
  refine c_seq ?_
  refine c_reg ?_
  refine ow_batch [.p] rfl ?_
  refine ow_nil ?_
  refine x_qs ?_
  refine c_seq ?_
  refine c_seq ?_
  refine c_reg ?_
  refine ow_batch [.p] rfl ?_
  refine ow_nil ?_
  refine x_qs ?_
  refine c_block ?_
  refine CW.at (loopI4 (fun (l44 : List Timpl_Past) (F45 : List Nat) (i46 : Int) (i47 : Int) => St w M0 [Res.own (eList (eTimpl_Past) 120) F45 l44 [.slice a_0_0 p0.length c_0_0]]) (fun (l44 : List Timpl_Past) (F45 : List Nat) (i46 : Int) (i47 : Int) => [(0, .slice a_0_0 p0.length c_0_0), (1, .int .i64 i46), (5, .int .i64 i47)]) (fun kk => fun (l44 : List Timpl_Past) (F45 : List Nat) (i46 : Int) (i47 : Int) => laws_markPastS_L1 p0 kk l44 i46 i47 = some r) (fun _ _ _ _ H => ?_) (fun k1 ihk1 l44 F45 i46 i47 H => ?_) Fuel (p0) (F_0_0) (p1) (0) (H)) (fun _ h => St.sel [0] rfl rfl h) ⟨rfl, rfl, rfl,  trivial⟩
  · unfold laws_markPastS_L1 at H
    exact absurd H (by simp)
  · unfold laws_markPastS_L1 at H
    refine c_seq ?_
    refine c_seq ?_
    refine c_reg ?_
    refine ow_batch [.p, .p, .lenS 71 120 sl71, .p] rfl ?_
    refine ow_nil ?_
    refine x_qs ?_
    refine c_if rfl (fun hb => ?_) (fun hb => ?_)
    · have H := of_if_t hb H
      refine c_skip ?_
      refine x_qs ?_
      refine c_seq ?_
      refine c_block ?_
      refine c_seq ?_
      refine c_reg ?_
      refine ow_batch [.p, .p] rfl ?_
      obtain ⟨e91, h92, H⟩ := of_bind H
      refine ow_ex4 rfl (fun w1 hw1 => foc (r := 0) hw1 rfl h92) (fun b94 G95 F96 c97 => ?_)
      refine ow_fact rfl (fun w1 hw1 => hw1.1) (fun q93 => ?_)
      obtain ⟨ha98, hn99⟩ := q93
      refine ow_st (C' := St w M0 [_, _, _]) rfl (fun w1 hw1 => hw1.2) ?_
      refine ow_ex3 rfl (fun w1 hw1 => opn_Timpl_Past (i := 2) hw1 rfl) (fun a101 c102 F103 => ?_)
      refine ow_ex3 rfl (fun _ h => h) (fun a104 c105 F106 => ?_)
      refine ow_ex3 rfl (fun _ h => h) (fun a107 c108 F109 => ?_)
      refine ow_fact rfl (fun w1 hw1 => hw1.1) (fun q100 => ?_)
      subst q100
      refine ow_st (C' := St w M0 [_, _, _, _, _, _]) rfl (fun w1 hw1 => hw1.2) ?_
      refine ow_ixH rfl rfl rfl rfl rfl sl71 ty120 rfl (holeIn (p := 1) rfl) hn99 ha98 (idx_some h92).1 ?_
      refine ow_batch [.fa 120 0 0 fa120_0] rfl ?_
      refine ow_r rfl (dstOk_lt rfl) (ry_hole1 1 0 rfl rfl rfl ty63 (by first | rfl | simp only [add_lit, add_add, add_zero]) rfl) ?_
      refine ow_batch [.p] rfl ?_
      obtain ⟨y110, h111, H⟩ := of_bind H
      refine ow_callS rfl fn93 rfl rfl rfl rfl (fun w1 hw1 => laws_markEntryS_ok w1  h111 (hw1.carve [3] rfl rfl)) (fun v112 w1 w2 hw1 hR114 => ?_)
      obtain ⟨F115, rfl, hS113⟩ := hR114
      refine ⟨St w M0 [_, _, _, _, _, _, _], hw1.comp [3] rfl rfl hS113, fun _ _ => trivial, ?_⟩
      refine ow_batch [.p] rfl ?_
      refine ow_nil ?_
      refine x_qs ?_
      refine c_seq ?_
      refine CW.weak (C' := St w M0 [_, _, _, _]) ?_ (fun _ h => St.sel [1, 4, 5, 6] rfl rfl h)
      refine c_reg ?_
      refine ow_batch [.p, .p] rfl ?_
      refine ow_ixH rfl rfl rfl rfl rfl sl71 ty120 rfl (holeIn (p := 0) rfl) hn99 ha98 (idx_some h92).1 ?_
      refine ow_batch [.fa 120 1 1 fa120_1] rfl ?_
      refine ow_r rfl (dstOk_lt rfl) (ry_hole1 0 1 rfl rfl rfl ty63 (by first | rfl | simp only [add_lit, add_add, add_zero]) rfl) ?_
      refine ow_batch [.p] rfl ?_
      obtain ⟨y116, h117, H⟩ := of_bind H
      refine ow_callS rfl fn93 rfl rfl rfl rfl (fun w1 hw1 => laws_markEntryS_ok w1  h117 (hw1.carve [1] rfl rfl)) (fun v118 w1 w2 hw1 hR120 => ?_)
      obtain ⟨F121, rfl, hS119⟩ := hR120
      refine ⟨St w M0 [_, _, _, _, _], hw1.comp [1] rfl rfl hS119, fun _ _ => trivial, ?_⟩
      refine ow_batch [.p] rfl ?_
      refine ow_nil ?_
      refine x_qs ?_
      refine c_reg ?_
      refine ow_batch [.p, .p] rfl ?_
      refine ow_ixH rfl rfl rfl rfl rfl sl71 ty120 rfl (holeIn (p := 0) rfl) hn99 ha98 (idx_some h92).1 ?_
      refine ow_batch [.fa 120 2 2 fa120_2] rfl ?_
      refine ow_r rfl (dstOk_lt rfl) (ry_hole1 0 2 rfl rfl rfl ty22 (by first | rfl | simp only [add_lit, add_add, add_zero]) rfl) ?_
      refine ow_batch [.p] rfl ?_
      obtain ⟨y122, h123, H⟩ := of_bind H
      refine ow_callS rfl fn94 rfl rfl rfl rfl (fun w1 hw1 => laws_markIntS_ok w1  h123 (hw1.carve [2] rfl rfl)) (fun v124 w1 w2 hw1 hR126 => ?_)
      obtain ⟨F127, rfl, hS125⟩ := hR126
      refine ⟨St w M0 [_, _, _, _, _, _], hw1.comp [2] rfl rfl hS125, fun _ _ => trivial, ?_⟩
      refine ow_batch [.p] rfl ?_
      refine ow_nil ?_
      refine x_qb ?_
      refine x_qs ?_
      refine CW.weak (C' := St w M0 [_, _, _, _]) ?_ (fun _ h => St.sel [0, 3, 4, 5] rfl rfl h)
      refine c_reg ?_
      refine ow_batch [.p, .p, .p] rfl ?_
      refine ow_nil ?_
      refine xw_ex (fun w1 hw1 => fus_Timpl_Past  [1, 2, 3] hw1 rfl rfl) (fun F128 => ?_)
      refine xw_st (C' := St w M0 [_, _, _, _, _]) (fun _ h => h) ?_
      refine xw_ex (fun w1 hw1 => unf (p := 0) (q := 4) hw1 rfl rfl rfl hn99 ha98) (fun F129 => ?_)
      refine xw_st (C' := St w M0 [_, _, _, _, _, _]) (fun _ h => h) ?_
      exact x_ql (RW.at (ihk1 ((l44.set i47.toNat (Timpl_Past.mk y110.2 y116.2 y122.2))) (F129) (y122.1) (IntKind.i64.wrap (i47 + 1)) (H)) (fun _ h => St.sel [5] rfl rfl h) ⟨rfl, rfl, rfl, trivial⟩)
    · have H := of_if_f hb H
      refine c_exit ?_
      refine x_qs_exit ?_
      refine x_ql_exit ?_
      refine x_qb_here ?_
      refine x_qs ?_
      refine c_seq ?_
      refine c_reg ?_
      refine ow_batch [.p, .p] rfl ?_
      refine ow_nil ?_
      refine x_qs ?_
      refine c_ret ?_
      exact x_retR (rs := [.tmp 4]) (vs := [.int .i64 i46]) rfl ⟨rfl, trivial⟩ (fun w' hw' => by
          obtain rfl := of_some H
          exact ⟨_, rfl, F45, rfl, hw'.sel [0] rfl rfl⟩)

set_option maxHeartbeats 4000000 in
set_option maxRecDepth 100000 in
theorem laws_markEx_ok (w : World) {M0 : List Nat} {p0 : Timpl_Ex} {p1 : Int} {a_0_0 : Option Addr} {n_0_0 c_0_0 : Nat} {F_0_0 : List Nat} {r : Int × Timpl_Ex} (H : laws_markEx p0 p1 = some r) (HS : St w M0 [Res.own (eList (eVal (Value.int .i64) (fun _ => rfl)) 3) F_0_0 p0.Bins_ [.slice a_0_0 n_0_0 c_0_0]] w)  :
    Calls Try.prog 47 #[.agg #[.slice a_0_0 n_0_0 c_0_0, .int .i64 p0.Class_], .int .i64 p1] w (fun en w' => ∃ v, en = .returned v ∧ ∃ (F0 : List Nat), v = .int .i64 r.1 ∧ St w M0 [Res.own (eList (eVal (Value.int .i64) (fun _ => rfl)) 3) F0 r.2.Bins_ [.slice a_0_0 n_0_0 c_0_0]] w') := by
  obtain rfl := own_nS (i := 0) HS rfl
  unfold laws_markEx at H
  refine f_enter (vs := [.agg #[.slice a_0_0 p0.Bins_.length c_0_0, .int .i64 p0.Class_], .int .i64 p1]) Try.func47 rfl Try.ntmps47 rfl (HS) ?_
  refine c_seq ?_
  refine c_reg ?_
  refine ow_box (cs := [.slice a_0_0 p0.Bins_.length c_0_0, .int .i64 p0.Class_]) rfl rfl rfl rfl rfl rfl (fun _ => kp) (fun b1 => ?_)
  refine ow_batch [.p] rfl ?_
  refine ow_nil ?_
  refine x_qs ?_
  refine c_seq ?_
  refine c_reg ?_
  refine ow_batch [.fa 56 0 0 fa56_0] rfl ?_
  refine ow_r rfl (dstOk_lt rfl) (ry_box1 (off := 0) rfl rfl ty22 (boxIn (i := 1) rfl) rfl) ?_
  refine ow_batch [.p] rfl ?_
  obtain ⟨y2, h3, H⟩ := of_bind H
  refine ow_callS rfl fn94 rfl rfl rfl rfl (fun w1 hw1 => laws_markIntS_ok w1  h3 (hw1.carve [0] rfl rfl)) (fun v4 w1 w2 hw1 hR6 => ?_)
  obtain ⟨F7, rfl, hS5⟩ := hR6
  refine ⟨St w M0 [_, _, _], hw1.comp [0] rfl rfl hS5, fun _ _ => trivial, ?_⟩
  refine ow_batch [.p] rfl ?_
  refine ow_nil ?_
  refine x_qs ?_
  refine c_seq ?_
  refine c_reg ?_
  refine ow_batch [.p, .p] rfl ?_
  refine ow_nil ?_
  refine x_qs ?_
  refine c_ret ?_
  exact x_retR (rs := [.tmp 4]) (vs := [.int .i64 y2.1]) rfl ⟨rfl, trivial⟩ (fun w' hw' => by
      obtain rfl := of_some H
      exact ⟨_, rfl, F7, rfl, hw'.sel [2] rfl rfl⟩)

set_option maxHeartbeats 4000000 in
set_option maxRecDepth 100000 in
theorem laws_markStepS_ok (w : World) {M0 : List Nat} {p0 : List Timpl_Step} {p1 : Int} {a_0_0 : Option Addr} {n_0_0 c_0_0 : Nat} {F_0_0 : List Nat} {r : Int × (List Timpl_Step)} (H : laws_markStepS p0 p1 = some r) (HS : St w M0 [Res.own (eList (eTimpl_Step) 123) F_0_0 p0 [.slice a_0_0 n_0_0 c_0_0]] w)  :
    Calls Try.prog 48 #[.slice a_0_0 n_0_0 c_0_0, .int .i64 p1] w (fun en w' => ∃ v, en = .returned v ∧ ∃ (F0 : List Nat), v = .int .i64 r.1 ∧ St w M0 [Res.own (eList (eTimpl_Step) 123) F0 r.2 [.slice a_0_0 n_0_0 c_0_0]] w') := by
  obtain rfl := own_nS (i := 0) HS rfl
  unfold laws_markStepS at H
  refine f_enter (vs := [.slice a_0_0 p0.length c_0_0, .int .i64 p1]) Try.func48 rfl Try.ntmps48 rfl (HS) ?_
  refine c_seq ?_
  refine c_reg ?_
  refine ow_batch [.p] rfl ?_
  refine ow_nil ?_
  refine x_qs ?_
  refine c_seq ?_
  refine c_seq ?_
  refine c_reg ?_
  refine ow_batch [.p] rfl ?_
  refine ow_nil ?_
  refine x_qs ?_
  refine c_block ?_
  refine CW.at (loopI4 (fun (l15 : List Timpl_Step) (F16 : List Nat) (i17 : Int) (i18 : Int) => St w M0 [Res.own (eList (eTimpl_Step) 123) F16 l15 [.slice a_0_0 p0.length c_0_0]]) (fun (l15 : List Timpl_Step) (F16 : List Nat) (i17 : Int) (i18 : Int) => [(0, .slice a_0_0 p0.length c_0_0), (1, .int .i64 i17), (5, .int .i64 i18)]) (fun kk => fun (l15 : List Timpl_Step) (F16 : List Nat) (i17 : Int) (i18 : Int) => laws_markStepS_L1 p0 kk l15 i17 i18 = some r) (fun _ _ _ _ H => ?_) (fun k1 ihk1 l15 F16 i17 i18 H => ?_) Fuel (p0) (F_0_0) (p1) (0) (H)) (fun _ h => St.sel [0] rfl rfl h) ⟨rfl, rfl, rfl,  trivial⟩
  · unfold laws_markStepS_L1 at H
    exact absurd H (by simp)
  · unfold laws_markStepS_L1 at H
    refine c_seq ?_
    refine c_seq ?_
    refine c_reg ?_
    refine ow_batch [.p, .p, .lenS 74 123 sl74, .p] rfl ?_
    refine ow_nil ?_
    refine x_qs ?_
    refine c_if rfl (fun hb => ?_) (fun hb => ?_)
    · have H := of_if_t hb H
      refine c_skip ?_
      refine x_qs ?_
      refine c_seq ?_
      refine c_block ?_
      refine c_seq ?_
      refine c_reg ?_
      refine ow_batch [.p, .p, .p] rfl ?_
      obtain ⟨e34, h35, H⟩ := of_bind H
      refine ow_ex4 rfl (fun w1 hw1 => foc (r := 0) hw1 rfl h35) (fun b37 G38 F39 c40 => ?_)
      refine ow_fact rfl (fun w1 hw1 => hw1.1) (fun q36 => ?_)
      obtain ⟨ha41, hn42⟩ := q36
      refine ow_st (C' := St w M0 [_, _, _]) rfl (fun w1 hw1 => hw1.2) ?_
      refine ow_fact rfl (fun w1 hw1 => opn_flat (i := 2) hw1 rfl) (fun q36 => ?_)
      obtain ⟨rfl, rfl⟩ := q36
      refine ow_st (C' := St w M0 [_, _]) rfl (fun w1 hw1 => St.mask [true, true] rfl hw1) ?_
      refine ow_ixH rfl rfl rfl rfl rfl sl74 ty123 rfl (holeIn (p := 1) rfl) hn42 ha41 (idx_some h35).1 ?_
      refine ow_batch [.fa 123 0 0 fa123_0] rfl ?_
      refine ow_storeH (off := 0) [.int .i64 i17] (p := 1) (c' := [_, _, _, _, _, _, _, _]) rfl rfl rfl rfl rfl (by first | rfl | simp only [add_lit, add_add, add_zero]) rfl ty3 rfl rfl (by intro u hu; simp only [List.mem_cons, List.not_mem_nil, or_false] at hu; rcases hu with rfl <;> rfl) rfl rfl rfl kp ?_
      refine ow_nil ?_
      refine x_qs ?_
      refine c_seq ?_
      refine c_reg ?_
      refine ow_batch [.p, .p, .p] rfl ?_
      refine ow_nil ?_
      refine x_qs ?_
      refine c_seq ?_
      refine c_reg ?_
      refine ow_batch [.p, .p, .p] rfl ?_
      refine ow_ixH rfl rfl rfl rfl rfl sl74 ty123 rfl (holeIn (p := 1) rfl) hn42 ha41 (idx_some h35).1 ?_
      refine ow_batch [.fa 123 1 1 fa123_1] rfl ?_
      refine ow_storeH (off := 1) [.int .i64 (IntKind.i64.wrap (i17 + 1))] (p := 1) (c' := [_, _, _, _, _, _, _, _]) rfl rfl rfl rfl rfl (by first | rfl | simp only [add_lit, add_add, add_zero]) rfl ty3 rfl rfl (by intro u hu; simp only [List.mem_cons, List.not_mem_nil, or_false] at hu; rcases hu with rfl <;> rfl) rfl rfl rfl kp ?_
      refine ow_nil ?_
      refine x_qs ?_
      refine c_seq ?_
      refine c_reg ?_
      refine ow_batch [.p, .p, .p] rfl ?_
      refine ow_nil ?_
      refine x_qs ?_
      refine c_seq ?_
      refine c_reg ?_
      refine ow_batch [.p, .p, .p] rfl ?_
      refine ow_ixH rfl rfl rfl rfl rfl sl74 ty123 rfl (holeIn (p := 1) rfl) hn42 ha41 (idx_some h35).1 ?_
      refine ow_batch [.fa 123 2 2 fa123_2] rfl ?_
      refine ow_storeH (off := 2) [.int .i64 (IntKind.i64.wrap ((IntKind.i64.wrap (i17 + 1)) + 1))] (p := 1) (c' := [_, _, _, _, _, _, _, _]) rfl rfl rfl rfl rfl (by first | rfl | simp only [add_lit, add_add, add_zero]) rfl ty3 rfl rfl (by intro u hu; simp only [List.mem_cons, List.not_mem_nil, or_false] at hu; rcases hu with rfl <;> rfl) rfl rfl rfl kp ?_
      refine ow_nil ?_
      refine x_qs ?_
      refine c_seq ?_
      refine c_reg ?_
      refine ow_batch [.p, .p, .p] rfl ?_
      refine ow_nil ?_
      refine x_qs ?_
      refine c_seq ?_
      refine c_reg ?_
      refine ow_batch [.p, .p, .p] rfl ?_
      refine ow_ixH rfl rfl rfl rfl rfl sl74 ty123 rfl (holeIn (p := 1) rfl) hn42 ha41 (idx_some h35).1 ?_
      refine ow_batch [.fa 123 3 3 fa123_3] rfl ?_
      refine ow_storeH (off := 3) [.int .i64 (IntKind.i64.wrap ((IntKind.i64.wrap ((IntKind.i64.wrap (i17 + 1)) + 1)) + 1))] (p := 1) (c' := [_, _, _, _, _, _, _, _]) rfl rfl rfl rfl rfl (by first | rfl | simp only [add_lit, add_add, add_zero]) rfl ty3 rfl rfl (by intro u hu; simp only [List.mem_cons, List.not_mem_nil, or_false] at hu; rcases hu with rfl <;> rfl) rfl rfl rfl kp ?_
      refine ow_nil ?_
      refine x_qs ?_
      refine c_seq ?_
      refine c_reg ?_
      refine ow_batch [.p, .p, .p] rfl ?_
      refine ow_nil ?_
      refine x_qs ?_
      refine c_seq ?_
      refine c_reg ?_
      refine ow_batch [.p, .p, .p] rfl ?_
      refine ow_ixH rfl rfl rfl rfl rfl sl74 ty123 rfl (holeIn (p := 1) rfl) hn42 ha41 (idx_some h35).1 ?_
      refine ow_batch [.fa 123 4 4 fa123_4] rfl ?_
      refine ow_storeH (off := 4) [.int .i64 (IntKind.i64.wrap ((IntKind.i64.wrap ((IntKind.i64.wrap ((IntKind.i64.wrap (i17 + 1)) + 1)) + 1)) + 1))] (p := 1) (c' := [_, _, _, _, _, _, _, _]) rfl rfl rfl rfl rfl (by first | rfl | simp only [add_lit, add_add, add_zero]) rfl ty3 rfl rfl (by intro u hu; simp only [List.mem_cons, List.not_mem_nil, or_false] at hu; rcases hu with rfl <;> rfl) rfl rfl rfl kp ?_
      refine ow_nil ?_
      refine x_qs ?_
      refine c_seq ?_
      refine c_reg ?_
      refine ow_batch [.p, .p, .p] rfl ?_
      refine ow_nil ?_
      refine x_qs ?_
      refine c_seq ?_
      refine c_reg ?_
      refine ow_batch [.p, .p, .p] rfl ?_
      refine ow_ixH rfl rfl rfl rfl rfl sl74 ty123 rfl (holeIn (p := 1) rfl) hn42 ha41 (idx_some h35).1 ?_
      refine ow_batch [.fa 123 5 5 fa123_5] rfl ?_
      refine ow_storeH (off := 5) [.int .i64 (IntKind.i64.wrap ((IntKind.i64.wrap ((IntKind.i64.wrap ((IntKind.i64.wrap ((IntKind.i64.wrap (i17 + 1)) + 1)) + 1)) + 1)) + 1))] (p := 1) (c' := [_, _, _, _, _, _, _, _]) rfl rfl rfl rfl rfl (by first | rfl | simp only [add_lit, add_add, add_zero]) rfl ty3 rfl rfl (by intro u hu; simp only [List.mem_cons, List.not_mem_nil, or_false] at hu; rcases hu with rfl <;> rfl) rfl rfl rfl kp ?_
      refine ow_nil ?_
      refine x_qs ?_
      refine c_seq ?_
      refine CW.weak (C' := St w M0 [_]) ?_ (fun _ h => St.sel [1] rfl rfl h)
      refine c_reg ?_
      refine ow_batch [.p, .p, .p] rfl ?_
      refine ow_nil ?_
      refine x_qs ?_
      refine c_seq ?_
      refine c_reg ?_
      refine ow_batch [.p, .p, .p, .p, .p] rfl ?_
      refine ow_ixH rfl rfl rfl rfl rfl sl74 ty123 rfl (holeIn (p := 0) rfl) hn42 ha41 (idx_some h35).1 ?_
      refine ow_batch [.fa 123 6 6 fa123_6] rfl ?_
      refine ow_storeH (off := 6) [.bool ((Int.tmod (IntKind.i64.wrap ((IntKind.i64.wrap ((IntKind.i64.wrap ((IntKind.i64.wrap ((IntKind.i64.wrap ((IntKind.i64.wrap (i17 + 1)) + 1)) + 1)) + 1)) + 1)) + 1)) 3) == 0)] (p := 0) (c' := [_, _, _, _, _, _, _, _]) rfl rfl rfl rfl rfl (by first | rfl | simp only [add_lit, add_add, add_zero]) rfl ty4 rfl rfl (by intro u hu; simp only [List.mem_cons, List.not_mem_nil, or_false] at hu; rcases hu with rfl <;> rfl) rfl rfl rfl kp ?_
      refine ow_nil ?_
      refine x_qs ?_
      refine c_seq ?_
      refine c_reg ?_
      refine ow_batch [.p, .p, .p] rfl ?_
      refine ow_nil ?_
      refine x_qs ?_
      refine c_seq ?_
      refine c_reg ?_
      refine ow_batch [.p, .p, .p, .p, .p] rfl ?_
      refine ow_ixH rfl rfl rfl rfl rfl sl74 ty123 rfl (holeIn (p := 0) rfl) hn42 ha41 (idx_some h35).1 ?_
      refine ow_batch [.fa 123 7 7 fa123_7] rfl ?_
      refine ow_storeH (off := 7) [.bool ((Int.tmod (IntKind.i64.wrap ((IntKind.i64.wrap ((IntKind.i64.wrap ((IntKind.i64.wrap ((IntKind.i64.wrap ((IntKind.i64.wrap ((IntKind.i64.wrap (i17 + 1)) + 1)) + 1)) + 1)) + 1)) + 1)) + 1)) 3) == 0)] (p := 0) (c' := [_, _, _, _, _, _, _, _]) rfl rfl rfl rfl rfl (by first | rfl | simp only [add_lit, add_add, add_zero]) rfl ty4 rfl rfl (by intro u hu; simp only [List.mem_cons, List.not_mem_nil, or_false] at hu; rcases hu with rfl <;> rfl) rfl rfl rfl kp ?_
      refine ow_nil ?_
      refine x_qs ?_
      refine c_reg ?_
      refine ow_batch [.p, .p, .p] rfl ?_
      refine ow_nil ?_
      refine x_qb ?_
      refine x_qs ?_
      refine c_reg ?_
      refine ow_batch [.p, .p, .p] rfl ?_
      refine ow_nil ?_
      refine xw_st (fun _ h => St.push0 h (Res.own (eTimpl_Step) [] (Timpl_Step.mk i17 (IntKind.i64.wrap (i17 + 1)) (IntKind.i64.wrap ((IntKind.i64.wrap (i17 + 1)) + 1)) (IntKind.i64.wrap ((IntKind.i64.wrap ((IntKind.i64.wrap (i17 + 1)) + 1)) + 1)) (IntKind.i64.wrap ((IntKind.i64.wrap ((IntKind.i64.wrap ((IntKind.i64.wrap (i17 + 1)) + 1)) + 1)) + 1)) (IntKind.i64.wrap ((IntKind.i64.wrap ((IntKind.i64.wrap ((IntKind.i64.wrap ((IntKind.i64.wrap (i17 + 1)) + 1)) + 1)) + 1)) + 1)) ((Int.tmod (IntKind.i64.wrap ((IntKind.i64.wrap ((IntKind.i64.wrap ((IntKind.i64.wrap ((IntKind.i64.wrap ((IntKind.i64.wrap (i17 + 1)) + 1)) + 1)) + 1)) + 1)) + 1)) 3) == 0) ((Int.tmod (IntKind.i64.wrap ((IntKind.i64.wrap ((IntKind.i64.wrap ((IntKind.i64.wrap ((IntKind.i64.wrap ((IntKind.i64.wrap ((IntKind.i64.wrap (i17 + 1)) + 1)) + 1)) + 1)) + 1)) + 1)) + 1)) 3) == 0)) [.int .i64 i17, .int .i64 (IntKind.i64.wrap (i17 + 1)), .int .i64 (IntKind.i64.wrap ((IntKind.i64.wrap (i17 + 1)) + 1)), .int .i64 (IntKind.i64.wrap ((IntKind.i64.wrap ((IntKind.i64.wrap (i17 + 1)) + 1)) + 1)), .int .i64 (IntKind.i64.wrap ((IntKind.i64.wrap ((IntKind.i64.wrap ((IntKind.i64.wrap (i17 + 1)) + 1)) + 1)) + 1)), .int .i64 (IntKind.i64.wrap ((IntKind.i64.wrap ((IntKind.i64.wrap ((IntKind.i64.wrap ((IntKind.i64.wrap (i17 + 1)) + 1)) + 1)) + 1)) + 1)), .bool ((Int.tmod (IntKind.i64.wrap ((IntKind.i64.wrap ((IntKind.i64.wrap ((IntKind.i64.wrap ((IntKind.i64.wrap ((IntKind.i64.wrap (i17 + 1)) + 1)) + 1)) + 1)) + 1)) + 1)) 3) == 0), .bool ((Int.tmod (IntKind.i64.wrap ((IntKind.i64.wrap ((IntKind.i64.wrap ((IntKind.i64.wrap ((IntKind.i64.wrap ((IntKind.i64.wrap ((IntKind.i64.wrap (i17 + 1)) + 1)) + 1)) + 1)) + 1)) + 1)) + 1)) 3) == 0)]) rfl ⟨rfl, rfl⟩) ?_
      refine xw_ex (fun w1 hw1 => unf (p := 0) (q := 1) hw1 rfl rfl rfl hn42 ha41) (fun F43 => ?_)
      refine xw_st (C' := St w M0 [_, _, _]) (fun _ h => h) ?_
      exact x_ql (RW.at (ihk1 ((l15.set i18.toNat (Timpl_Step.mk i17 (IntKind.i64.wrap (i17 + 1)) (IntKind.i64.wrap ((IntKind.i64.wrap (i17 + 1)) + 1)) (IntKind.i64.wrap ((IntKind.i64.wrap ((IntKind.i64.wrap (i17 + 1)) + 1)) + 1)) (IntKind.i64.wrap ((IntKind.i64.wrap ((IntKind.i64.wrap ((IntKind.i64.wrap (i17 + 1)) + 1)) + 1)) + 1)) (IntKind.i64.wrap ((IntKind.i64.wrap ((IntKind.i64.wrap ((IntKind.i64.wrap ((IntKind.i64.wrap (i17 + 1)) + 1)) + 1)) + 1)) + 1)) ((Int.tmod (IntKind.i64.wrap ((IntKind.i64.wrap ((IntKind.i64.wrap ((IntKind.i64.wrap ((IntKind.i64.wrap ((IntKind.i64.wrap (i17 + 1)) + 1)) + 1)) + 1)) + 1)) + 1)) 3) == 0) ((Int.tmod (IntKind.i64.wrap ((IntKind.i64.wrap ((IntKind.i64.wrap ((IntKind.i64.wrap ((IntKind.i64.wrap ((IntKind.i64.wrap ((IntKind.i64.wrap (i17 + 1)) + 1)) + 1)) + 1)) + 1)) + 1)) + 1)) 3) == 0)))) (F43) (IntKind.i64.wrap ((IntKind.i64.wrap ((IntKind.i64.wrap ((IntKind.i64.wrap ((IntKind.i64.wrap ((IntKind.i64.wrap ((IntKind.i64.wrap ((IntKind.i64.wrap (i17 + 1)) + 1)) + 1)) + 1)) + 1)) + 1)) + 1)) + 1)) (IntKind.i64.wrap (i18 + 1)) (H)) (fun _ h => St.sel [2] rfl rfl h) ⟨rfl, rfl, rfl, trivial⟩)
    · have H := of_if_f hb H
      refine c_exit ?_
      refine x_qs_exit ?_
      refine x_ql_exit ?_
      refine x_qb_here ?_
      refine x_qs ?_
      refine c_seq ?_
      refine c_reg ?_
      refine ow_batch [.p, .p] rfl ?_
      refine ow_nil ?_
      refine x_qs ?_
      refine c_ret ?_
      exact x_retR (rs := [.tmp 4]) (vs := [.int .i64 i17]) rfl ⟨rfl, trivial⟩ (fun w' hw' => by
          obtain rfl := of_some H
          exact ⟨_, rfl, F16, rfl, hw'.sel [0] rfl rfl⟩)

set_option maxHeartbeats 4000000 in
set_option maxRecDepth 100000 in
theorem laws_heldIntS_ok (w : World) {p0 : List Int} {p1 : Int} {a_0 : Option Addr} {n_0 c_0 : Nat} {r : Int} (H : laws_heldIntS p0 p1 = some r)  (g0 : (eList (eVal (Value.int .i64) (fun _ => rfl)) 3).rd w [] p0 [.slice a_0 n_0 c_0]) :
    Calls Try.prog 96 #[.slice a_0 n_0 c_0, .int .i64 p1] w (fun en w' => en = .returned (.int .i64 r) ∧ Ext [] w w') := by
  obtain rfl := rd_n g0
  unfold laws_heldIntS at H
  refine f_enter (vs := [.slice a_0 p0.length c_0, .int .i64 p1]) Try.func96 rfl Try.ntmps96 rfl (St.init w []) ?_
  refine c_seq ?_
  refine c_reg ?_
  refine ow_batch [.p] rfl ?_
  refine ow_nil ?_
  refine x_qs ?_
  refine c_seq ?_
  refine c_seq ?_
  refine c_reg ?_
  refine ow_batch [.p] rfl ?_
  refine ow_nil ?_
  refine x_qs ?_
  refine c_block ?_
  refine CW.at (loopI2 (fun (i5 : Int) (i6 : Int) => St w [] []) (fun (i5 : Int) (i6 : Int) => [(0, .slice a_0 p0.length c_0), (1, .int .i64 i5), (5, .int .i64 i6)]) (fun kk => fun (i5 : Int) (i6 : Int) => laws_heldIntS_L1 p0 kk i5 i6 = some r) (fun _ _ H => ?_) (fun k1 ihk1 i5 i6 H => ?_) Fuel (p1) (0) (H)) (fun _ h => St.sel [] rfl rfl h) ⟨rfl, rfl, rfl,  trivial⟩
  · unfold laws_heldIntS_L1 at H
    exact absurd H (by simp)
  · unfold laws_heldIntS_L1 at H
    refine c_seq ?_
    refine c_seq ?_
    refine c_reg ?_
    refine ow_batch [.p, .p, .lenS 22 3 sl22, .p] rfl ?_
    refine ow_nil ?_
    refine x_qs ?_
    refine c_if rfl (fun hb => ?_) (fun hb => ?_)
    · have H := of_if_t hb H
      refine c_skip ?_
      refine x_qs ?_
      refine c_seq ?_
      refine c_block ?_
      refine c_seq ?_
      refine c_seq ?_
      refine c_reg ?_
      refine ow_batch [.p, .p] rfl ?_
      obtain ⟨e11, h12, H⟩ := of_bind H
      refine ow_ixE (e := eVal (Value.int .i64) (fun _ => rfl)) (xs := p0) (j := i6) rfl rfl rfl rfl rfl sl22 ty3 rfl (fun w1 hw1 => rds_bor g0 w1 hw1) h12 (by rw [Nat.mul_one]) ?_
      refine ow_r rfl (dstOk_lt rfl) (ry_load1 rfl rfl ty3 (at_elV (fun w1 hw1 => rds_bor g0 w1 hw1) h12)) ?_
      refine ow_batch [.p, .p] rfl ?_
      refine ow_nil ?_
      refine x_qs ?_
      refine c_if rfl (fun hb => ?_) (fun hb => ?_)
      · have H := of_if_t hb H
        refine c_seq ?_
        refine c_reg ?_
        refine ow_batch [.p] rfl ?_
        refine ow_nil ?_
        refine x_qs ?_
        refine c_ret ?_
        refine x_qs_ret ?_
        refine x_qb_ret ?_
        refine x_qs_ret ?_
        refine x_ql_ret ?_
        refine x_qb_ret ?_
        refine x_qs_ret ?_
        exact x_retR (rs := [.tmp 4]) (vs := [.int .i64 (-1)]) rfl ⟨rfl, trivial⟩ (fun w' hw' => by
            obtain rfl := of_some H
            exact ⟨rfl, hw'.ext⟩)
      · have H := of_if_f hb H
        refine c_skip ?_
        refine x_qs ?_
        refine c_reg ?_
        refine ow_batch [.p, .p, .p] rfl ?_
        refine ow_nil ?_
        refine x_qb ?_
        refine x_qs ?_
        refine c_reg ?_
        refine ow_batch [.p, .p, .p] rfl ?_
        refine ow_nil ?_
        exact x_ql (RW.at (ihk1 (IntKind.i64.wrap (i5 + 1)) (IntKind.i64.wrap (i6 + 1)) (H)) (fun _ h => St.sel [] rfl rfl h) ⟨rfl, rfl, rfl, trivial⟩)
    · have H := of_if_f hb H
      refine c_exit ?_
      refine x_qs_exit ?_
      refine x_ql_exit ?_
      refine x_qb_here ?_
      refine x_qs ?_
      refine c_seq ?_
      refine c_reg ?_
      refine ow_batch [.p, .p] rfl ?_
      refine ow_nil ?_
      refine x_qs ?_
      refine c_ret ?_
      exact x_retR (rs := [.tmp 4]) (vs := [.int .i64 i5]) rfl ⟨rfl, trivial⟩ (fun w' hw' => by
          obtain rfl := of_some H
          exact ⟨rfl, hw'.ext⟩)

set_option maxHeartbeats 4000000 in
set_option maxRecDepth 100000 in
theorem laws_heldEntryS_ok (w : World) {p0 : List Timpl_Entry} {p1 : Int} {a_0 : Option Addr} {n_0 c_0 : Nat} {r : Int} (H : laws_heldEntryS p0 p1 = some r)  (g0 : (eList (eTimpl_Entry) 111).rd w [] p0 [.slice a_0 n_0 c_0]) :
    Calls Try.prog 95 #[.slice a_0 n_0 c_0, .int .i64 p1] w (fun en w' => en = .returned (.int .i64 r) ∧ Ext [] w w') := by
  obtain rfl := rd_n g0
  unfold laws_heldEntryS at H
  refine f_enter (vs := [.slice a_0 p0.length c_0, .int .i64 p1]) Try.func95 rfl Try.ntmps95 rfl (St.init w []) ?_
  refine c_seq ?_
  refine c_reg ?_
  refine ow_batch [.p] rfl ?_
  refine ow_nil ?_
  refine x_qs ?_
  refine c_seq ?_
  refine c_seq ?_
  refine c_reg ?_
  refine ow_batch [.p] rfl ?_
  refine ow_nil ?_
  refine x_qs ?_
  refine c_block ?_
  refine CW.at (loopI2 (fun (i53 : Int) (i54 : Int) => St w [] []) (fun (i53 : Int) (i54 : Int) => [(0, .slice a_0 p0.length c_0), (1, .int .i64 i53), (5, .int .i64 i54)]) (fun kk => fun (i53 : Int) (i54 : Int) => laws_heldEntryS_L1 p0 kk i53 i54 = some r) (fun _ _ H => ?_) (fun k1 ihk1 i53 i54 H => ?_) Fuel (p1) (0) (H)) (fun _ h => St.sel [] rfl rfl h) ⟨rfl, rfl, rfl,  trivial⟩
  · unfold laws_heldEntryS_L1 at H
    exact absurd H (by simp)
  · unfold laws_heldEntryS_L1 at H
    refine c_seq ?_
    refine c_seq ?_
    refine c_reg ?_
    refine ow_batch [.p, .p, .lenS 63 111 sl63, .p] rfl ?_
    refine ow_nil ?_
    refine x_qs ?_
    refine c_if rfl (fun hb => ?_) (fun hb => ?_)
    · have H := of_if_t hb H
      refine c_skip ?_
      refine x_qs ?_
      refine c_seq ?_
      refine c_block ?_
      refine c_seq ?_
      refine c_reg ?_
      refine ow_batch [.p, .p] rfl ?_
      obtain ⟨e107, h108, H⟩ := of_bind H
      refine ow_ixB rfl rfl rfl rfl rfl sl63 ty111 rfl g0 h108 (fun q111 c112 hd109 hA110 => ?_)
      obtain ⟨c113, c114, rfl, g115, g116⟩ := rdo_Timpl_Entry hd109
      obtain ⟨c117, c118, rfl, g119, g120⟩ := rdo_Timpl_Ex g115
      obtain ⟨a121, c122, rfl⟩ := rd_sl1 g119
      obtain rfl : c118 = [.int .i64 e107.Ex_.Class_] := g120
      obtain rfl : c114 = [.int .i64 e107.Weight_] := g116
      refine ow_batch [.fa 111 0 0 fa111_0, .fa 56 0 0 fa56_0] rfl ?_
      refine ow_r rfl (dstOk_lt rfl) (ry_load1 rfl rfl ty22 (at_bor bor (at_K (at_K hA110 0 2) 0 1))) ?_
      refine ow_batch [.p] rfl ?_
      obtain ⟨y123, h124, H⟩ := of_bind H
      refine ow_q rfl rfl (dstOk_lt rfl) (qy_call rfl fn96 rfl (fun w1 hw1 => laws_heldIntS_ok w1  h124 (rds_bor g119 w1 hw1))) (fun _ _ => trivial) ?_
      refine ow_batch [.p] rfl ?_
      refine ow_nil ?_
      refine x_qs ?_
      refine c_seq ?_
      refine c_seq ?_
      refine c_reg ?_
      refine ow_batch [.p, .p] rfl ?_
      refine ow_nil ?_
      refine x_qs ?_
      refine c_if rfl (fun hb => ?_) (fun hb => ?_)
      · have H := of_if_t hb H
        refine c_seq ?_
        refine c_reg ?_
        refine ow_batch [.p] rfl ?_
        refine ow_nil ?_
        refine x_qs ?_
        refine c_ret ?_
        refine x_qs_ret ?_
        refine x_qb_ret ?_
        refine x_qs_ret ?_
        refine x_ql_ret ?_
        refine x_qb_ret ?_
        refine x_qs_ret ?_
        exact x_retR (rs := [.tmp 4]) (vs := [.int .i64 (-1)]) rfl ⟨rfl, trivial⟩ (fun w' hw' => by
            obtain rfl := of_some H
            exact ⟨rfl, hw'.ext⟩)
      · have H := of_if_f hb H
        refine c_skip ?_
        refine x_qs ?_
        refine c_seq ?_
        refine c_seq ?_
        refine c_reg ?_
        refine ow_batch [.p, .p] rfl ?_
        obtain ⟨e125, h126, H⟩ := of_bind H
        refine ow_ixB rfl rfl rfl rfl rfl sl63 ty111 rfl g0 h126 (fun q129 c130 hd127 hA128 => ?_)
        obtain ⟨c131, c132, rfl, g133, g134⟩ := rdo_Timpl_Entry hd127
        obtain ⟨c135, c136, rfl, g137, g138⟩ := rdo_Timpl_Ex g133
        obtain ⟨a139, c140, rfl⟩ := rd_sl1 g137
        obtain rfl : c136 = [.int .i64 e125.Ex_.Class_] := g138
        obtain rfl : c132 = [.int .i64 e125.Weight_] := g134
        refine ow_batch [.fa 111 0 0 fa111_0, .fa 56 1 1 fa56_1] rfl ?_
        refine ow_r rfl (dstOk_lt rfl) (ry_load1 rfl rfl ty3 (at_bor bor (at_K (at_K hA128 0 2) 1 1))) ?_
        refine ow_batch [.p, .p] rfl ?_
        refine ow_nil ?_
        refine x_qs ?_
        refine c_if rfl (fun hb => ?_) (fun hb => ?_)
        · have H := of_if_t hb H
          refine c_seq ?_
          refine c_reg ?_
          refine ow_batch [.p] rfl ?_
          refine ow_nil ?_
          refine x_qs ?_
          refine c_ret ?_
          refine x_qs_ret ?_
          refine x_qb_ret ?_
          refine x_qs_ret ?_
          refine x_ql_ret ?_
          refine x_qb_ret ?_
          refine x_qs_ret ?_
          exact x_retR (rs := [.tmp 4]) (vs := [.int .i64 (-1)]) rfl ⟨rfl, trivial⟩ (fun w' hw' => by
              obtain rfl := of_some H
              exact ⟨rfl, hw'.ext⟩)
        · have H := of_if_f hb H
          refine c_skip ?_
          refine x_qs ?_
          refine c_seq ?_
          refine c_reg ?_
          refine ow_batch [.p, .p, .p] rfl ?_
          refine ow_nil ?_
          refine x_qs ?_
          refine c_seq ?_
          refine c_seq ?_
          refine c_reg ?_
          refine ow_batch [.p, .p] rfl ?_
          obtain ⟨e141, h142, H⟩ := of_bind H
          refine ow_ixB rfl rfl rfl rfl rfl sl63 ty111 rfl g0 h142 (fun q145 c146 hd143 hA144 => ?_)
          obtain ⟨c147, c148, rfl, g149, g150⟩ := rdo_Timpl_Entry hd143
          obtain ⟨c151, c152, rfl, g153, g154⟩ := rdo_Timpl_Ex g149
          obtain ⟨a155, c156, rfl⟩ := rd_sl1 g153
          obtain rfl : c152 = [.int .i64 e141.Ex_.Class_] := g154
          obtain rfl : c148 = [.int .i64 e141.Weight_] := g150
          refine ow_batch [.fa 111 1 2 fa111_1] rfl ?_
          refine ow_r rfl (dstOk_lt rfl) (ry_load1 rfl rfl ty3 (at_bor bor (at_K hA144 2 1))) ?_
          refine ow_batch [.p, .p] rfl ?_
          refine ow_nil ?_
          refine x_qs ?_
          refine c_if rfl (fun hb => ?_) (fun hb => ?_)
          · have H := of_if_t hb H
            refine c_seq ?_
            refine c_reg ?_
            refine ow_batch [.p] rfl ?_
            refine ow_nil ?_
            refine x_qs ?_
            refine c_ret ?_
            refine x_qs_ret ?_
            refine x_qb_ret ?_
            refine x_qs_ret ?_
            refine x_ql_ret ?_
            refine x_qb_ret ?_
            refine x_qs_ret ?_
            exact x_retR (rs := [.tmp 4]) (vs := [.int .i64 (-1)]) rfl ⟨rfl, trivial⟩ (fun w' hw' => by
                obtain rfl := of_some H
                exact ⟨rfl, hw'.ext⟩)
          · have H := of_if_f hb H
            refine c_skip ?_
            refine x_qs ?_
            refine c_reg ?_
            refine ow_batch [.p, .p, .p] rfl ?_
            refine ow_nil ?_
            refine x_qb ?_
            refine x_qs ?_
            refine c_reg ?_
            refine ow_batch [.p, .p, .p] rfl ?_
            refine ow_nil ?_
            exact x_ql (RW.at (ihk1 (IntKind.i64.wrap ((IntKind.i64.wrap (y123 + 1)) + 1)) (IntKind.i64.wrap (i54 + 1)) (H)) (fun _ h => St.sel [] rfl rfl h) ⟨rfl, rfl, rfl, trivial⟩)
    · have H := of_if_f hb H
      refine c_exit ?_
      refine x_qs_exit ?_
      refine x_ql_exit ?_
      refine x_qb_here ?_
      refine x_qs ?_
      refine c_seq ?_
      refine c_reg ?_
      refine ow_batch [.p, .p] rfl ?_
      refine ow_nil ?_
      refine x_qs ?_
      refine c_ret ?_
      exact x_retR (rs := [.tmp 4]) (vs := [.int .i64 i53]) rfl ⟨rfl, trivial⟩ (fun w' hw' => by
          obtain rfl := of_some H
          exact ⟨rfl, hw'.ext⟩)

set_option maxHeartbeats 4000000 in
set_option maxRecDepth 100000 in
theorem laws_heldPastS_ok (w : World) {p0 : List Timpl_Past} {p1 : Int} {a_0 : Option Addr} {n_0 c_0 : Nat} {r : Int} (H : laws_heldPastS p0 p1 = some r)  (g0 : (eList (eTimpl_Past) 120).rd w [] p0 [.slice a_0 n_0 c_0]) :
    Calls Try.prog 49 #[.slice a_0 n_0 c_0, .int .i64 p1] w (fun en w' => en = .returned (.int .i64 r) ∧ Ext [] w w') := by
  obtain rfl := rd_n g0
  unfold laws_heldPastS at H
  refine f_enter (vs := [.slice a_0 p0.length c_0, .int .i64 p1]) Try.func49 rfl Try.ntmps49 rfl (St.init w []) ?_
  refine c_seq ?_
  refine c_reg ?_
  refine ow_batch [.p] rfl ?_
  refine ow_nil ?_
  refine x_qs ?_
  refine c_seq ?_
  refine c_seq ?_
  refine c_reg ?_
  refine ow_batch [.p] rfl ?_
  refine ow_nil ?_
  refine x_qs ?_
  refine c_block ?_
  refine CW.at (loopI2 (fun (i63 : Int) (i65 : Int) => St w [] []) (fun (i63 : Int) (i65 : Int) => [(0, .slice a_0 p0.length c_0), (1, .int .i64 i63), (5, .int .i64 i65)]) (fun kk => fun (i63 : Int) (i65 : Int) => laws_heldPastS_L1 p0 kk i63 i65 = some r) (fun _ _ H => ?_) (fun k1 ihk1 i63 i65 H => ?_) Fuel (p1) (0) (H)) (fun _ h => St.sel [] rfl rfl h) ⟨rfl, rfl, rfl,  trivial⟩
  · unfold laws_heldPastS_L1 at H
    exact absurd H (by simp)
  · unfold laws_heldPastS_L1 at H
    refine c_seq ?_
    refine c_seq ?_
    refine c_reg ?_
    refine ow_batch [.p, .p, .lenS 71 120 sl71, .p] rfl ?_
    refine ow_nil ?_
    refine x_qs ?_
    refine c_if rfl (fun hb => ?_) (fun hb => ?_)
    · have H := of_if_t hb H
      refine c_skip ?_
      refine x_qs ?_
      refine c_seq ?_
      refine c_block ?_
      refine c_seq ?_
      refine c_reg ?_
      refine ow_batch [.p, .p] rfl ?_
      obtain ⟨e128, h129, H⟩ := of_bind H
      refine ow_ixB rfl rfl rfl rfl rfl sl71 ty120 rfl g0 h129 (fun q132 c133 hd130 hA131 => ?_)
      obtain ⟨c134, c135, c136, rfl, g137, g138, g139⟩ := rdo_Timpl_Past hd130
      obtain ⟨a140, c141, rfl⟩ := rd_sl1 g137
      obtain ⟨a142, c143, rfl⟩ := rd_sl1 g138
      obtain ⟨a144, c145, rfl⟩ := rd_sl1 g139
      refine ow_batch [.fa 120 0 0 fa120_0] rfl ?_
      refine ow_r rfl (dstOk_lt rfl) (ry_load1 rfl rfl ty63 (at_bor bor (at_K hA131 0 1))) ?_
      refine ow_batch [.p] rfl ?_
      obtain ⟨y146, h147, H⟩ := of_bind H
      refine ow_q rfl rfl (dstOk_lt rfl) (qy_call rfl fn95 rfl (fun w1 hw1 => laws_heldEntryS_ok w1  h147 (rds_bor g137 w1 hw1))) (fun _ _ => trivial) ?_
      refine ow_batch [.p] rfl ?_
      refine ow_nil ?_
      refine x_qs ?_
      refine c_seq ?_
      refine c_seq ?_
      refine c_reg ?_
      refine ow_batch [.p, .p] rfl ?_
      refine ow_nil ?_
      refine x_qs ?_
      refine c_if rfl (fun hb => ?_) (fun hb => ?_)
      · have H := of_if_t hb H
        refine c_seq ?_
        refine c_reg ?_
        refine ow_batch [.p] rfl ?_
        refine ow_nil ?_
        refine x_qs ?_
        refine c_ret ?_
        refine x_qs_ret ?_
        refine x_qb_ret ?_
        refine x_qs_ret ?_
        refine x_ql_ret ?_
        refine x_qb_ret ?_
        refine x_qs_ret ?_
        exact x_retR (rs := [.tmp 4]) (vs := [.int .i64 (-1)]) rfl ⟨rfl, trivial⟩ (fun w' hw' => by
            obtain rfl := of_some H
            exact ⟨rfl, hw'.ext⟩)
      · have H := of_if_f hb H
        refine c_skip ?_
        refine x_qs ?_
        refine c_seq ?_
        refine c_reg ?_
        refine ow_batch [.p, .p] rfl ?_
        obtain ⟨e148, h149, H⟩ := of_bind H
        refine ow_ixB rfl rfl rfl rfl rfl sl71 ty120 rfl g0 h149 (fun q152 c153 hd150 hA151 => ?_)
        obtain ⟨c154, c155, c156, rfl, g157, g158, g159⟩ := rdo_Timpl_Past hd150
        obtain ⟨a160, c161, rfl⟩ := rd_sl1 g157
        obtain ⟨a162, c163, rfl⟩ := rd_sl1 g158
        obtain ⟨a164, c165, rfl⟩ := rd_sl1 g159
        refine ow_batch [.fa 120 1 1 fa120_1] rfl ?_
        refine ow_r rfl (dstOk_lt rfl) (ry_load1 rfl rfl ty63 (at_bor bor (at_K hA151 1 1))) ?_
        refine ow_batch [.p] rfl ?_
        obtain ⟨y166, h167, H⟩ := of_bind H
        refine ow_q rfl rfl (dstOk_lt rfl) (qy_call rfl fn95 rfl (fun w1 hw1 => laws_heldEntryS_ok w1  h167 (rds_bor g158 w1 hw1))) (fun _ _ => trivial) ?_
        refine ow_batch [.p] rfl ?_
        refine ow_nil ?_
        refine x_qs ?_
        refine c_seq ?_
        refine c_seq ?_
        refine c_reg ?_
        refine ow_batch [.p, .p] rfl ?_
        refine ow_nil ?_
        refine x_qs ?_
        refine c_if rfl (fun hb => ?_) (fun hb => ?_)
        · have H := of_if_t hb H
          refine c_seq ?_
          refine c_reg ?_
          refine ow_batch [.p] rfl ?_
          refine ow_nil ?_
          refine x_qs ?_
          refine c_ret ?_
          refine x_qs_ret ?_
          refine x_qb_ret ?_
          refine x_qs_ret ?_
          refine x_ql_ret ?_
          refine x_qb_ret ?_
          refine x_qs_ret ?_
          exact x_retR (rs := [.tmp 4]) (vs := [.int .i64 (-1)]) rfl ⟨rfl, trivial⟩ (fun w' hw' => by
              obtain rfl := of_some H
              exact ⟨rfl, hw'.ext⟩)
        · have H := of_if_f hb H
          refine c_skip ?_
          refine x_qs ?_
          refine c_seq ?_
          refine c_reg ?_
          refine ow_batch [.p, .p] rfl ?_
          obtain ⟨e168, h169, H⟩ := of_bind H
          refine ow_ixB rfl rfl rfl rfl rfl sl71 ty120 rfl g0 h169 (fun q172 c173 hd170 hA171 => ?_)
          obtain ⟨c174, c175, c176, rfl, g177, g178, g179⟩ := rdo_Timpl_Past hd170
          obtain ⟨a180, c181, rfl⟩ := rd_sl1 g177
          obtain ⟨a182, c183, rfl⟩ := rd_sl1 g178
          obtain ⟨a184, c185, rfl⟩ := rd_sl1 g179
          refine ow_batch [.fa 120 2 2 fa120_2] rfl ?_
          refine ow_r rfl (dstOk_lt rfl) (ry_load1 rfl rfl ty22 (at_bor bor (at_K hA171 2 1))) ?_
          refine ow_batch [.p] rfl ?_
          obtain ⟨y186, h187, H⟩ := of_bind H
          refine ow_q rfl rfl (dstOk_lt rfl) (qy_call rfl fn96 rfl (fun w1 hw1 => laws_heldIntS_ok w1  h187 (rds_bor g179 w1 hw1))) (fun _ _ => trivial) ?_
          refine ow_batch [.p] rfl ?_
          refine ow_nil ?_
          refine x_qs ?_
          refine c_seq ?_
          refine c_reg ?_
          refine ow_batch [.p, .p] rfl ?_
          refine ow_nil ?_
          refine x_qs ?_
          refine c_if rfl (fun hb => ?_) (fun hb => ?_)
          · have H := of_if_t hb H
            refine c_seq ?_
            refine c_reg ?_
            refine ow_batch [.p] rfl ?_
            refine ow_nil ?_
            refine x_qs ?_
            refine c_ret ?_
            refine x_qb_ret ?_
            refine x_qs_ret ?_
            refine x_ql_ret ?_
            refine x_qb_ret ?_
            refine x_qs_ret ?_
            exact x_retR (rs := [.tmp 4]) (vs := [.int .i64 (-1)]) rfl ⟨rfl, trivial⟩ (fun w' hw' => by
                obtain rfl := of_some H
                exact ⟨rfl, hw'.ext⟩)
          · have H := of_if_f hb H
            refine c_skip ?_
            refine x_qb ?_
            refine x_qs ?_
            refine c_reg ?_
            refine ow_batch [.p, .p, .p] rfl ?_
            refine ow_nil ?_
            exact x_ql (RW.at (ihk1 (y186) (IntKind.i64.wrap (i65 + 1)) (H)) (fun _ h => St.sel [] rfl rfl h) ⟨rfl, rfl, rfl, trivial⟩)
    · have H := of_if_f hb H
      refine c_exit ?_
      refine x_qs_exit ?_
      refine x_ql_exit ?_
      refine x_qb_here ?_
      refine x_qs ?_
      refine c_seq ?_
      refine c_reg ?_
      refine ow_batch [.p, .p] rfl ?_
      refine ow_nil ?_
      refine x_qs ?_
      refine c_ret ?_
      exact x_retR (rs := [.tmp 4]) (vs := [.int .i64 i63]) rfl ⟨rfl, trivial⟩ (fun w' hw' => by
          obtain rfl := of_some H
          exact ⟨rfl, hw'.ext⟩)

set_option maxHeartbeats 4000000 in
set_option maxRecDepth 100000 in
theorem laws_FnExactFollow_ok (w : World) {p0 : List Tlaws_Past} {p1 : Tlaws_Ex} {p2 : List Tlaws_Step} {a_0 : Option Addr} {n_0 c_0 : Nat} {cs1 : List Value} {a_2 : Option Addr} {n_2 c_2 : Nat} {r : Bool} (H : laws_FnExactFollow p0 p1 p2 = some r)  (g0 : (eList (eTlaws_Past) 118).rd w [] p0 [.slice a_0 n_0 c_0]) (g1 : (eTlaws_Ex).rd w [] p1 cs1) (g2 : (eList (eTlaws_Step) 128).rd w [] p2 [.slice a_2 n_2 c_2]) :
    Calls Try.prog 9 #[.slice a_0 n_0 c_0, .agg cs1.toArray, .slice a_2 n_2 c_2] w (fun en w' => en = .returned (.bool r) ∧ Ext [] w w') := by
  obtain rfl := rd_n g0
  obtain ⟨c1, c2, rfl, g3, g4⟩ := rdo_Tlaws_Ex g1
  obtain ⟨a5, c6, rfl⟩ := rd_sl1 g3
  obtain rfl : c2 = [.int .i64 p1.Class_] := g4
  obtain rfl := rd_n g2
  unfold laws_FnExactFollow at H
  refine f_enter (vs := [.slice a_0 p0.length c_0, .agg #[.slice a5 p1.Bins_.length c6, .int .i64 p1.Class_], .slice a_2 p2.length c_2]) Try.func9 rfl Try.ntmps9 rfl (St.init w []) ?_
  refine c_seq ?_
  refine c_reg ?_
  refine ow_box (cs := [.slice a5 p1.Bins_.length c6, .int .i64 p1.Class_]) rfl rfl rfl rfl rfl rfl (fun _ => kp) (fun b7 => ?_)
  refine ow_batch [.p] rfl ?_
  refine ow_nil ?_
  refine x_qs ?_
  refine c_seq ?_
  refine c_reg ?_
  refine ow_batch [.p] rfl ?_
  refine ow_nil ?_
  refine x_qs ?_
  refine c_seq ?_
  refine c_reg ?_
  refine ow_batch [.p, .p] rfl ?_
  obtain ⟨y8, h9, H⟩ := of_bind H
  refine ow_q rfl rfl (dstOk_lt rfl) (qy_call rfl fn38 rfl (fun w1 hw1 => laws_szPastS_ok w1  h9 (rds_bor g0 w1 hw1))) (fun _ _ => trivial) ?_
  refine ow_batch [.p] rfl ?_
  refine ow_nil ?_
  refine x_qs ?_
  refine c_seq ?_
  refine c_seq ?_
  refine c_reg ?_
  refine ow_batch [.p, .p] rfl ?_
  refine ow_nil ?_
  refine x_qs ?_
  refine c_if rfl (fun hb => ?_) (fun hb => ?_)
  · have H := of_if_t hb H
    refine c_seq ?_
    refine c_reg ?_
    refine ow_batch [.p] rfl ?_
    refine ow_nil ?_
    refine x_qs ?_
    refine c_ret ?_
    refine x_qs_ret ?_
    exact x_retR (rs := [.tmp 6]) (vs := [.bool true]) rfl ⟨rfl, trivial⟩ (fun w' hw' => by
        obtain rfl := of_some H
        exact ⟨rfl, hw'.ext⟩)
  · have H := of_if_f hb H
    refine c_skip ?_
    refine x_qs ?_
    refine c_seq ?_
    refine c_reg ?_
    refine ow_r rfl (dstOk_lt rfl) (ry_box (off := 0) (ds := [.slice a5 p1.Bins_.length c6, .int .i64 p1.Class_]) rfl rfl ty53 (boxIn (i := 0) rfl) rfl rfl) ?_
    refine ow_batch [.p] rfl ?_
    obtain ⟨y10, h11, H⟩ := of_bind H
    refine ow_q rfl rfl (dstOk_lt rfl) (qy_call rfl fn28 rfl (fun w1 hw1 => laws_szEx_ok w1 (cs0 := [.slice a5 p1.Bins_.length c6, .int .i64 p1.Class_]) h11 (rdm_Tlaws_Ex (x := p1) (c0 := [.slice a5 p1.Bins_.length c6]) (c1 := [.int .i64 p1.Class_]) (rds_bor g3 w1 hw1) rfl))) (fun _ _ => trivial) ?_
    refine ow_batch [.p] rfl ?_
    refine ow_nil ?_
    refine x_qs ?_
    refine c_seq ?_
    refine c_seq ?_
    refine c_reg ?_
    refine ow_batch [.p, .p] rfl ?_
    refine ow_nil ?_
    refine x_qs ?_
    refine c_if rfl (fun hb => ?_) (fun hb => ?_)
    · have H := of_if_t hb H
      refine c_seq ?_
      refine c_reg ?_
      refine ow_batch [.p] rfl ?_
      refine ow_nil ?_
      refine x_qs ?_
      refine c_ret ?_
      refine x_qs_ret ?_
      exact x_retR (rs := [.tmp 6]) (vs := [.bool true]) rfl ⟨rfl, trivial⟩ (fun w' hw' => by
          obtain rfl := of_some H
          exact ⟨rfl, hw'.ext⟩)
    · have H := of_if_f hb H
      refine c_skip ?_
      refine x_qs ?_
      refine c_seq ?_
      refine c_reg ?_
      refine ow_batch [.p, .p] rfl ?_
      obtain ⟨y12, h13, H⟩ := of_bind H
      refine ow_q rfl rfl (dstOk_lt rfl) (qy_call rfl fn39 rfl (fun w1 hw1 => laws_szStepS_ok w1  h13 (rds_bor g2 w1 hw1))) (fun _ _ => trivial) ?_
      refine ow_batch [.p] rfl ?_
      refine ow_nil ?_
      refine x_qs ?_
      refine c_seq ?_
      refine c_seq ?_
      refine c_reg ?_
      refine ow_batch [.p, .p] rfl ?_
      refine ow_nil ?_
      refine x_qs ?_
      refine c_if rfl (fun hb => ?_) (fun hb => ?_)
      · have H := of_if_t hb H
        refine c_seq ?_
        refine c_reg ?_
        refine ow_batch [.p] rfl ?_
        refine ow_nil ?_
        refine x_qs ?_
        refine c_ret ?_
        refine x_qs_ret ?_
        exact x_retR (rs := [.tmp 6]) (vs := [.bool true]) rfl ⟨rfl, trivial⟩ (fun w' hw' => by
            obtain rfl := of_some H
            exact ⟨rfl, hw'.ext⟩)
      · have H := of_if_f hb H
        refine c_skip ?_
        refine x_qs ?_
        refine c_seq ?_
        refine c_regHT 5 [(0, true), (2, true), (4, true), (1, false), (3, false)] (St w [] [Res.box b7 53 [.slice a5 p1.Bins_.length c6, .int .i64 p1.Class_]]) mixed (by kernel_rfl) (panicOk_qs panicOk_body) (fun _ h => St.mask [true] rfl h) ?_
        refine ow_batch [.p] rfl ?_
        refine ow_rH rfl (dstOk_lt rfl) (ry_box (off := 0) (ds := [.slice a5 p1.Bins_.length c6, .int .i64 p1.Class_]) rfl rfl ty53 (boxIn (i := 0) rfl) rfl rfl) ?_
        refine ow_batch [.p] rfl ?_
        obtain ⟨y32, h33, H⟩ := of_bind H
        refine ow_callS rfl fn41 rfl rfl rfl rfl (fun w1 hw1 => laws_toPastS_ok w1  h33 (hw1.carve [] rfl rfl) (rds_bor g0 w1 hw1)) (fun v34 w1 w2 hw1 hR36 => ?_)
        obtain ⟨a37, n38, c39, F40, rfl, hS35⟩ := hR36
        obtain rfl := own_nS (i := 0) hS35 rfl
        refine ⟨St w [] [_, _], hw1.comp [] rfl rfl hS35, (fun _ h => St.mask [true] rfl h), ?_⟩
        obtain ⟨y41, h42, H⟩ := of_bind H
        refine ow_callS rfl fn30 rfl rfl rfl rfl (fun w1 hw1 => laws_toEx_ok w1 (cs0 := [.slice a5 p1.Bins_.length c6, .int .i64 p1.Class_]) h42 (hw1.carve [] rfl rfl) (rdm_Tlaws_Ex (x := p1) (c0 := [.slice a5 p1.Bins_.length c6]) (c1 := [.int .i64 p1.Class_]) (rds_bor g3 w1 hw1) rfl)) (fun v43 w1 w2 hw1 hR45 => ?_)
        obtain ⟨a46, n47, c48, F49, rfl, hS44⟩ := hR45
        obtain rfl := own_nS (i := 0) hS44 rfl
        refine ⟨St w [] [_, _, _], hw1.comp [] rfl rfl hS44, (fun _ h => St.mask [true] rfl h), ?_⟩
        refine ow_nilH ?_
        refine x_qt ?_
        obtain ⟨y50, h51, H⟩ := of_bind H
        refine ow_callS rfl fn42 rfl rfl rfl rfl (fun w1 hw1 => laws_toStepS_ok w1  h51 (hw1.carve [] rfl rfl) (rds_bor g2 w1 hw1)) (fun v52 w1 w2 hw1 hR54 => ?_)
        obtain ⟨a55, n56, c57, F58, rfl, hS53⟩ := hR54
        obtain rfl := own_nS (i := 0) hS53 rfl
        refine ⟨St w [] [_, _, _, _], hw1.comp [] rfl rfl hS53, fun _ _ => trivial, ?_⟩
        obtain ⟨y59, h60, H⟩ := of_bind H
        refine ow_callS rfl fn40 rfl rfl rfl rfl (fun w1 hw1 => spec_Follow_ok w1 (cs1 := [.slice a46 y41.Bins_.length c48, .int .i64 y41.Class_]) h60 (hw1.carve [] rfl rfl) (rds_own (r := 1) rfl w1 hw1) (rdm_Timpl_Ex (x := y41) (c0 := [.slice a46 y41.Bins_.length c48]) (c1 := [.int .i64 y41.Class_]) (rds_own (r := 2) rfl w1 hw1) rfl) (rds_own (r := 3) rfl w1 hw1)) (fun v61 w1 w2 hw1 hR63 => ?_)
        obtain ⟨a64, n65, c66, F67, rfl, hS62⟩ := hR63
        obtain rfl := own_nS (i := 0) hS62 rfl
        refine ⟨St w [] [_, _, _, _, _], hw1.comp [] rfl rfl hS62, fun _ _ => trivial, ?_⟩
        refine ow_batch [.p] rfl ?_
        refine ow_nil ?_
        refine x_qs ?_
        refine c_seq ?_
        refine c_reg ?_
        refine ow_batch [.p] rfl ?_
        obtain ⟨y68, h69, H⟩ := of_bind H
        refine ow_callS rfl fn41 rfl rfl rfl rfl (fun w1 hw1 => laws_toPastS_ok w1  h69 (hw1.carve [] rfl rfl) (rds_bor g0 w1 hw1)) (fun v70 w1 w2 hw1 hR72 => ?_)
        obtain ⟨a73, n74, c75, F76, rfl, hS71⟩ := hR72
        obtain rfl := own_nS (i := 0) hS71 rfl
        refine ⟨St w [] [_, _, _, _, _, _], hw1.comp [] rfl rfl hS71, fun _ _ => trivial, ?_⟩
        refine ow_batch [.p] rfl ?_
        refine ow_nil ?_
        refine x_qs ?_
        refine c_seq ?_
        refine c_reg ?_
        refine ow_r rfl (dstOk_lt rfl) (ry_box (off := 0) (ds := [.slice a5 p1.Bins_.length c6, .int .i64 p1.Class_]) rfl rfl ty53 (boxIn (i := 0) rfl) rfl rfl) ?_
        obtain ⟨y77, h78, H⟩ := of_bind H
        refine ow_callS rfl fn30 rfl rfl rfl rfl (fun w1 hw1 => laws_toEx_ok w1 (cs0 := [.slice a5 p1.Bins_.length c6, .int .i64 p1.Class_]) h78 (hw1.carve [] rfl rfl) (rdm_Tlaws_Ex (x := p1) (c0 := [.slice a5 p1.Bins_.length c6]) (c1 := [.int .i64 p1.Class_]) (rds_bor g3 w1 hw1) rfl)) (fun v79 w1 w2 hw1 hR81 => ?_)
        obtain ⟨a82, n83, c84, F85, rfl, hS80⟩ := hR81
        obtain rfl := own_nS (i := 0) hS80 rfl
        refine ⟨St w [] [_, _, _, _, _, _, _], hw1.comp [] rfl rfl hS80, fun _ _ => trivial, ?_⟩
        refine ow_alloc rfl rfl rfl rfl ty56 (fun _ => kp) (fun b86 => ?_)
        refine ow_storeC (off := 0) [.slice a82 y77.Bins_.length c84, .int .i64 y77.Class_] [_, _] (i := 7) rfl rfl rfl rfl rfl rfl ty56 rfl rfl (by intro u hu; simp only [List.mem_cons, List.not_mem_nil, or_false] at hu; rcases hu with rfl | rfl <;> rfl) rfl rfl rfl kp ?_
        refine ow_nil ?_
        refine x_qs ?_
        refine c_seq ?_
        refine c_reg ?_
        refine ow_batch [.p] rfl ?_
        obtain ⟨y87, h88, H⟩ := of_bind H
        refine ow_callS rfl fn42 rfl rfl rfl rfl (fun w1 hw1 => laws_toStepS_ok w1  h88 (hw1.carve [] rfl rfl) (rds_bor g2 w1 hw1)) (fun v89 w1 w2 hw1 hR91 => ?_)
        obtain ⟨a92, n93, c94, F95, rfl, hS90⟩ := hR91
        obtain rfl := own_nS (i := 0) hS90 rfl
        refine ⟨St w [] [_, _, _, _, _, _, _, _, _], hw1.comp [] rfl rfl hS90, fun _ _ => trivial, ?_⟩
        refine ow_batch [.p] rfl ?_
        refine ow_nil ?_
        refine x_qs ?_
        refine c_seq ?_
        refine c_reg ?_
        refine ow_batch [.p] rfl ?_
        refine ow_r rfl (dstOk_lt rfl) (ry_box (off := 0) (ds := [.slice a82 y77.Bins_.length c84, .int .i64 y77.Class_]) rfl rfl ty56 (boxIn (i := 7) rfl) rfl rfl) ?_
        refine ow_batch [.p] rfl ?_
        obtain ⟨y96, h97, H⟩ := of_bind H
        refine ow_callS rfl fn43 rfl rfl rfl rfl (fun w1 hw1 => impl_Follow_ok w1 (cs1 := [.slice a82 y77.Bins_.length c84, .int .i64 y77.Class_]) h97 (hw1.carve [] rfl rfl) (rds_own (r := 5) rfl w1 hw1) (rdm_Timpl_Ex (x := y77) (c0 := [.slice a82 y77.Bins_.length c84]) (c1 := [.int .i64 y77.Class_]) (rds_own (r := 6) rfl w1 hw1) rfl) (rds_own (r := 8) rfl w1 hw1)) (fun v98 w1 w2 hw1 hR100 => ?_)
        obtain ⟨a101, n102, c103, F104, rfl, hS99⟩ := hR100
        obtain rfl := own_nS (i := 0) hS99 rfl
        refine ⟨St w [] [_, _, _, _, _, _, _, _, _, _], hw1.comp [] rfl rfl hS99, fun _ _ => trivial, ?_⟩
        refine ow_batch [.p] rfl ?_
        refine ow_nil ?_
        refine x_qs ?_
        refine c_seq ?_
        refine c_seq ?_
        refine c_reg ?_
        refine ow_batch [.p, .p] rfl ?_
        obtain ⟨y105, h106, H⟩ := of_bind H
        refine ow_q rfl rfl (dstOk_lt rfl) (qy_call rfl fn44 rfl (fun w1 hw1 => laws_eqPastS_ok w1  h106 (rds_own (r := 9) rfl w1 hw1) (rds_own (r := 4) rfl w1 hw1))) (fun _ _ => trivial) ?_
        refine ow_batch [.p] rfl ?_
        refine ow_nil ?_
        refine x_qs ?_
        refine c_if rfl (fun hb => ?_) (fun hb => ?_)
        · have H := of_if_t hb H
          refine c_seq ?_
          refine c_reg ?_
          refine ow_batch [.p] rfl ?_
          refine ow_nil ?_
          refine x_qs ?_
          refine c_ret ?_
          refine x_qs_ret ?_
          exact x_retR (rs := [.tmp 6]) (vs := [.bool false]) rfl ⟨rfl, trivial⟩ (fun w' hw' => by
              obtain rfl := of_some H
              exact ⟨rfl, hw'.ext⟩)
        · have H := of_if_f hb H
          refine c_skip ?_
          refine x_qs ?_
          refine c_seq ?_
          refine c_seq ?_
          refine c_reg ?_
          refine ow_batch [.p, .p] rfl ?_
          obtain ⟨y107, h108, H⟩ := of_bind H
          refine ow_callS rfl fn41 rfl rfl rfl rfl (fun w1 hw1 => laws_toPastS_ok w1  h108 (hw1.carve [] rfl rfl) (rds_bor g0 w1 hw1)) (fun v109 w1 w2 hw1 hR111 => ?_)
          obtain ⟨a112, n113, c114, F115, rfl, hS110⟩ := hR111
          obtain rfl := own_nS (i := 0) hS110 rfl
          refine ⟨St w [] [_, _, _, _, _, _, _, _, _, _, _], hw1.comp [] rfl rfl hS110, fun _ _ => trivial, ?_⟩
          obtain ⟨y116, h117, H⟩ := of_bind H
          refine ow_q rfl rfl (dstOk_lt rfl) (qy_call rfl fn44 rfl (fun w1 hw1 => laws_eqPastS_ok w1  h117 (rds_own (r := 5) rfl w1 hw1) (rds_own (r := 10) rfl w1 hw1))) (fun _ _ => trivial) ?_
          refine ow_batch [.p] rfl ?_
          refine ow_nil ?_
          refine x_qs ?_
          refine c_if rfl (fun hb => ?_) (fun hb => ?_)
          · have H := of_if_t hb H
            refine c_seq ?_
            refine c_reg ?_
            refine ow_batch [.p] rfl ?_
            refine ow_nil ?_
            refine x_qs ?_
            refine c_ret ?_
            refine x_qs_ret ?_
            exact x_retR (rs := [.tmp 6]) (vs := [.bool false]) rfl ⟨rfl, trivial⟩ (fun w' hw' => by
                obtain rfl := of_some H
                exact ⟨rfl, hw'.ext⟩)
          · have H := of_if_f hb H
            refine c_skip ?_
            refine x_qs ?_
            refine c_seq ?_
            refine c_seq ?_
            refine c_regHT 3 [(0, true), (1, true), (2, false)] (St w [] [Res.box b7 53 [.slice a5 p1.Bins_.length c6, .int .i64 p1.Class_], Res.own (eList (eTimpl_Past) 120) F40 y32 [.slice a37 y32.length c39], Res.own (eList (eVal (Value.int .i64) (fun _ => rfl)) 3) F49 y41.Bins_ [.slice a46 y41.Bins_.length c48], Res.own (eList (eTimpl_Step) 123) F58 y50 [.slice a55 y50.length c57], Res.own (eList (eTimpl_Past) 120) F67 y59 [.slice a64 y59.length c66], Res.own (eList (eTimpl_Past) 120) F76 y68 [.slice a73 y68.length c75], Res.own (eList (eVal (Value.int .i64) (fun _ => rfl)) 3) F85 y77.Bins_ [.slice a82 y77.Bins_.length c84], Res.box b86 56 [.slice a82 y77.Bins_.length c84, .int .i64 y77.Class_], Res.own (eList (eTimpl_Step) 123) F95 y87 [.slice a92 y87.length c94], Res.own (eList (eTimpl_Past) 120) F104 y96 [.slice a101 y96.length c103], Res.own (eList (eTimpl_Past) 120) F115 y107 [.slice a112 y107.length c114]]) mixed (by kernel_rfl) (panicOk_qs (panicOk_qs panicOk_body)) (fun _ h => St.mask [true, true, true, true, true, true, true, true, true, true, true] rfl h) ?_
            refine ow_rH rfl (dstOk_lt rfl) (ry_box (off := 0) (ds := [.slice a82 y77.Bins_.length c84, .int .i64 y77.Class_]) rfl rfl ty56 (boxIn (i := 7) rfl) rfl rfl) ?_
            refine ow_rH rfl (dstOk_lt rfl) (ry_box (off := 0) (ds := [.slice a5 p1.Bins_.length c6, .int .i64 p1.Class_]) rfl rfl ty53 (boxIn (i := 0) rfl) rfl rfl) ?_
            obtain ⟨y127, h128, H⟩ := of_bind H
            refine ow_callS rfl fn30 rfl rfl rfl rfl (fun w1 hw1 => laws_toEx_ok w1 (cs0 := [.slice a5 p1.Bins_.length c6, .int .i64 p1.Class_]) h128 (hw1.carve [] rfl rfl) (rdm_Tlaws_Ex (x := p1) (c0 := [.slice a5 p1.Bins_.length c6]) (c1 := [.int .i64 p1.Class_]) (rds_bor g3 w1 hw1) rfl)) (fun v129 w1 w2 hw1 hR131 => ?_)
            obtain ⟨a132, n133, c134, F135, rfl, hS130⟩ := hR131
            obtain rfl := own_nS (i := 0) hS130 rfl
            refine ⟨St w [] [_, _, _, _, _, _, _, _, _, _, _, _], hw1.comp [] rfl rfl hS130, (fun _ h => St.mask [true, true, true, true, true, true, true, true, true, true, true] rfl h), ?_⟩
            refine ow_nilH ?_
            refine x_qt ?_
            obtain ⟨y136, h137, H⟩ := of_bind H
            refine ow_q rfl rfl (dstOk_lt rfl) (qy_call rfl fn32 rfl (fun w1 hw1 => laws_eqEx_ok w1 (cs0 := [.slice a82 y77.Bins_.length c84, .int .i64 y77.Class_]) (cs1 := [.slice a132 y127.Bins_.length c134, .int .i64 y127.Class_]) h137 (rdm_Timpl_Ex (x := y77) (c0 := [.slice a82 y77.Bins_.length c84]) (c1 := [.int .i64 y77.Class_]) (rds_own (r := 6) rfl w1 hw1) rfl) (rdm_Timpl_Ex (x := y127) (c0 := [.slice a132 y127.Bins_.length c134]) (c1 := [.int .i64 y127.Class_]) (rds_own (r := 11) rfl w1 hw1) rfl))) (fun _ _ => trivial) ?_
            refine ow_batch [.p] rfl ?_
            refine ow_nil ?_
            refine x_qs ?_
            refine c_if rfl (fun hb => ?_) (fun hb => ?_)
            · have H := of_if_t hb H
              refine c_seq ?_
              refine c_reg ?_
              refine ow_batch [.p] rfl ?_
              refine ow_nil ?_
              refine x_qs ?_
              refine c_ret ?_
              refine x_qs_ret ?_
              exact x_retR (rs := [.tmp 6]) (vs := [.bool false]) rfl ⟨rfl, trivial⟩ (fun w' hw' => by
                  obtain rfl := of_some H
                  exact ⟨rfl, hw'.ext⟩)
            · have H := of_if_f hb H
              refine c_skip ?_
              refine x_qs ?_
              refine c_seq ?_
              refine c_seq ?_
              refine c_reg ?_
              refine ow_batch [.p, .p] rfl ?_
              obtain ⟨y138, h139, H⟩ := of_bind H
              refine ow_callS rfl fn42 rfl rfl rfl rfl (fun w1 hw1 => laws_toStepS_ok w1  h139 (hw1.carve [] rfl rfl) (rds_bor g2 w1 hw1)) (fun v140 w1 w2 hw1 hR142 => ?_)
              obtain ⟨a143, n144, c145, F146, rfl, hS141⟩ := hR142
              obtain rfl := own_nS (i := 0) hS141 rfl
              refine ⟨St w [] [_, _, _, _, _, _, _, _, _, _, _, _, _], hw1.comp [] rfl rfl hS141, fun _ _ => trivial, ?_⟩
              obtain ⟨y147, h148, H⟩ := of_bind H
              refine ow_q rfl rfl (dstOk_lt rfl) (qy_call rfl fn45 rfl (fun w1 hw1 => laws_eqStepS_ok w1  h148 (rds_own (r := 8) rfl w1 hw1) (rds_own (r := 12) rfl w1 hw1))) (fun _ _ => trivial) ?_
              refine ow_batch [.p] rfl ?_
              refine ow_nil ?_
              refine x_qs ?_
              refine c_if rfl (fun hb => ?_) (fun hb => ?_)
              · have H := of_if_t hb H
                refine c_seq ?_
                refine c_reg ?_
                refine ow_batch [.p] rfl ?_
                refine ow_nil ?_
                refine x_qs ?_
                refine c_ret ?_
                refine x_qs_ret ?_
                exact x_retR (rs := [.tmp 6]) (vs := [.bool false]) rfl ⟨rfl, trivial⟩ (fun w' hw' => by
                    obtain rfl := of_some H
                    exact ⟨rfl, hw'.ext⟩)
              · have H := of_if_f hb H
                refine c_skip ?_
                refine x_qs ?_
                refine c_seq ?_
                refine c_reg ?_
                refine ow_batch [.p] rfl ?_
                refine ow_nil ?_
                refine x_qs ?_
                refine c_seq ?_
                refine c_reg ?_
                refine ow_batch [.p, .p] rfl ?_
                obtain ⟨y149, h150, H⟩ := of_bind H
                refine ow_callS rfl fn46 rfl rfl rfl rfl (fun w1 hw1 => laws_markPastS_ok w1  h150 (hw1.carve [5] rfl rfl)) (fun v151 w1 w2 hw1 hR153 => ?_)
                obtain ⟨F154, rfl, hS152⟩ := hR153
                refine ⟨St w [] [_, _, _, _, _, _, _, _, _, _, _, _, _, _], hw1.comp [5] rfl rfl hS152, fun _ _ => trivial, ?_⟩
                refine ow_batch [.p] rfl ?_
                refine ow_nil ?_
                refine x_qs ?_
                refine c_seq ?_
                refine c_reg ?_
                refine ow_r rfl (dstOk_lt rfl) (ry_box (off := 0) (ds := [.slice a82 y77.Bins_.length c84, .int .i64 y77.Class_]) rfl rfl ty56 (boxIn (i := 7) rfl) rfl rfl) ?_
                refine ow_batch [.p] rfl ?_
                obtain ⟨y155, h156, H⟩ := of_bind H
                refine ow_callS rfl fn47 rfl rfl rfl rfl (fun w1 hw1 => laws_markEx_ok w1  h156 (hw1.carve [6] rfl rfl)) (fun v157 w1 w2 hw1 hR159 => ?_)
                obtain ⟨F160, rfl, hS158⟩ := hR159
                refine ⟨St w [] [_, _, _, _, _, _, _, _, _, _, _, _, _, _, _], hw1.comp [6] rfl rfl hS158, fun _ _ => trivial, ?_⟩
                refine ow_batch [.p] rfl ?_
                refine ow_nil ?_
                refine x_qs ?_
                refine c_seq ?_
                refine CW.weak (C' := St w [] [_, _, _, _, _, _, _, _, _, _, _, _, _]) ?_ (fun _ h => St.sel [0, 1, 2, 3, 4, 7, 8, 9, 10, 11, 12, 13, 14] rfl rfl h)
                refine c_reg ?_
                refine ow_batch [.p, .p] rfl ?_
                obtain ⟨y161, h162, H⟩ := of_bind H
                refine ow_callS rfl fn48 rfl rfl rfl rfl (fun w1 hw1 => laws_markStepS_ok w1  h162 (hw1.carve [6] rfl rfl)) (fun v163 w1 w2 hw1 hR165 => ?_)
                obtain ⟨F166, rfl, hS164⟩ := hR165
                refine ⟨St w [] [_, _, _, _, _, _, _, _, _, _, _, _, _, _], hw1.comp [6] rfl rfl hS164, fun _ _ => trivial, ?_⟩
                refine ow_batch [.p] rfl ?_
                refine ow_nil ?_
                refine x_qs ?_
                refine c_seq ?_
                refine c_seq ?_
                refine c_reg ?_
                refine ow_batch [.p, .p, .p] rfl ?_
                obtain ⟨u167, hu171, H⟩ := of_bind H
                refine ow_cut [(84, .bool u167), (0, .slice a_0 p0.length c_0), (2, .slice a_2 p2.length c_2), (4, .pointer (some ⟨b7, 0, none⟩)), (8, .slice a64 y59.length c66), (12, .slice a101 y96.length c103)] 5 ?_ (fun key => OW.sub (R := [(0, .slice a_0 p0.length c_0), (2, .slice a_2 p2.length c_2), (4, .pointer (some ⟨b7, 0, none⟩)), (8, .slice a64 y59.length c66), (12, .slice a101 y96.length c103), (79, .bool (decide (y161.1 < 0)))]) ?_ ⟨rfl, rfl, rfl, rfl, rfl, rfl, trivial⟩)
                · refine ow_nil ?_
                  refine x_qs ?_
                  refine c_if rfl (fun hb => ?_) (fun hb => ?_)
                  · have H := of_if_t hb H
                    refine c_seq ?_
                    refine c_reg ?_
                    refine ow_batch [.p] rfl ?_
                    refine ow_nil ?_
                    refine x_qs ?_
                    refine c_ret ?_
                    refine x_qs_ret ?_
                    exact x_retR (rs := [.tmp 6]) (vs := [.bool false]) rfl ⟨rfl, trivial⟩ (fun w' hw' => by
                        obtain rfl := of_some H
                        exact ⟨rfl, hw'.ext⟩)
                  · have H := of_if_f hb H
                    refine c_skip ?_
                    refine x_qs ?_
                    refine c_seq ?_
                    refine c_reg ?_
                    refine ow_batch [.p] rfl ?_
                    refine ow_nil ?_
                    refine x_qs ?_
                    refine c_seq ?_
                    refine c_reg ?_
                    refine ow_batch [.p, .p] rfl ?_
                    obtain ⟨y172, h173, H⟩ := of_bind H
                    refine ow_callS rfl fn46 rfl rfl rfl rfl (fun w1 hw1 => laws_markPastS_ok w1  h173 (hw1.carve [7] rfl rfl)) (fun v174 w1 w2 hw1 hR176 => ?_)
                    obtain ⟨F177, rfl, hS175⟩ := hR176
                    refine ⟨St w [] [_, _, _, _, _, _, _, _, _, _, _, _, _, _, _], hw1.comp [7] rfl rfl hS175, fun _ _ => trivial, ?_⟩
                    refine ow_batch [.p] rfl ?_
                    refine ow_nil ?_
                    refine x_qs ?_
                    refine c_seq ?_
                    refine CW.weak (C' := St w [] [_, _, _, _, _, _, _, _, _, _, _, _, _]) ?_ (fun _ h => St.sel [0, 1, 2, 3, 4, 5, 8, 9, 10, 11, 12, 13, 14] rfl rfl h)
                    refine c_reg ?_
                    refine ow_batch [.p] rfl ?_
                    refine ow_nil ?_
                    refine x_qs ?_
                    refine c_seq ?_
                    refine c_reg ?_
                    refine ow_batch [.p, .p] rfl ?_
                    obtain ⟨y178, h179, H⟩ := of_bind H
                    refine ow_q rfl rfl (dstOk_lt rfl) (qy_call rfl fn49 rfl (fun w1 hw1 => laws_heldPastS_ok w1  h179 (rds_own (r := 12) rfl w1 hw1))) (fun _ _ => trivial) ?_
                    refine ow_batch [.p] rfl ?_
                    refine ow_nil ?_
                    refine x_qs ?_
                    refine c_seq ?_
                    refine c_seq ?_
                    refine c_reg ?_
                    refine ow_batch [.p, .p] rfl ?_
                    refine ow_nil ?_
                    refine x_qs ?_
                    refine c_if rfl (fun hb => ?_) (fun hb => ?_)
                    · have H := of_if_t hb H
                      refine c_seq ?_
                      refine c_reg ?_
                      refine ow_batch [.p] rfl ?_
                      refine ow_nil ?_
                      refine x_qs ?_
                      refine c_ret ?_
                      refine x_qs_ret ?_
                      exact x_retR (rs := [.tmp 6]) (vs := [.bool false]) rfl ⟨rfl, trivial⟩ (fun w' hw' => by
                          obtain rfl := of_some H
                          exact ⟨rfl, hw'.ext⟩)
                    · have H := of_if_f hb H
                      refine c_skip ?_
                      refine x_qs ?_
                      refine c_seq ?_
                      refine c_seq ?_
                      refine c_reg ?_
                      refine ow_batch [.p, .p, .p] rfl ?_
                      refine ow_nil ?_
                      refine x_qs ?_
                      refine c_if rfl (fun hb => ?_) (fun hb => ?_)
                      · have H := of_if_t hb H
                        refine c_seq ?_
                        refine c_reg ?_
                        refine ow_batch [.p] rfl ?_
                        refine ow_nil ?_
                        refine x_qs ?_
                        refine c_ret ?_
                        refine x_qs_ret ?_
                        exact x_retR (rs := [.tmp 6]) (vs := [.bool false]) rfl ⟨rfl, trivial⟩ (fun w' hw' => by
                            obtain rfl := of_some H
                            exact ⟨rfl, hw'.ext⟩)
                      · have H := of_if_f hb H
                        refine c_skip ?_
                        refine x_qs ?_
                        refine c_seq ?_
                        refine c_regHT 5 [(0, true), (2, true), (4, true), (1, false), (3, false)] (St w [] [Res.box b7 53 [.slice a5 p1.Bins_.length c6, .int .i64 p1.Class_], Res.own (eList (eTimpl_Past) 120) F40 y32 [.slice a37 y32.length c39], Res.own (eList (eVal (Value.int .i64) (fun _ => rfl)) 3) F49 y41.Bins_ [.slice a46 y41.Bins_.length c48], Res.own (eList (eTimpl_Step) 123) F58 y50 [.slice a55 y50.length c57], Res.own (eList (eTimpl_Past) 120) F67 y59 [.slice a64 y59.length c66], Res.box b86 56 [.slice a82 y77.Bins_.length c84, .int .i64 y77.Class_], Res.own (eList (eTimpl_Past) 120) F115 y107 [.slice a112 y107.length c114], Res.own (eList (eVal (Value.int .i64) (fun _ => rfl)) 3) F135 y127.Bins_ [.slice a132 y127.Bins_.length c134], Res.own (eList (eTimpl_Step) 123) F146 y138 [.slice a143 y138.length c145], Res.own (eList (eTimpl_Past) 120) F154 y149.2 [.slice a73 y68.length c75], Res.own (eList (eVal (Value.int .i64) (fun _ => rfl)) 3) F160 y155.2.Bins_ [.slice a82 y77.Bins_.length c84], Res.own (eList (eTimpl_Step) 123) F166 y161.2 [.slice a92 y87.length c94], Res.own (eList (eTimpl_Past) 120) F177 y172.2 [.slice a101 y96.length c103]]) mixed (by kernel_rfl) (panicOk_qs panicOk_body) (fun _ h => St.mask [true, true, true, true, true, true, true, true, true, true, true, true, true] rfl h) ?_
                        refine ow_batch [.p] rfl ?_
                        refine ow_rH rfl (dstOk_lt rfl) (ry_box (off := 0) (ds := [.slice a5 p1.Bins_.length c6, .int .i64 p1.Class_]) rfl rfl ty53 (boxIn (i := 0) rfl) rfl rfl) ?_
                        refine ow_batch [.p] rfl ?_
                        obtain ⟨y198, h199, H⟩ := of_bind H
                        refine ow_callS rfl fn41 rfl rfl rfl rfl (fun w1 hw1 => laws_toPastS_ok w1  h199 (hw1.carve [] rfl rfl) (rds_bor g0 w1 hw1)) (fun v200 w1 w2 hw1 hR202 => ?_)
                        obtain ⟨a203, n204, c205, F206, rfl, hS201⟩ := hR202
                        obtain rfl := own_nS (i := 0) hS201 rfl
                        refine ⟨St w [] [_, _, _, _, _, _, _, _, _, _, _, _, _, _], hw1.comp [] rfl rfl hS201, (fun _ h => St.mask [true, true, true, true, true, true, true, true, true, true, true, true, true] rfl h), ?_⟩
                        obtain ⟨y207, h208, H⟩ := of_bind H
                        refine ow_callS rfl fn30 rfl rfl rfl rfl (fun w1 hw1 => laws_toEx_ok w1 (cs0 := [.slice a5 p1.Bins_.length c6, .int .i64 p1.Class_]) h208 (hw1.carve [] rfl rfl) (rdm_Tlaws_Ex (x := p1) (c0 := [.slice a5 p1.Bins_.length c6]) (c1 := [.int .i64 p1.Class_]) (rds_bor g3 w1 hw1) rfl)) (fun v209 w1 w2 hw1 hR211 => ?_)
                        obtain ⟨a212, n213, c214, F215, rfl, hS210⟩ := hR211
                        obtain rfl := own_nS (i := 0) hS210 rfl
                        refine ⟨St w [] [_, _, _, _, _, _, _, _, _, _, _, _, _, _, _], hw1.comp [] rfl rfl hS210, (fun _ h => St.mask [true, true, true, true, true, true, true, true, true, true, true, true, true] rfl h), ?_⟩
                        refine ow_nilH ?_
                        refine x_qt ?_
                        obtain ⟨y216, h217, H⟩ := of_bind H
                        refine ow_callS rfl fn42 rfl rfl rfl rfl (fun w1 hw1 => laws_toStepS_ok w1  h217 (hw1.carve [] rfl rfl) (rds_bor g2 w1 hw1)) (fun v218 w1 w2 hw1 hR220 => ?_)
                        obtain ⟨a221, n222, c223, F224, rfl, hS219⟩ := hR220
                        obtain rfl := own_nS (i := 0) hS219 rfl
                        refine ⟨St w [] [_, _, _, _, _, _, _, _, _, _, _, _, _, _, _, _], hw1.comp [] rfl rfl hS219, fun _ _ => trivial, ?_⟩
                        obtain ⟨y225, h226, H⟩ := of_bind H
                        refine ow_callS rfl fn43 rfl rfl rfl rfl (fun w1 hw1 => impl_Follow_ok w1 (cs1 := [.slice a212 y207.Bins_.length c214, .int .i64 y207.Class_]) h226 (hw1.carve [] rfl rfl) (rds_own (r := 13) rfl w1 hw1) (rdm_Timpl_Ex (x := y207) (c0 := [.slice a212 y207.Bins_.length c214]) (c1 := [.int .i64 y207.Class_]) (rds_own (r := 14) rfl w1 hw1) rfl) (rds_own (r := 15) rfl w1 hw1)) (fun v227 w1 w2 hw1 hR229 => ?_)
                        obtain ⟨a230, n231, c232, F233, rfl, hS228⟩ := hR229
                        obtain rfl := own_nS (i := 0) hS228 rfl
                        refine ⟨St w [] [_, _, _, _, _, _, _, _, _, _, _, _, _, _, _, _, _], hw1.comp [] rfl rfl hS228, fun _ _ => trivial, ?_⟩
                        refine ow_batch [.p] rfl ?_
                        refine ow_nil ?_
                        refine x_qs ?_
                        refine c_seq ?_
                        refine c_seq ?_
                        refine c_reg ?_
                        refine ow_batch [.p, .p] rfl ?_
                        obtain ⟨y234, h235, H⟩ := of_bind H
                        refine ow_q rfl rfl (dstOk_lt rfl) (qy_call rfl fn44 rfl (fun w1 hw1 => laws_eqPastS_ok w1  h235 (rds_own (r := 16) rfl w1 hw1) (rds_own (r := 4) rfl w1 hw1))) (fun _ _ => trivial) ?_
                        refine ow_batch [.p] rfl ?_
                        refine ow_nil ?_
                        refine x_qs ?_
                        refine c_if rfl (fun hb => ?_) (fun hb => ?_)
                        · have H := of_if_t hb H
                          refine c_seq ?_
                          refine c_reg ?_
                          refine ow_batch [.p] rfl ?_
                          refine ow_nil ?_
                          refine x_qs ?_
                          refine c_ret ?_
                          refine x_qs_ret ?_
                          exact x_retR (rs := [.tmp 6]) (vs := [.bool false]) rfl ⟨rfl, trivial⟩ (fun w' hw' => by
                              obtain rfl := of_some H
                              exact ⟨rfl, hw'.ext⟩)
                        · have H := of_if_f hb H
                          refine c_skip ?_
                          refine x_qs ?_
                          refine c_seq ?_
                          refine c_reg ?_
                          refine ow_batch [.p] rfl ?_
                          refine ow_nil ?_
                          refine x_qs ?_
                          refine c_seq ?_
                          refine c_reg ?_
                          refine ow_batch [.p, .p] rfl ?_
                          obtain ⟨y236, h237, H⟩ := of_bind H
                          refine ow_q rfl rfl (dstOk_lt rfl) (qy_call rfl fn49 rfl (fun w1 hw1 => laws_heldPastS_ok w1  h237 (rds_own (r := 12) rfl w1 hw1))) (fun _ _ => trivial) ?_
                          refine ow_batch [.p] rfl ?_
                          refine ow_nil ?_
                          refine x_qs ?_
                          refine c_seq ?_
                          refine c_seq ?_
                          refine c_reg ?_
                          refine ow_batch [.p, .p] rfl ?_
                          refine ow_nil ?_
                          refine x_qs ?_
                          refine c_if rfl (fun hb => ?_) (fun hb => ?_)
                          · have H := of_if_t hb H
                            refine c_seq ?_
                            refine c_reg ?_
                            refine ow_batch [.p] rfl ?_
                            refine ow_nil ?_
                            refine x_qs ?_
                            refine c_ret ?_
                            refine x_qs_ret ?_
                            exact x_retR (rs := [.tmp 6]) (vs := [.bool false]) rfl ⟨rfl, trivial⟩ (fun w' hw' => by
                                obtain rfl := of_some H
                                exact ⟨rfl, hw'.ext⟩)
                          · have H := of_if_f hb H
                            refine c_skip ?_
                            refine x_qs ?_
                            refine c_seq ?_
                            refine c_seq ?_
                            refine c_reg ?_
                            refine ow_batch [.p, .p, .p] rfl ?_
                            refine ow_nil ?_
                            refine x_qs ?_
                            refine c_if rfl (fun hb => ?_) (fun hb => ?_)
                            · have H := of_if_t hb H
                              refine c_seq ?_
                              refine c_reg ?_
                              refine ow_batch [.p] rfl ?_
                              refine ow_nil ?_
                              refine x_qs ?_
                              refine c_ret ?_
                              refine x_qs_ret ?_
                              exact x_retR (rs := [.tmp 6]) (vs := [.bool false]) rfl ⟨rfl, trivial⟩ (fun w' hw' => by
                                  obtain rfl := of_some H
                                  exact ⟨rfl, hw'.ext⟩)
                            · have H := of_if_f hb H
                              refine c_skip ?_
                              refine x_qs ?_
                              refine c_seq ?_
                              refine c_reg ?_
                              refine ow_batch [.p] rfl ?_
                              refine ow_nil ?_
                              refine x_qs ?_
                              refine c_ret ?_
                              exact x_retR (rs := [.tmp 6]) (vs := [.bool true]) rfl ⟨rfl, trivial⟩ (fun w' hw' => by
                                  obtain rfl := of_some H
                                  exact ⟨rfl, hw'.ext⟩)
                · clear H
                  have H := hu171
                  clear hu171
                  generalize (decide (y161.1 < 0)) = t170 at H ⊢
                  cases t170
                  · have H := of_if_f rfl H
                    refine ow_batch [.p, .p] rfl ?_
                    obtain ⟨y168, h169, H⟩ := of_bind H
                    refine ow_q rfl rfl (dstOk_lt rfl) (qy_call rfl fn44 rfl (fun w1 hw1 => laws_eqPastS_ok w1  h169 (rds_own (r := 7) rfl w1 hw1) (rds_own (r := 4) rfl w1 hw1))) (fun _ _ => trivial) ?_
                    refine ow_batch [.p] rfl ?_
                    refine ow_batch [.p] rfl ?_
                    obtain rfl := of_some H
                    exact OW.sub key ⟨rfl, rfl, rfl, rfl, rfl, rfl, trivial⟩
                  · have H := of_if_t rfl H
                    refine ow_batch [.p, .p, .p, .p, .p] rfl ?_
                    obtain rfl := of_some H
                    exact OW.sub key ⟨rfl, rfl, rfl, rfl, rfl, rfl, trivial⟩

end Go.Vk
