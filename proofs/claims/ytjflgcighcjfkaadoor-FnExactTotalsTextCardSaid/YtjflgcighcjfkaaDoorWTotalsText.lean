/- The code does what the functions of data say. Printed by program. -/

import Derived.Test.YtjflgcighcjfkaaDoorRF

import Derived.Test.YtjflgcighcjfkaaDoorChecked

import Derived.Test.YtjflgcighcjfkaaDoorShelf

namespace Go.Vk

open Go.Proofs Go.RowKit



theorem sl22 : isSl Tryd.prog 22 3 := isSl_of (by kernel_rfl)

theorem sl48 : isSl Tryd.prog 48 9 := isSl_of (by kernel_rfl)

theorem ty9 : isTy Tryd.prog 9 false 1 16 [vS []] := isTy_of (by kernel_rfl)

theorem st9 : isStr Tryd.prog 9 := isStr_of (by kernel_rfl)

theorem ty3 : isTy Tryd.prog 3 false 1 8 [.int .i64 0] := isTy_of (by kernel_rfl)

set_option maxRecDepth 100000 in
theorem fn9 : isFn Tryd.prog 9 := ⟨Tryd.f9, Tryd.func9, rfl, by decide⟩

theorem mixed : Tryd.prog.follows .mixedOrders = true := by kernel_rfl

theorem us3 : (Tryd.prog.underlying 3).isSome = true := by kernel_rfl

theorem in5 : isInt Tryd.prog 5 .u8 := isInt_of (by kernel_rfl)

theorem sl122 : isSl Tryd.prog 122 5 := isSl_of (by kernel_rfl)

theorem ty5 : isTy Tryd.prog 5 false 1 1 [.int .u8 0] := isTy_of (by kernel_rfl)

set_option maxRecDepth 100000 in
theorem fn35 : isFn Tryd.prog 35 := ⟨Tryd.f35, Tryd.func35, rfl, by decide⟩

set_option maxRecDepth 100000 in
theorem fn36 : isFn Tryd.prog 36 := ⟨Tryd.f36, Tryd.func36, rfl, by decide⟩

set_option maxRecDepth 100000 in
theorem fn8 : isFn Tryd.prog 8 := ⟨Tryd.f8, Tryd.func8, rfl, by decide⟩

set_option maxRecDepth 100000 in
theorem fn98 : isFn Tryd.prog 98 := ⟨Tryd.f98, Tryd.func98, rfl, by decide⟩

set_option maxRecDepth 100000 in
theorem fn45 : isFn Tryd.prog 45 := ⟨Tryd.f45, Tryd.func45, rfl, by decide⟩

set_option maxRecDepth 100000 in
theorem fn59 : isFn Tryd.prog 59 := ⟨Tryd.f59, Tryd.func59, rfl, by decide⟩

set_option maxRecDepth 100000 in
theorem fn37 : isFn Tryd.prog 37 := ⟨Tryd.f37, Tryd.func37, rfl, by decide⟩

set_option maxRecDepth 100000 in
theorem fn10 : isFn Tryd.prog 10 := ⟨Tryd.f10, Tryd.func10, rfl, by decide⟩

set_option maxRecDepth 100000 in
theorem fn11 : isFn Tryd.prog 11 := ⟨Tryd.f11, Tryd.func11, rfl, by decide⟩

set_option maxHeartbeats 4000000 in
set_option maxRecDepth 100000 in
theorem laws_toIntS_ok (w : World) {M0 : List Nat} {p0 : List Int} {a_0 : Option Addr} {n_0 c_0 : Nat} {r : List Int} (H : laws_toIntS p0 = some r) (HS : St w M0 [] w) (g0 : (eList (eVal (Value.int .i64) (fun _ => rfl)) 3).rd w M0 p0 [.slice a_0 n_0 c_0]) :
    Calls Tryd.prog 9 #[.slice a_0 n_0 c_0] w (fun en w' => ∃ v, en = .returned v ∧ ∃ (a0 : Option Addr), ∃ (n0 : Nat), ∃ (c0 : Nat), ∃ (F0 : List Nat), v = .slice a0 n0 c0 ∧ St w M0 [Res.own (eList (eVal (Value.int .i64) (fun _ => rfl)) 3) F0 r [.slice a0 n0 c0]] w') := by
  obtain rfl := rd_n g0
  unfold laws_toIntS at H
  refine f_enter (vs := [.slice a_0 p0.length c_0]) Tryd.func9 rfl Tryd.ntmps9 rfl (HS) ?_
  refine c_seq ?_
  refine c_reg ?_
  refine ow_batch [.p] rfl ?_
  refine ow_nil ?_
  refine x_qs ?_
  refine c_seq ?_
  refine c_reg ?_
  refine ow_batch [.p, .lenS 22 3 sl22] rfl ?_
  obtain ⟨l10, h11, H⟩ := of_bind H
  refine ow_make (e := eVal (Value.int .i64) (fun _ => rfl)) (zero := (0 : Int)) rfl rfl rfl rfl rfl rfl sl22 ty3 rfl rfl rfl rfl (fun _ => ⟨rfl, rfl⟩) h11 (fun _ => kp) (fun b12 => ?_)
  refine ow_batch [.p] rfl ?_
  refine ow_nil ?_
  refine x_qs ?_
  refine c_seq ?_
  refine c_seq ?_
  refine c_reg ?_
  refine ow_batch [.p] rfl ?_
  refine ow_nil ?_
  refine x_qs ?_
  refine c_block ?_
  refine CW.at (loopI2 (fun (l19 : List Int) (i20 : Int) => St w M0 [Res.own (eList (eVal (Value.int .i64) (fun _ => rfl)) 3) [b12] l19 [.slice (some ⟨b12, 0, none⟩) l10.length l10.length]]) (fun (l19 : List Int) (i20 : Int) => [(0, .slice a_0 p0.length c_0), (3, .slice (some ⟨b12, 0, none⟩) l10.length l10.length), (4, .int .i64 i20)]) (fun kk => fun (l19 : List Int) (i20 : Int) => laws_toIntS_L1 p0 kk l19 i20 = some r) (fun _ _ H => ?_) (fun k1 ihk1 l19 i20 H => ?_) Fuel (l10) (0) (H)) (fun _ h => St.sel [0] rfl rfl h) ⟨rfl, rfl, rfl,  trivial⟩
  · unfold laws_toIntS_L1 at H
    exact absurd H (by simp)
  · unfold laws_toIntS_L1 at H
    refine c_seq ?_
    refine c_seq ?_
    refine c_reg ?_
    refine ow_batch [.p, .p, .lenS 22 3 sl22, .p] rfl ?_
    refine ow_nil ?_
    refine x_qs ?_
    refine c_if rfl (fun hb => ?_) (fun hb => ?_)
    · have H := of_if_t hb H
      refine c_skip ?_
      refine x_qs ?_
      refine c_seq ?_
      refine c_block ?_
      refine c_reg ?_
      refine ow_batch [.p, .p, .p, .p] rfl ?_
      obtain ⟨e27, h28, H⟩ := of_bind H
      refine ow_ixE (e := eVal (Value.int .i64) (fun _ => rfl)) (xs := p0) (j := i20) rfl rfl rfl rfl rfl sl22 ty3 rfl (fun w1 hw1 => rds_bor g0 w1 hw1) h28 (by rw [Nat.mul_one]) ?_
      refine ow_r rfl (dstOk_lt rfl) (ry_load1 rfl rfl ty3 (at_elV (fun w1 hw1 => rds_bor g0 w1 hw1) h28)) ?_
      obtain ⟨e29, h30, H⟩ := of_bind H
      refine ow_ixE (e := eVal (Value.int .i64) (fun _ => rfl)) (xs := l19) (j := i20) rfl rfl rfl rfl rfl sl22 ty3 rfl (fun w1 hw1 => rds_own (e := eList (eVal (Value.int .i64) (fun _ => rfl)) 3) (r := 0) rfl w1 hw1) h30 (by rw [Nat.mul_one]) ?_
      refine ow_storeV (i := 0) (j := i20) rfl rfl rfl rfl rfl rfl ty3 rfl h30 (fun _ => rfl) kp ?_
      refine ow_nil ?_
      refine x_qb ?_
      refine x_qs ?_
      refine c_reg ?_
      refine ow_batch [.p, .p, .p] rfl ?_
      refine ow_nil ?_
      exact x_ql (RW.at (ihk1 ((l19.set i20.toNat e27)) (IntKind.i64.wrap (i20 + 1)) (H)) (fun _ h => St.sel [0] rfl rfl h) ⟨rfl, rfl, rfl, trivial⟩)
    · have H := of_if_f hb H
      refine c_exit ?_
      refine x_qs_exit ?_
      refine x_ql_exit ?_
      refine x_qb_here ?_
      refine x_qs ?_
      refine c_seq ?_
      refine c_reg ?_
      refine ow_batch [.p, .p] rfl ?_
      refine ow_nil ?_
      refine x_qs ?_
      refine c_ret ?_
      exact x_retR (rs := [.tmp 2]) (vs := [.slice (some ⟨b12, 0, none⟩) l10.length l10.length]) rfl ⟨rfl, trivial⟩ (fun w' hw' => by
          obtain rfl := of_some H
          exact ⟨_, rfl, (some ⟨b12, 0, none⟩), l10.length, l10.length, [b12], rfl, hw'.sel [0] rfl rfl⟩)

set_option maxHeartbeats 4000000 in
set_option maxRecDepth 100000 in
theorem spec_Digits_ok (w : World) {p0 : Int}  {r : List UInt8} (H : spec_Digits p0 = some r)   :
    Calls Tryd.prog 35 #[.int .i64 p0] w (fun en w' => en = .returned (vS r) ∧ Ext [] w w') := by
  unfold spec_Digits at H
  refine f_enter (vs := [.int .i64 p0]) Tryd.func35 rfl Tryd.ntmps35 rfl (St.init w []) ?_
  refine c_seq ?_
  refine c_reg ?_
  refine ow_batch [.p] rfl ?_
  refine ow_nil ?_
  refine x_qs ?_
  refine c_seq ?_
  refine c_seq ?_
  refine c_reg ?_
  refine ow_batch [.p, .p] rfl ?_
  refine ow_nil ?_
  refine x_qs ?_
  refine c_if rfl (fun hb => ?_) (fun hb => ?_)
  · have H := of_if_t hb H
    refine c_seq ?_
    refine c_reg ?_
    refine ow_batch [.p] rfl ?_
    refine ow_nil ?_
    refine x_qs ?_
    refine c_ret ?_
    refine x_qs_ret ?_
    exact x_retR (rs := [.tmp 2]) (vs := [vS ([48] : List UInt8)]) rfl ⟨rfl, trivial⟩ (fun w' hw' => by
        obtain rfl := of_some H
        exact ⟨rfl, hw'.ext⟩)
  · have H := of_if_f hb H
    refine c_skip ?_
    refine x_qs ?_
    refine c_seq ?_
    refine c_reg ?_
    refine ow_batch [.p, .p, .p] rfl ?_
    refine ow_nil ?_
    refine x_qs ?_
    refine c_seq ?_
    refine c_reg ?_
    refine ow_batch [.p] rfl ?_
    refine ow_nil ?_
    refine x_qs ?_
    refine c_seq ?_
    refine c_block ?_
    refine CW.at (loopI2 (fun (i17 : Int) (s18 : List UInt8) => St w [] []) (fun (i17 : Int) (s18 : List UInt8) => [(0, .int .i64 i17), (3, .bool (decide (p0 < 0))), (4, vS s18)]) (fun kk => fun (i17 : Int) (s18 : List UInt8) => spec_Digits_L1 p0 kk i17 s18 = some r) (fun _ _ H => ?_) (fun k1 ihk1 i17 s18 H => ?_) Fuel (p0) (([] : List UInt8)) (H)) (fun _ h => St.sel [] rfl rfl h) ⟨rfl, rfl, rfl,  trivial⟩
    · unfold spec_Digits_L1 at H
      exact absurd H (by simp)
    · unfold spec_Digits_L1 at H
      refine c_seq ?_
      refine c_seq ?_
      refine c_reg ?_
      refine ow_batch [.p, .p] rfl ?_
      refine ow_nil ?_
      refine x_qs ?_
      refine c_if rfl (fun hb => ?_) (fun hb => ?_)
      · have H := of_if_t hb H
        refine c_skip ?_
        refine x_qs ?_
        refine c_block ?_
        refine c_seq ?_
        refine c_reg ?_
        refine ow_batch [.p, .p, .p] rfl ?_
        refine ow_nil ?_
        refine x_qs ?_
        refine c_join1 (fun (i25 : Int) => St w [] []) (fun (i25 : Int) => [(0, .int .i64 i17), (3, .bool (decide (p0 < 0))), (4, vS s18), (5, .int .i64 i25)]) (fun (i25 : Int) => spec_Digits_J1 s18 (spec_Digits_L1 p0 k1) i17 i25 = some r) (fun i25 H => ?_) (fun J1 => ?_)
        · unfold spec_Digits_J1 at H
          refine c_seq ?_
          refine c_reg ?_
          refine ow_batch [.p, .p, .cv 3 5 .u8 us3 in5] rfl ?_
          refine ow_blit (val := Value.int .u8) (h1 := fun _ => rfl) [IntKind.u8.wrap (IntKind.i64.wrap (48 + i25))] [(0, [.int .u8 (IntKind.u8.wrap (IntKind.i64.wrap (48 + i25)))])] rfl rfl rfl rfl rfl sl122 ty5 rfl rfl rfl ⟨rfl, rfl, Nat.le_of_ble_eq_true rfl,  trivial⟩ rfl rfl (fun _ => kp) (fun b26 => ?_)
          refine ow_r rfl (dstOk_lt rfl) (ry_bts (xs := ([IntKind.u8.wrap (IntKind.i64.wrap (48 + i25))] : List Int)) rfl rfl sl122 in5 st9 (fun w1 hw1 => rds_own (e := eList (eVal (Value.int .u8) (fun _ => rfl)) 5) (r := 0) rfl w1 hw1)) ?_
          refine ow_batch [.p] rfl ?_
          obtain ⟨s27, h28, H⟩ := of_bind H
          refine ow_r rfl (dstOk_lt rfl) (ry_sadd rfl rfl rfl h28) ?_
          refine ow_batch [.p] rfl ?_
          refine ow_nil ?_
          refine x_qs ?_
          refine c_reg ?_
          refine ow_batch [.p, .p, .p] rfl ?_
          refine ow_nil ?_
          refine x_qb ?_
          exact x_ql (RW.at (ihk1 (IntKind.i64.wrap (Int.tdiv i17 10)) (s27) (H)) (fun _ h => St.sel [] rfl rfl h) ⟨rfl, rfl, rfl, trivial⟩)
        · refine c_seq ?_
          refine c_reg ?_
          refine ow_batch [.p, .p] rfl ?_
          refine ow_nil ?_
          refine x_qs ?_
          refine c_if rfl (fun hb => ?_) (fun hb => ?_)
          · have H := of_if_t hb H
            refine c_reg ?_
            refine ow_batch [.p, .p, .p] rfl ?_
            refine ow_nil ?_
            exact XW.at (J1 (IntKind.i64.wrap (0 - (Int.tmod i17 10))) (H)) (fun _ h => St.sel [] rfl rfl h) ⟨rfl, rfl, rfl, rfl, trivial⟩
          · have H := of_if_f hb H
            refine c_skip ?_
            exact XW.at (J1 (Int.tmod i17 10) (H)) (fun _ h => St.sel [] rfl rfl h) ⟨rfl, rfl, rfl, rfl, trivial⟩
      · have H := of_if_f hb H
        refine c_exit ?_
        refine x_qs_exit ?_
        refine x_ql_exit ?_
        refine x_qb_here ?_
        refine x_qs ?_
        refine c_seq ?_
        refine c_seq ?_
        refine c_reg ?_
        refine ow_batch [.p] rfl ?_
        refine ow_nil ?_
        refine x_qs ?_
        refine c_if rfl (fun hb => ?_) (fun hb => ?_)
        · have H := of_if_t hb H
          refine c_seq ?_
          refine c_reg ?_
          refine ow_batch [.p] rfl ?_
          obtain ⟨s29, h30, H⟩ := of_bind H
          refine ow_r rfl (dstOk_lt rfl) (ry_sadd rfl rfl rfl h30) ?_
          refine ow_batch [.p] rfl ?_
          refine ow_nil ?_
          refine x_qs ?_
          refine c_ret ?_
          refine x_qs_ret ?_
          exact x_retR (rs := [.tmp 2]) (vs := [vS s29]) rfl ⟨rfl, trivial⟩ (fun w' hw' => by
              obtain rfl := of_some H
              exact ⟨rfl, hw'.ext⟩)
        · have H := of_if_f hb H
          refine c_skip ?_
          refine x_qs ?_
          refine c_seq ?_
          refine c_reg ?_
          refine ow_batch [.p, .p] rfl ?_
          refine ow_nil ?_
          refine x_qs ?_
          refine c_ret ?_
          exact x_retR (rs := [.tmp 2]) (vs := [vS s18]) rfl ⟨rfl, trivial⟩ (fun w' hw' => by
              obtain rfl := of_some H
              exact ⟨rfl, hw'.ext⟩)

set_option maxHeartbeats 4000000 in
set_option maxRecDepth 100000 in
theorem spec_l5Join_ok (w : World) {p0 : List (List UInt8)} {p1 : List UInt8} {a_0 : Option Addr} {n_0 c_0 : Nat} {r : List UInt8} (H : spec_l5Join p0 p1 = some r)  (g0 : (eList (eStr) 9).rd w [] p0 [.slice a_0 n_0 c_0]) :
    Calls Tryd.prog 36 #[.slice a_0 n_0 c_0, vS p1] w (fun en w' => en = .returned (vS r) ∧ Ext [] w w') := by
  obtain rfl := rd_n g0
  unfold spec_l5Join at H
  refine f_enter (vs := [.slice a_0 p0.length c_0, vS p1]) Tryd.func36 rfl Tryd.ntmps36 rfl (St.init w []) ?_
  refine c_seq ?_
  refine c_reg ?_
  refine ow_batch [.p] rfl ?_
  refine ow_nil ?_
  refine x_qs ?_
  refine c_seq ?_
  refine c_reg ?_
  refine ow_batch [.p] rfl ?_
  refine ow_nil ?_
  refine x_qs ?_
  refine c_seq ?_
  refine c_seq ?_
  refine c_reg ?_
  refine ow_batch [.p] rfl ?_
  refine ow_nil ?_
  refine x_qs ?_
  refine c_block ?_
  refine CW.at (loopI2 (fun (s21 : List UInt8) (i22 : Int) => St w [] []) (fun (s21 : List UInt8) (i22 : Int) => [(0, .slice a_0 p0.length c_0), (1, vS p1), (5, vS s21), (6, .int .i64 i22)]) (fun kk => fun (s21 : List UInt8) (i22 : Int) => spec_l5Join_L1 p0 p1 kk s21 i22 = some r) (fun _ _ H => ?_) (fun k1 ihk1 s21 i22 H => ?_) Fuel (([] : List UInt8)) (0) (H)) (fun _ h => St.sel [] rfl rfl h) ⟨rfl, rfl, rfl, rfl,  trivial⟩
  · unfold spec_l5Join_L1 at H
    exact absurd H (by simp)
  · unfold spec_l5Join_L1 at H
    refine c_seq ?_
    refine c_seq ?_
    refine c_reg ?_
    refine ow_batch [.p, .p, .lenS 48 9 sl48, .p] rfl ?_
    refine ow_nil ?_
    refine x_qs ?_
    refine c_if rfl (fun hb => ?_) (fun hb => ?_)
    · have H := of_if_t hb H
      refine c_skip ?_
      refine x_qs ?_
      refine c_seq ?_
      refine c_block ?_
      refine c_join1 (fun (s36 : List UInt8) => St w [] []) (fun (s36 : List UInt8) => [(0, .slice a_0 p0.length c_0), (1, vS p1), (5, vS s36), (6, .int .i64 i22)]) (fun (s36 : List UInt8) => spec_l5Join_J1 p0 i22 (spec_l5Join_L1 p0 p1 k1) s36 = some r) (fun s36 H => ?_) (fun J1 => ?_)
      · unfold spec_l5Join_J1 at H
        refine c_reg ?_
        refine ow_batch [.p, .p, .p] rfl ?_
        obtain ⟨e37, h38, H⟩ := of_bind H
        refine ow_ixE (e := eStr) (xs := p0) (j := i22) rfl rfl rfl rfl rfl sl48 ty9 rfl (fun w1 hw1 => rds_bor g0 w1 hw1) h38 (by rw [Nat.mul_one]) ?_
        refine ow_r rfl (dstOk_lt rfl) (ry_load1 rfl rfl ty9 (at_elV (fun w1 hw1 => rds_bor g0 w1 hw1) h38)) ?_
        obtain ⟨s39, h40, H⟩ := of_bind H
        refine ow_r rfl (dstOk_lt rfl) (ry_sadd rfl rfl rfl h40) ?_
        refine ow_batch [.p] rfl ?_
        refine ow_nil ?_
        refine x_qb ?_
        refine x_qs ?_
        refine c_reg ?_
        refine ow_batch [.p, .p, .p] rfl ?_
        refine ow_nil ?_
        exact x_ql (RW.at (ihk1 (s39) (IntKind.i64.wrap (i22 + 1)) (H)) (fun _ h => St.sel [] rfl rfl h) ⟨rfl, rfl, rfl, rfl, trivial⟩)
      · refine c_seq ?_
        refine c_reg ?_
        refine ow_batch [.p, .p] rfl ?_
        refine ow_nil ?_
        refine x_qs ?_
        refine c_if rfl (fun hb => ?_) (fun hb => ?_)
        · have H := of_if_t hb H
          refine c_reg ?_
          refine ow_batch [.p, .p] rfl ?_
          obtain ⟨s41, h42, H⟩ := of_bind H
          refine ow_r rfl (dstOk_lt rfl) (ry_sadd rfl rfl rfl h42) ?_
          refine ow_batch [.p] rfl ?_
          refine ow_nil ?_
          exact XW.at (J1 (s41) (H)) (fun _ h => St.sel [] rfl rfl h) ⟨rfl, rfl, rfl, rfl, trivial⟩
        · have H := of_if_f hb H
          refine c_skip ?_
          exact XW.at (J1 (s21) (H)) (fun _ h => St.sel [] rfl rfl h) ⟨rfl, rfl, rfl, rfl, trivial⟩
    · have H := of_if_f hb H
      refine c_exit ?_
      refine x_qs_exit ?_
      refine x_ql_exit ?_
      refine x_qb_here ?_
      refine x_qs ?_
      refine c_seq ?_
      refine c_reg ?_
      refine ow_batch [.p, .p] rfl ?_
      refine ow_nil ?_
      refine x_qs ?_
      refine c_ret ?_
      exact x_retR (rs := [.tmp 4]) (vs := [vS s21]) rfl ⟨rfl, trivial⟩ (fun w' hw' => by
          obtain rfl := of_some H
          exact ⟨rfl, hw'.ext⟩)

set_option maxHeartbeats 4000000 in
set_option maxRecDepth 100000 in
theorem spec_TotalsText_ok (w : World) {p0 : List Int} {a_0 : Option Addr} {n_0 c_0 : Nat} {r : List UInt8} (H : spec_TotalsText p0 = some r)  (g0 : (eList (eVal (Value.int .i64) (fun _ => rfl)) 3).rd w [] p0 [.slice a_0 n_0 c_0]) :
    Calls Tryd.prog 8 #[.slice a_0 n_0 c_0] w (fun en w' => en = .returned (vS r) ∧ Ext [] w w') := by
  obtain rfl := rd_n g0
  unfold spec_TotalsText at H
  refine f_enter (vs := [.slice a_0 p0.length c_0]) Tryd.func8 rfl Tryd.ntmps8 rfl (St.init w []) ?_
  refine c_seq ?_
  refine c_reg ?_
  refine ow_batch [.p] rfl ?_
  refine ow_nil ?_
  refine x_qs ?_
  refine c_seq ?_
  refine c_reg ?_
  refine ow_blit0 (e := eStr) rfl rfl rfl rfl sl48 ty9 (fun _ => kp) (fun b10 => ?_)
  refine ow_batch [.p] rfl ?_
  refine ow_nil ?_
  refine x_qs ?_
  refine c_seq ?_
  refine c_seq ?_
  refine c_reg ?_
  refine ow_batch [.p] rfl ?_
  refine ow_nil ?_
  refine x_qs ?_
  refine c_block ?_
  refine CW.at (loopI5 (fun (l28 : List (List UInt8)) (a29 : Option Addr) (c30 : Nat) (F31 : List Nat) (i33 : Int) => St w [] [Res.own (eList (eStr) 9) F31 l28 [.slice a29 l28.length c30]]) (fun (l28 : List (List UInt8)) (a29 : Option Addr) (c30 : Nat) (F31 : List Nat) (i33 : Int) => [(0, .slice a_0 p0.length c_0), (3, .slice a29 l28.length c30), (4, .int .i64 i33)]) (fun kk => fun (l28 : List (List UInt8)) (a29 : Option Addr) (c30 : Nat) (F31 : List Nat) (i33 : Int) => a29.isNone = false ∧ spec_TotalsText_L1 p0 kk l28 i33 = some r) (fun _ _ _ _ _ H => ?_) (fun k1 ihk1 l28 a29 c30 F31 i33 ⟨hz32, H⟩ => ?_) Fuel (([] : List (List UInt8))) ((some ⟨b10, 0, none⟩)) (0) ([b10]) (0) (⟨rfl, H⟩)) (fun _ h => St.sel [0] rfl rfl h) ⟨rfl, rfl, rfl,  trivial⟩
  · unfold spec_TotalsText_L1 at H
    exact absurd H (by simp)
  · unfold spec_TotalsText_L1 at H
    refine c_seq ?_
    refine c_seq ?_
    refine c_reg ?_
    refine ow_batch [.p, .p, .lenS 22 3 sl22, .p] rfl ?_
    refine ow_nil ?_
    refine x_qs ?_
    refine c_if rfl (fun hb => ?_) (fun hb => ?_)
    · have H := of_if_t hb H
      refine c_skip ?_
      refine x_qs ?_
      refine c_seq ?_
      refine c_block ?_
      refine c_reg ?_
      refine ow_batch [.p, .p, .p] rfl ?_
      obtain ⟨e51, h52, H⟩ := of_bind H
      refine ow_ixE (e := eVal (Value.int .i64) (fun _ => rfl)) (xs := p0) (j := i33) rfl rfl rfl rfl rfl sl22 ty3 rfl (fun w1 hw1 => rds_bor g0 w1 hw1) h52 (by rw [Nat.mul_one]) ?_
      refine ow_r rfl (dstOk_lt rfl) (ry_load1 rfl rfl ty3 (at_elV (fun w1 hw1 => rds_bor g0 w1 hw1) h52)) ?_
      obtain ⟨y53, h54, H⟩ := of_bind H
      refine ow_q rfl rfl (dstOk_lt rfl) (qy_call rfl fn35 rfl (fun w1 hw1 => spec_Digits_ok w1  h54)) (fun _ _ => trivial) ?_
      refine ow_blit (val := vS) (h1 := fun _ => rfl) [y53] [(0, [vS y53])] rfl rfl rfl rfl rfl sl48 ty9 rfl rfl rfl ⟨rfl, rfl, Nat.le_of_ble_eq_true rfl,  trivial⟩ rfl rfl (fun _ => kp) (fun b55 => ?_)
      obtain ⟨l56, h57, H⟩ := of_bind H
      refine ow_appR (r := 0) (ys := ([y53] : List (List UInt8))) rfl rfl rfl rfl rfl rfl sl48 ty9 rfl rfl rfl (fun w1 hw1 => rds_own (e := eList (eStr) 9) (r := 1) rfl w1 hw1) h57 (fun _ _ _ => kp) (fun a58 c59 F60 => ?_)
      refine ow_fact rfl (fun w1 hw1 => own_nn (i := 0) hw1 rfl (app_ne h57)) (fun hz61 => ?_)
      refine ow_batch [.p] rfl ?_
      refine ow_nil ?_
      refine x_qb ?_
      refine x_qs ?_
      refine c_reg ?_
      refine ow_batch [.p, .p, .p] rfl ?_
      refine ow_nil ?_
      exact x_ql (RW.at (ihk1 (l56) (a58) (c59) (F60) (IntKind.i64.wrap (i33 + 1)) (⟨hz61, H⟩)) (fun _ h => St.sel [0] rfl rfl h) ⟨rfl, rfl, rfl, trivial⟩)
    · have H := of_if_f hb H
      refine c_exit ?_
      refine x_qs_exit ?_
      refine x_ql_exit ?_
      refine x_qb_here ?_
      refine x_qs ?_
      refine c_seq ?_
      refine c_reg ?_
      refine ow_batch [.p] rfl ?_
      obtain ⟨y62, h63, H⟩ := of_bind H
      refine ow_q rfl rfl (dstOk_lt rfl) (qy_call rfl fn36 rfl (fun w1 hw1 => spec_l5Join_ok w1  h63 (rds_own (e := eList (eStr) 9) (r := 0) rfl w1 hw1))) (fun _ _ => trivial) ?_
      refine ow_batch [.p] rfl ?_
      refine ow_nil ?_
      refine x_qs ?_
      refine c_ret ?_
      exact x_retR (rs := [.tmp 2]) (vs := [vS y62]) rfl ⟨rfl, trivial⟩ (fun w' hw' => by
          obtain rfl := of_some H
          exact ⟨rfl, hw'.ext⟩)

set_option maxHeartbeats 4000000 in
set_option maxRecDepth 100000 in
theorem impl_Digits_ok (w : World) {p0 : Int}  {r : List UInt8} (H : impl_Digits p0 = some r)  (gT : (ePow10 Tryd.prog).rd w [] () []) :
    Calls Tryd.prog 45 #[.int .i64 p0] w (fun en w' => en = .returned (vS r) ∧ Ext [] w w') := by
  unfold impl_Digits at H
  refine f_enter (vs := [.int .i64 p0]) Tryd.func45 rfl Tryd.ntmps45 rfl (St.init w []) ?_
  refine c_seq ?_
  refine c_reg ?_
  refine ow_batch [.p] rfl ?_
  refine ow_nil ?_
  refine x_qs ?_
  refine c_seq ?_
  refine c_reg ?_
  refine ow_batch [.p] rfl ?_
  obtain ⟨s10, h11, H⟩ := of_bind H
  refine ow_q rfl rfl (dstOk_lt rfl) (qy_call rfl fn98 rfl (fun w1 hw1 => itoa_ok Tryd.laysM171 w1 h11 (rds_bor gT w1 hw1))) (fun _ _ => trivial) ?_
  refine ow_batch [.p] rfl ?_
  refine ow_nil ?_
  refine x_qs ?_
  refine c_ret ?_
  exact x_retR (rs := [.tmp 2]) (vs := [vS s10]) rfl ⟨rfl, trivial⟩ (fun w' hw' => by
      obtain rfl := of_some H
      exact ⟨rfl, hw'.ext⟩)

set_option maxHeartbeats 4000000 in
set_option maxRecDepth 100000 in
theorem impl_numbersText_ok (w : World) {p0 : List Int} {p1 : List UInt8} {a_0 : Option Addr} {n_0 c_0 : Nat} {r : List UInt8} (H : impl_numbersText p0 p1 = some r)  (g0 : (eList (eVal (Value.int .i64) (fun _ => rfl)) 3).rd w [] p0 [.slice a_0 n_0 c_0]) (gT : (ePow10 Tryd.prog).rd w [] () []) :
    Calls Tryd.prog 37 #[.slice a_0 n_0 c_0, vS p1] w (fun en w' => en = .returned (vS r) ∧ Ext [] w w') := by
  obtain rfl := rd_n g0
  unfold impl_numbersText at H
  refine f_enter (vs := [.slice a_0 p0.length c_0, vS p1]) Tryd.func37 rfl Tryd.ntmps37 rfl (St.init w []) ?_
  refine c_seq ?_
  refine c_reg ?_
  refine ow_batch [.p] rfl ?_
  refine ow_nil ?_
  refine x_qs ?_
  refine c_seq ?_
  refine c_reg ?_
  refine ow_blit0 (e := eStr) rfl rfl rfl rfl sl48 ty9 (fun _ => kp) (fun b10 => ?_)
  refine ow_batch [.p] rfl ?_
  refine ow_nil ?_
  refine x_qs ?_
  refine c_seq ?_
  refine c_seq ?_
  refine c_reg ?_
  refine ow_batch [.p, .lenS 22 3 sl22, .p] rfl ?_
  refine ow_nil ?_
  refine x_qs ?_
  refine c_block ?_
  refine CW.at (loopI5 (fun (i28 : Int) (l29 : List (List UInt8)) (a30 : Option Addr) (c31 : Nat) (F32 : List Nat) => St w [] [Res.own (eList (eStr) 9) F32 l29 [.slice a30 l29.length c31]]) (fun (i28 : Int) (l29 : List (List UInt8)) (a30 : Option Addr) (c31 : Nat) (F32 : List Nat) => [(1, vS p1), (5, .slice a30 l29.length c31), (9, .slice a_0 p0.length c_0), (10, .int .i64 (p0.length : Int)), (11, .int .i64 i28)]) (fun kk => fun (i28 : Int) (l29 : List (List UInt8)) (a30 : Option Addr) (c31 : Nat) (F32 : List Nat) => a30.isNone = false ∧ impl_numbersText_L1 p0 p1 kk i28 l29 = some r) (fun _ _ _ _ _ H => ?_) (fun k1 ihk1 i28 l29 a30 c31 F32 ⟨hz33, H⟩ => ?_) Fuel (0) (([] : List (List UInt8))) ((some ⟨b10, 0, none⟩)) (0) ([b10]) (⟨rfl, H⟩)) (fun _ h => St.sel [0] rfl rfl h) ⟨rfl, rfl, rfl, rfl, rfl,  trivial⟩
  · unfold impl_numbersText_L1 at H
    exact absurd H (by simp)
  · unfold impl_numbersText_L1 at H
    refine c_seq ?_
    refine c_reg ?_
    refine ow_batch [.p] rfl ?_
    refine ow_nil ?_
    refine x_qs ?_
    refine c_seq ?_
    refine c_if rfl (fun hb => ?_) (fun hb => ?_)
    · have H := of_if_t hb H
      refine c_skip ?_
      refine x_qs ?_
      refine c_seq ?_
      refine c_block ?_
      refine c_seq ?_
      refine c_reg ?_
      obtain ⟨e51, h52, H⟩ := of_bind H
      refine ow_ixE (e := eVal (Value.int .i64) (fun _ => rfl)) (xs := p0) (j := i28) rfl rfl rfl rfl rfl sl22 ty3 rfl (fun w1 hw1 => rds_bor g0 w1 hw1) h52 (by rw [Nat.mul_one]) ?_
      refine ow_r rfl (dstOk_lt rfl) (ry_load1 rfl rfl ty3 (at_elV (fun w1 hw1 => rds_bor g0 w1 hw1) h52)) ?_
      refine ow_batch [.p] rfl ?_
      refine ow_nil ?_
      refine x_qs ?_
      refine c_reg ?_
      refine ow_batch [.p, .p] rfl ?_
      obtain ⟨y53, h54, H⟩ := of_bind H
      refine ow_q rfl rfl (dstOk_lt rfl) (qy_call rfl fn45 rfl (fun w1 hw1 => impl_Digits_ok w1  h54 (rds_bor gT w1 hw1))) (fun _ _ => trivial) ?_
      refine ow_blit (val := vS) (h1 := fun _ => rfl) [y53] [(0, [vS y53])] rfl rfl rfl rfl rfl sl48 ty9 rfl rfl rfl ⟨rfl, rfl, Nat.le_of_ble_eq_true rfl,  trivial⟩ rfl rfl (fun _ => kp) (fun b55 => ?_)
      obtain ⟨l56, h57, H⟩ := of_bind H
      refine ow_appR (r := 0) (ys := ([y53] : List (List UInt8))) rfl rfl rfl rfl rfl rfl sl48 ty9 rfl rfl rfl (fun w1 hw1 => rds_own (e := eList (eStr) 9) (r := 1) rfl w1 hw1) h57 (fun _ _ _ => kp) (fun a58 c59 F60 => ?_)
      refine ow_fact rfl (fun w1 hw1 => own_nn (i := 0) hw1 rfl (app_ne h57)) (fun hz61 => ?_)
      refine ow_batch [.p] rfl ?_
      refine ow_nil ?_
      refine x_qb ?_
      refine x_qs ?_
      refine c_reg ?_
      refine ow_batch [.p, .p] rfl ?_
      refine ow_nil ?_
      exact x_ql (RW.at (ihk1 (IntKind.i64.wrap (i28 + 1)) (l56) (a58) (c59) (F60) (⟨hz61, H⟩)) (fun _ h => St.sel [0] rfl rfl h) ⟨rfl, rfl, rfl, rfl, rfl, trivial⟩)
    · have H := of_if_f hb H
      refine c_exit ?_
      refine x_qs_exit ?_
      refine x_ql_exit ?_
      refine x_qb_here ?_
      refine x_qs ?_
      refine c_seq ?_
      refine c_reg ?_
      refine ow_batch [.p, .p] rfl ?_
      obtain ⟨s62, h63, H⟩ := of_bind H
      refine ow_q rfl rfl (dstOk_lt rfl) (qy_call rfl fn59 rfl (fun w1 hw1 => join_ok (T := 9) Tryd.lays156 Tryd.Builder_Extra_156 w1 h63 (rds_own (e := eList (eStr) 9) (r := 0) rfl w1 hw1))) (fun _ _ => trivial) ?_
      refine ow_batch [.p] rfl ?_
      refine ow_nil ?_
      refine x_qs ?_
      refine c_ret ?_
      exact x_retR (rs := [.tmp 4]) (vs := [vS s62]) rfl ⟨rfl, trivial⟩ (fun w' hw' => by
          obtain rfl := of_some H
          exact ⟨rfl, hw'.ext⟩)

set_option maxHeartbeats 4000000 in
set_option maxRecDepth 100000 in
theorem impl_TotalsText_ok (w : World) {p0 : List Int} {a_0 : Option Addr} {n_0 c_0 : Nat} {r : List UInt8} (H : impl_TotalsText p0 = some r)  (g0 : (eList (eVal (Value.int .i64) (fun _ => rfl)) 3).rd w [] p0 [.slice a_0 n_0 c_0]) (gT : (ePow10 Tryd.prog).rd w [] () []) :
    Calls Tryd.prog 10 #[.slice a_0 n_0 c_0] w (fun en w' => en = .returned (vS r) ∧ Ext [] w w') := by
  obtain rfl := rd_n g0
  unfold impl_TotalsText at H
  refine f_enter (vs := [.slice a_0 p0.length c_0]) Tryd.func10 rfl Tryd.ntmps10 rfl (St.init w []) ?_
  refine c_seq ?_
  refine c_reg ?_
  refine ow_batch [.p] rfl ?_
  refine ow_nil ?_
  refine x_qs ?_
  refine c_seq ?_
  refine c_reg ?_
  refine ow_batch [.p] rfl ?_
  obtain ⟨y10, h11, H⟩ := of_bind H
  refine ow_q rfl rfl (dstOk_lt rfl) (qy_call rfl fn37 rfl (fun w1 hw1 => impl_numbersText_ok w1  h11 (rds_bor g0 w1 hw1) (rds_bor gT w1 hw1))) (fun _ _ => trivial) ?_
  refine ow_batch [.p] rfl ?_
  refine ow_nil ?_
  refine x_qs ?_
  refine c_ret ?_
  exact x_retR (rs := [.tmp 2]) (vs := [vS y10]) rfl ⟨rfl, trivial⟩ (fun w' hw' => by
      obtain rfl := of_some H
      exact ⟨rfl, hw'.ext⟩)

set_option maxHeartbeats 4000000 in
set_option maxRecDepth 100000 in
theorem laws_eqIntS_ok (w : World) {p0 : List Int} {p1 : List Int} {a_0 : Option Addr} {n_0 c_0 : Nat} {a_1 : Option Addr} {n_1 c_1 : Nat} {r : Bool} (H : laws_eqIntS p0 p1 = some r)  (g0 : (eList (eVal (Value.int .i64) (fun _ => rfl)) 3).rd w [] p0 [.slice a_0 n_0 c_0]) (g1 : (eList (eVal (Value.int .i64) (fun _ => rfl)) 3).rd w [] p1 [.slice a_1 n_1 c_1]) :
    Calls Tryd.prog 11 #[.slice a_0 n_0 c_0, .slice a_1 n_1 c_1] w (fun en w' => en = .returned (.bool r) ∧ Ext [] w w') := by
  obtain rfl := rd_n g0
  obtain rfl := rd_n g1
  unfold laws_eqIntS at H
  refine f_enter (vs := [.slice a_0 p0.length c_0, .slice a_1 p1.length c_1]) Tryd.func11 rfl Tryd.ntmps11 rfl (St.init w []) ?_
  refine c_seq ?_
  refine c_reg ?_
  refine ow_batch [.p] rfl ?_
  refine ow_nil ?_
  refine x_qs ?_
  refine c_seq ?_
  refine c_seq ?_
  refine c_reg ?_
  refine ow_batch [.p, .lenS 22 3 sl22, .p, .lenS 22 3 sl22, .p] rfl ?_
  refine ow_nil ?_
  refine x_qs ?_
  refine c_if rfl (fun hb => ?_) (fun hb => ?_)
  · have H := of_if_t hb H
    refine c_seq ?_
    refine c_reg ?_
    refine ow_batch [.p] rfl ?_
    refine ow_nil ?_
    refine x_qs ?_
    refine c_ret ?_
    refine x_qs_ret ?_
    exact x_retR (rs := [.tmp 4]) (vs := [.bool false]) rfl ⟨rfl, trivial⟩ (fun w' hw' => by
        obtain rfl := of_some H
        exact ⟨rfl, hw'.ext⟩)
  · have H := of_if_f hb H
    refine c_skip ?_
    refine x_qs ?_
    refine c_seq ?_
    refine c_seq ?_
    refine c_reg ?_
    refine ow_batch [.p] rfl ?_
    refine ow_nil ?_
    refine x_qs ?_
    refine c_block ?_
    refine CW.at (loopI1 (fun (i15 : Int) => St w [] []) (fun (i15 : Int) => [(0, .slice a_0 p0.length c_0), (1, .slice a_1 p1.length c_1), (5, .int .i64 i15)]) (fun kk => fun (i15 : Int) => laws_eqIntS_L1 p0 p1 kk i15 = some r) (fun _ H => ?_) (fun k1 ihk1 i15 H => ?_) Fuel (0) (H)) (fun _ h => St.sel [] rfl rfl h) ⟨rfl, rfl, rfl,  trivial⟩
    · unfold laws_eqIntS_L1 at H
      exact absurd H (by simp)
    · unfold laws_eqIntS_L1 at H
      refine c_seq ?_
      refine c_seq ?_
      refine c_reg ?_
      refine ow_batch [.p, .p, .lenS 22 3 sl22, .p] rfl ?_
      refine ow_nil ?_
      refine x_qs ?_
      refine c_if rfl (fun hb => ?_) (fun hb => ?_)
      · have H := of_if_t hb H
        refine c_skip ?_
        refine x_qs ?_
        refine c_seq ?_
        refine c_block ?_
        refine c_seq ?_
        refine c_regQ mixed (by kernel_rfl) ?_
        refine ow_batch [.p, .p] rfl ?_
        obtain ⟨e21, h22, H⟩ := of_bind H
        refine ow_ixE (e := eVal (Value.int .i64) (fun _ => rfl)) (xs := p0) (j := i15) rfl rfl rfl rfl rfl sl22 ty3 rfl (fun w1 hw1 => rds_bor g0 w1 hw1) h22 (by rw [Nat.mul_one]) ?_
        refine ow_r rfl (dstOk_lt rfl) (ry_load1 rfl rfl ty3 (at_elV (fun w1 hw1 => rds_bor g0 w1 hw1) h22)) ?_
        refine ow_batch [.p, .p] rfl ?_
        obtain ⟨e23, h24, H⟩ := of_bind H
        refine ow_ixE (e := eVal (Value.int .i64) (fun _ => rfl)) (xs := p1) (j := i15) rfl rfl rfl rfl rfl sl22 ty3 rfl (fun w1 hw1 => rds_bor g1 w1 hw1) h24 (by rw [Nat.mul_one]) ?_
        refine ow_r rfl (dstOk_lt rfl) (ry_load1 rfl rfl ty3 (at_elV (fun w1 hw1 => rds_bor g1 w1 hw1) h24)) ?_
        refine ow_batch [.p] rfl ?_
        refine ow_nilQ ?_
        refine x_qs ?_
        refine c_if rfl (fun hb => ?_) (fun hb => ?_)
        · have H := of_if_t hb H
          refine c_seq ?_
          refine c_reg ?_
          refine ow_batch [.p] rfl ?_
          refine ow_nil ?_
          refine x_qs ?_
          refine c_ret ?_
          refine x_qb_ret ?_
          refine x_qs_ret ?_
          refine x_ql_ret ?_
          refine x_qb_ret ?_
          refine x_qs_ret ?_
          exact x_retR (rs := [.tmp 4]) (vs := [.bool false]) rfl ⟨rfl, trivial⟩ (fun w' hw' => by
              obtain rfl := of_some H
              exact ⟨rfl, hw'.ext⟩)
        · have H := of_if_f hb H
          refine c_skip ?_
          refine x_qb ?_
          refine x_qs ?_
          refine c_reg ?_
          refine ow_batch [.p, .p, .p] rfl ?_
          refine ow_nil ?_
          exact x_ql (RW.at (ihk1 (IntKind.i64.wrap (i15 + 1)) (H)) (fun _ h => St.sel [] rfl rfl h) ⟨rfl, rfl, rfl, trivial⟩)
      · have H := of_if_f hb H
        refine c_exit ?_
        refine x_qs_exit ?_
        refine x_ql_exit ?_
        refine x_qb_here ?_
        refine x_qs ?_
        refine c_seq ?_
        refine c_reg ?_
        refine ow_batch [.p] rfl ?_
        refine ow_nil ?_
        refine x_qs ?_
        refine c_ret ?_
        exact x_retR (rs := [.tmp 4]) (vs := [.bool true]) rfl ⟨rfl, trivial⟩ (fun w' hw' => by
            obtain rfl := of_some H
            exact ⟨rfl, hw'.ext⟩)

set_option maxHeartbeats 4000000 in
set_option maxRecDepth 100000 in
theorem laws_FnExactTotalsText_ok (w : World) {p0 : List Int} {a_0 : Option Addr} {n_0 c_0 : Nat} {r : Bool} (H : laws_FnExactTotalsText p0 = some r)  (g0 : (eList (eVal (Value.int .i64) (fun _ => rfl)) 3).rd w [] p0 [.slice a_0 n_0 c_0]) (gT : (ePow10 Tryd.prog).rd w [] () []) :
    Calls Tryd.prog 3 #[.slice a_0 n_0 c_0] w (fun en w' => en = .returned (.bool r) ∧ Ext [] w w') := by
  obtain rfl := rd_n g0
  unfold laws_FnExactTotalsText at H
  refine f_enter (vs := [.slice a_0 p0.length c_0]) Tryd.func3 rfl Tryd.ntmps3 rfl (St.init w []) ?_
  refine c_seq ?_
  refine c_reg ?_
  refine ow_batch [.p] rfl ?_
  refine ow_nil ?_
  refine x_qs ?_
  refine c_seq ?_
  refine c_seq ?_
  refine c_reg ?_
  refine ow_batch [.p, .lenS 22 3 sl22, .p] rfl ?_
  refine ow_nil ?_
  refine x_qs ?_
  refine c_if rfl (fun hb => ?_) (fun hb => ?_)
  · have H := of_if_t hb H
    refine c_seq ?_
    refine c_reg ?_
    refine ow_batch [.p] rfl ?_
    refine ow_nil ?_
    refine x_qs ?_
    refine c_ret ?_
    refine x_qs_ret ?_
    exact x_retR (rs := [.tmp 2]) (vs := [.bool true]) rfl ⟨rfl, trivial⟩ (fun w' hw' => by
        obtain rfl := of_some H
        exact ⟨rfl, hw'.ext⟩)
  · have H := of_if_f hb H
    refine c_skip ?_
    refine x_qs ?_
    refine c_seq ?_
    refine c_reg ?_
    refine ow_batch [.p] rfl ?_
    obtain ⟨y10, h11, H⟩ := of_bind H
    refine ow_callS rfl fn9 rfl rfl rfl rfl (fun w1 hw1 => laws_toIntS_ok w1  h11 (hw1.carve [] rfl rfl) (rds_bor g0 w1 hw1)) (fun v12 w1 w2 hw1 hR14 => ?_)
    obtain ⟨a15, n16, c17, F18, rfl, hS13⟩ := hR14
    obtain rfl := own_nS (i := 0) hS13 rfl
    refine ⟨St w [] [_], hw1.comp [] rfl rfl hS13, fun _ _ => trivial, ?_⟩
    obtain ⟨y19, h20, H⟩ := of_bind H
    refine ow_q rfl rfl (dstOk_lt rfl) (qy_call rfl fn8 rfl (fun w1 hw1 => spec_TotalsText_ok w1  h20 (rds_own (e := eList (eVal (Value.int .i64) (fun _ => rfl)) 3) (r := 0) rfl w1 hw1))) (fun _ _ => trivial) ?_
    refine ow_batch [.p] rfl ?_
    refine ow_nil ?_
    refine x_qs ?_
    refine c_seq ?_
    refine c_reg ?_
    refine ow_batch [.p] rfl ?_
    obtain ⟨y21, h22, H⟩ := of_bind H
    refine ow_callS rfl fn9 rfl rfl rfl rfl (fun w1 hw1 => laws_toIntS_ok w1  h22 (hw1.carve [] rfl rfl) (rds_bor g0 w1 hw1)) (fun v23 w1 w2 hw1 hR25 => ?_)
    obtain ⟨a26, n27, c28, F29, rfl, hS24⟩ := hR25
    obtain rfl := own_nS (i := 0) hS24 rfl
    refine ⟨St w [] [_, _], hw1.comp [] rfl rfl hS24, fun _ _ => trivial, ?_⟩
    refine ow_batch [.p] rfl ?_
    refine ow_nil ?_
    refine x_qs ?_
    refine c_seq ?_
    refine c_reg ?_
    refine ow_batch [.p] rfl ?_
    obtain ⟨y30, h31, H⟩ := of_bind H
    refine ow_q rfl rfl (dstOk_lt rfl) (qy_call rfl fn10 rfl (fun w1 hw1 => impl_TotalsText_ok w1  h31 (rds_own (e := eList (eVal (Value.int .i64) (fun _ => rfl)) 3) (r := 1) rfl w1 hw1) (rds_bor gT w1 hw1))) (fun _ _ => trivial) ?_
    refine ow_batch [.p] rfl ?_
    refine ow_nil ?_
    refine x_qs ?_
    refine c_seq ?_
    refine c_seq ?_
    refine c_reg ?_
    refine ow_batch [.p, .p, .p] rfl ?_
    refine ow_nil ?_
    refine x_qs ?_
    refine c_if rfl (fun hb => ?_) (fun hb => ?_)
    · have H := of_if_t hb H
      refine c_seq ?_
      refine c_reg ?_
      refine ow_batch [.p] rfl ?_
      refine ow_nil ?_
      refine x_qs ?_
      refine c_ret ?_
      refine x_qs_ret ?_
      exact x_retR (rs := [.tmp 2]) (vs := [.bool false]) rfl ⟨rfl, trivial⟩ (fun w' hw' => by
          obtain rfl := of_some H
          exact ⟨rfl, hw'.ext⟩)
    · have H := of_if_f hb H
      refine c_skip ?_
      refine x_qs ?_
      refine c_seq ?_
      refine c_seq ?_
      refine c_reg ?_
      refine ow_batch [.p, .p] rfl ?_
      obtain ⟨y32, h33, H⟩ := of_bind H
      refine ow_callS rfl fn9 rfl rfl rfl rfl (fun w1 hw1 => laws_toIntS_ok w1  h33 (hw1.carve [] rfl rfl) (rds_bor g0 w1 hw1)) (fun v34 w1 w2 hw1 hR36 => ?_)
      obtain ⟨a37, n38, c39, F40, rfl, hS35⟩ := hR36
      obtain rfl := own_nS (i := 0) hS35 rfl
      refine ⟨St w [] [_, _, _], hw1.comp [] rfl rfl hS35, fun _ _ => trivial, ?_⟩
      obtain ⟨y41, h42, H⟩ := of_bind H
      refine ow_q rfl rfl (dstOk_lt rfl) (qy_call rfl fn11 rfl (fun w1 hw1 => laws_eqIntS_ok w1  h42 (rds_own (e := eList (eVal (Value.int .i64) (fun _ => rfl)) 3) (r := 1) rfl w1 hw1) (rds_own (e := eList (eVal (Value.int .i64) (fun _ => rfl)) 3) (r := 2) rfl w1 hw1))) (fun _ _ => trivial) ?_
      refine ow_batch [.p] rfl ?_
      refine ow_nil ?_
      refine x_qs ?_
      refine c_if rfl (fun hb => ?_) (fun hb => ?_)
      · have H := of_if_t hb H
        refine c_seq ?_
        refine c_reg ?_
        refine ow_batch [.p] rfl ?_
        refine ow_nil ?_
        refine x_qs ?_
        refine c_ret ?_
        refine x_qs_ret ?_
        exact x_retR (rs := [.tmp 2]) (vs := [.bool false]) rfl ⟨rfl, trivial⟩ (fun w' hw' => by
            obtain rfl := of_some H
            exact ⟨rfl, hw'.ext⟩)
      · have H := of_if_f hb H
        refine c_skip ?_
        refine x_qs ?_
        refine c_seq ?_
        refine c_reg ?_
        refine ow_batch [.p] rfl ?_
        refine ow_nil ?_
        refine x_qs ?_
        refine c_ret ?_
        exact x_retR (rs := [.tmp 2]) (vs := [.bool true]) rfl ⟨rfl, trivial⟩ (fun w' hw' => by
            obtain rfl := of_some H
            exact ⟨rfl, hw'.ext⟩)

end Go.Vk
