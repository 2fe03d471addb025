/- The code does what the functions of data say. Printed by program. -/

import Derived.Test.YtejkhekgflacaaaRF

import Derived.Test.YtejkhekgflacaaaChecked

namespace Go.Vk

open Go.Proofs Go.RowKit



theorem sl22 : isSl Try.prog 22 5 := isSl_of (by kernel_rfl)

theorem ty5 : isTy Try.prog 5 false 1 1 [.int .u8 0] := isTy_of (by kernel_rfl)

theorem us3 : (Try.prog.underlying 3).isSome = true := by kernel_rfl

theorem in5 : isInt Try.prog 5 .u8 := isInt_of (by kernel_rfl)

theorem mixed : Try.prog.follows .mixedOrders = true := by kernel_rfl

theorem us5 : (Try.prog.underlying 5).isSome = true := by kernel_rfl

theorem in3 : isInt Try.prog 3 .i64 := isInt_of (by kernel_rfl)

theorem fn14 : isFn Try.prog 14 := ⟨Try.f14, Try.func14, rfl, by decide⟩

theorem ty48 : isTy Try.prog 48 true 3 40 [.slice none 0 0, .int .i64 0, .int .i64 0] := isTy_of (by kernel_rfl)

theorem fs48 : isFs Try.prog 48 [(0, 1), (1, 1), (2, 1)] := isFs_of (by kernel_rfl)

theorem fa48_2 : isFa Try.prog 48 2 2 := isFa_of (by kernel_rfl)

theorem ty3 : isTy Try.prog 3 false 1 8 [.int .i64 0] := isTy_of (by kernel_rfl)

theorem fa48_1 : isFa Try.prog 48 1 1 := isFa_of (by kernel_rfl)

theorem fa48_0 : isFa Try.prog 48 0 0 := isFa_of (by kernel_rfl)

theorem ty22 : isTy Try.prog 22 false 1 24 [.slice none 0 0] := isTy_of (by kernel_rfl)

theorem fn39 : isFn Try.prog 39 := ⟨Try.f39, Try.func39, rfl, by decide⟩

theorem sl44 : isSl Try.prog 44 3 := isSl_of (by kernel_rfl)

theorem fn40 : isFn Try.prog 40 := ⟨Try.f40, Try.func40, rfl, by decide⟩

theorem fn32 : isFn Try.prog 32 := ⟨Try.f32, Try.func32, rfl, by decide⟩

theorem fn34 : isFn Try.prog 34 := ⟨Try.f34, Try.func34, rfl, by decide⟩

theorem fn33 : isFn Try.prog 33 := ⟨Try.f33, Try.func33, rfl, by decide⟩

theorem fn19 : isFn Try.prog 19 := ⟨Try.f19, Try.func19, rfl, by decide⟩

theorem fn20 : isFn Try.prog 20 := ⟨Try.f20, Try.func20, rfl, by decide⟩

theorem fn21 : isFn Try.prog 21 := ⟨Try.f21, Try.func21, rfl, by decide⟩

theorem fn22 : isFn Try.prog 22 := ⟨Try.f22, Try.func22, rfl, by decide⟩

set_option maxHeartbeats 4000000 in
set_option maxRecDepth 100000 in
theorem impl_Crc_ok (w : World) {p0 : List Int} {a_0 : Option Addr} {n_0 c_0 : Nat} {r : Int} (H : impl_Crc p0 = some r)  (g0 : (eList (eVal (Value.int .u8) (fun _ => rfl)) 5).rd w [] p0 [.slice a_0 n_0 c_0]) :
    Calls Try.prog 14 #[.slice a_0 n_0 c_0] w (fun en w' => en = .returned (.int .i64 r) ∧ Ext [] w w') := by
  obtain rfl := rd_n g0
  unfold impl_Crc at H
  refine f_enter (vs := [.slice a_0 p0.length c_0]) Try.func14 rfl Try.ntmps14 rfl (St.init w []) ?_
  refine c_seq ?_
  refine c_reg ?_
  refine ow_batch [.p] rfl ?_
  refine ow_nil ?_
  refine x_qs ?_
  refine c_seq ?_
  refine c_reg ?_
  refine ow_batch [.p] rfl ?_
  refine ow_nil ?_
  refine x_qs ?_
  refine c_seq ?_
  refine c_seq ?_
  refine c_reg ?_
  refine ow_batch [.p, .lenS 22 5 sl22, .p] rfl ?_
  refine ow_nil ?_
  refine x_qs ?_
  refine c_block ?_
  refine CW.at (loopI2 (fun (i12 : Int) (i13 : Int) => St w [] []) (fun (i12 : Int) (i13 : Int) => [(3, .int .i64 i12), (7, .slice a_0 p0.length c_0), (8, .int .i64 (p0.length : Int)), (9, .int .i64 i13)]) (fun kk => fun (i12 : Int) (i13 : Int) => impl_Crc_L1 p0 kk i12 i13 = some r) (fun _ _ H => ?_) (fun k1 ihk1 i12 i13 H => ?_) Fuel (4294967295) (0) (H)) (fun _ h => St.sel [] rfl rfl h) ⟨rfl, rfl, rfl, rfl,  trivial⟩
  · unfold impl_Crc_L1 at H
    exact absurd H (by simp)
  · unfold impl_Crc_L1 at H
    refine c_seq ?_
    refine c_reg ?_
    refine ow_batch [.p] rfl ?_
    refine ow_nil ?_
    refine x_qs ?_
    refine c_seq ?_
    refine c_if rfl (fun hb => ?_) (fun hb => ?_)
    · have H := of_if_t hb H
      refine c_skip ?_
      refine x_qs ?_
      refine c_seq ?_
      refine c_block ?_
      refine c_seq ?_
      refine c_reg ?_
      obtain ⟨e25, h26, H⟩ := of_bind H
      refine ow_ixE (e := eVal (Value.int .u8) (fun _ => rfl)) (xs := p0) (j := i13) rfl rfl rfl rfl rfl sl22 ty5 rfl (fun w1 hw1 => rds_bor g0 w1 hw1) h26 (by rw [Nat.mul_one]) ?_
      refine ow_r rfl (dstOk_lt rfl) (ry_load1 rfl rfl ty5 (at_elV (fun w1 hw1 => rds_bor g0 w1 hw1) h26)) ?_
      refine ow_batch [.p] rfl ?_
      refine ow_nil ?_
      refine x_qs ?_
      refine c_seq ?_
      refine c_reg ?_
      refine ow_batch [.p, .p, .cv 5 3 .i64 us5 in3, .p, .p] rfl ?_
      refine ow_nil ?_
      refine x_qs ?_
      refine c_seq ?_
      refine c_reg ?_
      refine ow_batch [.p] rfl ?_
      refine ow_nil ?_
      refine x_qs ?_
      refine c_block ?_
      refine CW.at (loopI2 (fun (i29 : Int) (i30 : Int) => St w [] []) (fun (i29 : Int) (i30 : Int) => [(3, .int .i64 i30), (7, .slice a_0 p0.length c_0), (8, .int .i64 (p0.length : Int)), (9, .int .i64 i13), (17, .int .i64 i29)]) (fun kk => fun (i29 : Int) (i30 : Int) => impl_Crc_L2 (impl_Crc_L1 p0 k1) i13 kk i29 i30 = some r) (fun _ _ H => ?_) (fun k2 ihk2 i29 i30 H => ?_) Fuel (0) (ibits .xor .i64 i12 (IntKind.i64.wrap e25)) (H)) (fun _ h => St.sel [] rfl rfl h) ⟨rfl, rfl, rfl, rfl, rfl,  trivial⟩
      · unfold impl_Crc_L2 at H
        exact absurd H (by simp)
      · unfold impl_Crc_L2 at H
        refine c_seq ?_
        refine c_reg ?_
        refine ow_batch [.p] rfl ?_
        refine ow_nil ?_
        refine x_qs ?_
        refine c_seq ?_
        refine c_if rfl (fun hb => ?_) (fun hb => ?_)
        · have H := of_if_t hb H
          refine c_skip ?_
          refine x_qs ?_
          refine c_seq ?_
          refine c_block ?_
          refine c_seq ?_
          refine c_reg ?_
          refine ow_batch [.p, .p, .p] rfl ?_
          refine ow_nil ?_
          refine x_qs ?_
          refine c_seq ?_
          refine c_reg ?_
          refine ow_batch [.p, .p, .p] rfl ?_
          refine ow_nil ?_
          refine x_qs ?_
          refine c_seq ?_
          refine c_reg ?_
          refine ow_batch [.p, .p] rfl ?_
          refine ow_nil ?_
          refine x_qs ?_
          refine c_if rfl (fun hb => ?_) (fun hb => ?_)
          · have H := of_if_t hb H
            refine c_reg ?_
            refine ow_batch [.p, .p, .p] rfl ?_
            refine ow_nil ?_
            refine x_qb ?_
            refine x_qs ?_
            refine c_reg ?_
            refine ow_batch [.p, .p] rfl ?_
            refine ow_nil ?_
            exact x_ql (RW.at (ihk2 (IntKind.i64.wrap (i29 + 1)) (ibits .xor .i64 (ishr .i64 i30 1) 3988292384) (H)) (fun _ h => St.sel [] rfl rfl h) ⟨rfl, rfl, rfl, rfl, rfl, trivial⟩)
          · have H := of_if_f hb H
            refine c_skip ?_
            refine x_qb ?_
            refine x_qs ?_
            refine c_reg ?_
            refine ow_batch [.p, .p] rfl ?_
            refine ow_nil ?_
            exact x_ql (RW.at (ihk2 (IntKind.i64.wrap (i29 + 1)) (ishr .i64 i30 1) (H)) (fun _ h => St.sel [] rfl rfl h) ⟨rfl, rfl, rfl, rfl, rfl, trivial⟩)
        · have H := of_if_f hb H
          refine c_exit ?_
          refine x_qs_exit ?_
          refine x_ql_exit ?_
          refine x_qb_here ?_
          refine x_qb ?_
          refine x_qs ?_
          refine c_reg ?_
          refine ow_batch [.p, .p] rfl ?_
          refine ow_nil ?_
          exact x_ql (RW.at (ihk1 (i30) (IntKind.i64.wrap (i13 + 1)) (H)) (fun _ h => St.sel [] rfl rfl h) ⟨rfl, rfl, rfl, rfl, trivial⟩)
    · have H := of_if_f hb H
      refine c_exit ?_
      refine x_qs_exit ?_
      refine x_ql_exit ?_
      refine x_qb_here ?_
      refine x_qs ?_
      refine c_seq ?_
      refine c_reg ?_
      refine ow_batch [.p, .p, .p] rfl ?_
      refine ow_nil ?_
      refine x_qs ?_
      refine c_ret ?_
      exact x_retR (rs := [.tmp 2]) (vs := [.int .i64 (ibits .xor .i64 i12 4294967295)]) rfl ⟨rfl, trivial⟩ (fun w' hw' => by
          obtain rfl := of_some H
          exact ⟨rfl, hw'.ext⟩)

set_option maxHeartbeats 4000000 in
set_option maxRecDepth 100000 in
theorem laws_big_ok (w : World) {p0 : List Int} {a_0 : Option Addr} {n_0 c_0 : Nat} {r : Bool} (H : laws_big p0 = some r)  (g0 : (eList (eVal (Value.int .u8) (fun _ => rfl)) 5).rd w [] p0 [.slice a_0 n_0 c_0]) :
    Calls Try.prog 19 #[.slice a_0 n_0 c_0] w (fun en w' => en = .returned (.bool r) ∧ Ext [] w w') := by
  obtain rfl := rd_n g0
  unfold laws_big at H
  refine f_enter (vs := [.slice a_0 p0.length c_0]) Try.func19 rfl Try.ntmps19 rfl (St.init w []) ?_
  refine c_seq ?_
  refine c_reg ?_
  refine ow_batch [.p] rfl ?_
  refine ow_nil ?_
  refine x_qs ?_
  refine c_seq ?_
  refine c_reg ?_
  refine ow_batch [.p, .lenS 22 5 sl22, .p, .p] rfl ?_
  refine ow_nil ?_
  refine x_qs ?_
  refine c_ret ?_
  exact x_retR (rs := [.tmp 2]) (vs := [.bool (decide ((p0.length : Int) > 1048576))]) rfl ⟨rfl, trivial⟩ (fun w' hw' => by
      obtain rfl := of_some H
      exact ⟨rfl, hw'.ext⟩)

set_option maxHeartbeats 4000000 in
set_option maxRecDepth 100000 in
theorem spec_l1New_ok (w : World) {M0 : List Nat} {p0 : List Int} {a_0 : Option Addr} {n_0 c_0 : Nat} {r : Tspec_l1Cur} (H : spec_l1New p0 = some r) (HS : St w M0 [] w) (g0 : (eList (eVal (Value.int .u8) (fun _ => rfl)) 5).rd w M0 p0 [.slice a_0 n_0 c_0]) :
    Calls Try.prog 32 #[.slice a_0 n_0 c_0] w (fun en w' => ∃ v, en = .returned v ∧ ∃ (b0 : Nat), v = .pointer (some ⟨b0, 0, none⟩) ∧ St w M0 [Res.box b0 48 [.slice a_0 n_0 c_0, .int .i64 r.i_, .int .i64 r.h_]] w') := by
  obtain rfl := rd_n g0
  unfold spec_l1New at H
  refine f_enter (vs := [.slice a_0 p0.length c_0]) Try.func32 rfl Try.ntmps32 rfl (HS) ?_
  refine c_seq ?_
  refine c_reg ?_
  refine ow_batch [.p] rfl ?_
  refine ow_nil ?_
  refine x_qs ?_
  refine c_seq ?_
  refine c_reg ?_
  refine ow_batch [.p, .lenS 22 5 sl22, .p, .p] rfl ?_
  refine ow_nil ?_
  refine x_qs ?_
  refine c_seq ?_
  refine c_seq ?_
  refine c_reg ?_
  refine ow_batch [.p] rfl ?_
  refine ow_nil ?_
  refine x_qs ?_
  refine c_block ?_
  refine CW.at (loopI2 (fun (i7 : Int) (i9 : Int) => St w M0 []) (fun (i7 : Int) (i9 : Int) => [(0, .slice a_0 p0.length c_0), (3, .int .i64 i7), (4, .int .i64 i9)]) (fun kk => fun (i7 : Int) (i9 : Int) => spec_l1New_L1 p0 kk i7 i9 = some r) (fun _ _ H => ?_) (fun k1 ihk1 i7 i9 H => ?_) Fuel (IntKind.i64.wrap (26583 + (p0.length : Int))) (0) (H)) (fun _ h => St.sel [] rfl rfl h) ⟨rfl, rfl, rfl,  trivial⟩
  · unfold spec_l1New_L1 at H
    exact absurd H (by simp)
  · unfold spec_l1New_L1 at H
    refine c_seq ?_
    refine c_seq ?_
    refine c_reg ?_
    refine ow_batch [.p, .p, .lenS 22 5 sl22, .p, .p] rfl ?_
    refine ow_cut [(15, .bool ((decide (i9 < (p0.length : Int))) && (decide (i9 < 4000)))), (0, .slice a_0 p0.length c_0), (3, .int .i64 i7), (4, .int .i64 i9)] 3 ?_ (fun key => OW.sub (R := [(0, .slice a_0 p0.length c_0), (3, .int .i64 i7), (4, .int .i64 i9), (12, .bool (decide (i9 < (p0.length : Int))))]) ?_ ⟨rfl, rfl, rfl, rfl, trivial⟩)
    · refine ow_nil ?_
      refine x_qs ?_
      refine c_if rfl (fun hb => ?_) (fun hb => ?_)
      · have H := of_if_t hb H
        refine c_skip ?_
        refine x_qs ?_
        refine c_seq ?_
        refine c_block ?_
        refine c_reg ?_
        refine ow_batch [.p, .p, .p, .p] rfl ?_
        obtain ⟨e19, h20, H⟩ := of_bind H
        refine ow_ixE (e := eVal (Value.int .u8) (fun _ => rfl)) (xs := p0) (j := i9) rfl rfl rfl rfl rfl sl22 ty5 rfl (fun w1 hw1 => rds_bor g0 w1 hw1) h20 (by rw [Nat.mul_one]) ?_
        refine ow_r rfl (dstOk_lt rfl) (ry_load1 rfl rfl ty5 (at_elV (fun w1 hw1 => rds_bor g0 w1 hw1) h20)) ?_
        refine ow_batch [.cv 5 3 .i64 us5 in3, .p, .p, .p, .p] rfl ?_
        refine ow_nil ?_
        refine x_qb ?_
        refine x_qs ?_
        refine c_reg ?_
        refine ow_batch [.p, .p, .p] rfl ?_
        refine ow_nil ?_
        exact x_ql (RW.at (ihk1 (ibits .and .i64 (IntKind.i64.wrap ((IntKind.i64.wrap ((IntKind.i64.wrap (i7 * 131)) + (IntKind.i64.wrap e19))) + 7)) 1073741823) (IntKind.i64.wrap (i9 + 1)) (H)) (fun _ h => St.sel [] rfl rfl h) ⟨rfl, rfl, rfl, trivial⟩)
      · have H := of_if_f hb H
        refine c_exit ?_
        refine x_qs_exit ?_
        refine x_ql_exit ?_
        refine x_qb_here ?_
        refine x_qs ?_
        refine c_seq ?_
        refine c_reg ?_
        refine ow_batch [.p, .p] rfl ?_
        refine ow_r rfl (dstOk_lt rfl) (ry_build2 [(0, [.slice a_0 p0.length c_0]), (2, [.int .i64 i7])] [.slice a_0 p0.length c_0, .int .i64 0, .int .i64 i7] rfl rfl ty48 fs48 rfl ⟨rfl, rfl, Nat.le_of_ble_eq_true rfl, rfl, rfl, Nat.le_of_ble_eq_true rfl,  trivial⟩ rfl) ?_
        refine ow_box (cs := [.slice a_0 p0.length c_0, .int .i64 0, .int .i64 i7]) rfl rfl rfl rfl rfl rfl (fun _ => kp) (fun b21 => ?_)
        refine ow_batch [.p] rfl ?_
        refine ow_nil ?_
        refine x_qs ?_
        refine c_ret ?_
        exact x_retR (rs := [.tmp 2]) (vs := [.pointer (some ⟨b21, 0, none⟩)]) rfl ⟨rfl, trivial⟩ (fun w' hw' => by
            obtain rfl := of_some H
            exact ⟨_, rfl, b21, rfl, hw'.sel [0] rfl rfl⟩)
    · generalize (decide (i9 < (p0.length : Int))) = t18 at key ⊢
      cases t18
      · refine ow_batch [.p, .p, .p] rfl ?_
        exact OW.sub key ⟨rfl, rfl, rfl, rfl, trivial⟩
      · refine ow_batch [.p, .p] rfl ?_
        refine ow_batch [.p] rfl ?_
        exact OW.sub key ⟨rfl, rfl, rfl, rfl, trivial⟩

set_option maxHeartbeats 4000000 in
set_option maxRecDepth 100000 in
theorem spec_l1Byte_ok (w : World) {M0 : List Nat} {p0b : List Int} {p0 : Tspec_l1Cur} {b_0 : Nat} {a_p0b : Option Addr} {n_p0b c_p0b : Nat} {r : Int × Tspec_l1Cur} (H : spec_l1Byte p0b p0 = some r) (HS : St w M0 [Res.box b_0 48 [.slice a_p0b p0b.length c_p0b, .int .i64 p0.i_, .int .i64 p0.h_]] w) (g_p0b : (eList (eVal (Value.int .u8) (fun _ => rfl)) 5).rd w M0 p0b [.slice a_p0b n_p0b c_p0b]) :
    Calls Try.prog 39 #[.pointer (some ⟨b_0, 0, none⟩)] w (fun en w' => ∃ v, en = .returned v ∧ v = .int .i64 r.1 ∧ St w M0 [Res.box b_0 48 [.slice a_p0b n_p0b c_p0b, .int .i64 r.2.i_, .int .i64 r.2.h_]] w') := by
  obtain rfl := rd_n g_p0b
  unfold spec_l1Byte at H
  refine f_enter (vs := [.pointer (some ⟨b_0, 0, none⟩)]) Try.func39 rfl Try.ntmps39 rfl (HS) ?_
  refine c_seq ?_
  refine c_reg ?_
  refine ow_batch [.p] rfl ?_
  refine ow_nil ?_
  refine x_qs ?_
  refine c_seq ?_
  refine c_reg ?_
  refine ow_batch [.p, .p, .p, .fa 48 2 2 fa48_2] rfl ?_
  refine ow_r rfl (dstOk_lt rfl) (ry_box1 (off := 2) rfl rfl ty3 (boxIn (i := 0) rfl) rfl) ?_
  refine ow_batch [.p, .p, .p, .fa 48 2 2 fa48_2] rfl ?_
  refine ow_storeC (off := 2) [.int .i64 (IntKind.i64.wrap ((IntKind.i64.wrap (p0.h_ * 6364136223846793005)) + 1442695040888963407))] [_, _, _] (i := 0) rfl rfl rfl rfl rfl rfl ty3 rfl rfl (by intro u hu; simp only [List.mem_cons, List.not_mem_nil, or_false] at hu; rcases hu with rfl <;> rfl) rfl rfl rfl kp ?_
  refine ow_nil ?_
  refine x_qs ?_
  refine c_seq ?_
  refine c_regQ mixed (by kernel_rfl) ?_
  refine ow_batch [.p, .p, .fa 48 2 2 fa48_2] rfl ?_
  refine ow_r rfl (dstOk_lt rfl) (ry_box1 (off := 2) rfl rfl ty3 (boxIn (i := 0) rfl) rfl) ?_
  refine ow_batch [.p, .p, .p, .fa 48 2 2 fa48_2] rfl ?_
  refine ow_r rfl (dstOk_lt rfl) (ry_box1 (off := 2) rfl rfl ty3 (boxIn (i := 0) rfl) rfl) ?_
  refine ow_batch [.p, .p, .p, .p] rfl ?_
  refine ow_nilQ ?_
  refine x_qs ?_
  refine c_seq ?_
  refine c_seq ?_
  refine c_regQ mixed (by kernel_rfl) ?_
  refine ow_batch [.p, .p, .fa 48 1 1 fa48_1] rfl ?_
  refine ow_r rfl (dstOk_lt rfl) (ry_box1 (off := 1) rfl rfl ty3 (boxIn (i := 0) rfl) rfl) ?_
  refine ow_batch [.p, .p, .fa 48 0 0 fa48_0] rfl ?_
  refine ow_r rfl (dstOk_lt rfl) (ry_box1 (off := 0) rfl rfl ty22 (boxIn (i := 0) rfl) rfl) ?_
  refine ow_batch [.lenS 22 5 sl22, .p] rfl ?_
  refine ow_nilQ ?_
  refine x_qs ?_
  refine c_if rfl (fun hb => ?_) (fun hb => ?_)
  · have H := of_if_t hb H
    refine c_seq ?_
    refine c_regQ mixed (by kernel_rfl) ?_
    refine ow_batch [.p, .p, .p, .fa 48 0 0 fa48_0] rfl ?_
    refine ow_r rfl (dstOk_lt rfl) (ry_box1 (off := 0) rfl rfl ty22 (boxIn (i := 0) rfl) rfl) ?_
    refine ow_batch [.p, .p, .fa 48 1 1 fa48_1] rfl ?_
    refine ow_r rfl (dstOk_lt rfl) (ry_box1 (off := 1) rfl rfl ty3 (boxIn (i := 0) rfl) rfl) ?_
    obtain ⟨e1, h2, H⟩ := of_bind H
    refine ow_ixE (e := eVal (Value.int .u8) (fun _ => rfl)) (xs := p0b) (j := p0.i_) rfl rfl rfl rfl rfl sl22 ty5 rfl (fun w1 hw1 => rds_bor g_p0b w1 hw1) h2 (by rw [Nat.mul_one]) ?_
    refine ow_r rfl (dstOk_lt rfl) (ry_load1 rfl rfl ty5 (at_elV (fun w1 hw1 => rds_bor g_p0b w1 hw1) h2)) ?_
    refine ow_batch [.cv 5 3 .i64 us5 in3, .p, .p, .p] rfl ?_
    refine ow_nilQ ?_
    refine x_qs ?_
    refine c_reg ?_
    refine ow_batch [.p, .p, .p, .fa 48 1 1 fa48_1] rfl ?_
    refine ow_r rfl (dstOk_lt rfl) (ry_box1 (off := 1) rfl rfl ty3 (boxIn (i := 0) rfl) rfl) ?_
    refine ow_batch [.p, .p, .fa 48 1 1 fa48_1] rfl ?_
    refine ow_storeC (off := 1) [.int .i64 (IntKind.i64.wrap (p0.i_ + 1))] [_, _, _] (i := 0) rfl rfl rfl rfl rfl rfl ty3 rfl rfl (by intro u hu; simp only [List.mem_cons, List.not_mem_nil, or_false] at hu; rcases hu with rfl <;> rfl) rfl rfl rfl kp ?_
    refine ow_nil ?_
    refine x_qs ?_
    refine c_seq ?_
    refine c_reg ?_
    refine ow_batch [.p, .p] rfl ?_
    refine ow_nil ?_
    refine x_qs ?_
    refine c_ret ?_
    exact x_retR (rs := [.tmp 2]) (vs := [.int .i64 (ibits .and .i64 (IntKind.i64.wrap ((ibits .and .i64 (ibits .xor .i64 (ishr .i64 (IntKind.i64.wrap ((IntKind.i64.wrap (p0.h_ * 6364136223846793005)) + 1442695040888963407)) 33) (ishr .i64 (IntKind.i64.wrap ((IntKind.i64.wrap (p0.h_ * 6364136223846793005)) + 1442695040888963407)) 45)) 255) + (IntKind.i64.wrap e1))) 255)]) rfl ⟨rfl, trivial⟩ (fun w' hw' => by
        obtain rfl := of_some H
        exact ⟨_, rfl, rfl, hw'.sel [0] rfl rfl⟩)
  · have H := of_if_f hb H
    refine c_skip ?_
    refine x_qs ?_
    refine c_seq ?_
    refine c_reg ?_
    refine ow_batch [.p, .p] rfl ?_
    refine ow_nil ?_
    refine x_qs ?_
    refine c_ret ?_
    exact x_retR (rs := [.tmp 2]) (vs := [.int .i64 (ibits .and .i64 (ibits .xor .i64 (ishr .i64 (IntKind.i64.wrap ((IntKind.i64.wrap (p0.h_ * 6364136223846793005)) + 1442695040888963407)) 33) (ishr .i64 (IntKind.i64.wrap ((IntKind.i64.wrap (p0.h_ * 6364136223846793005)) + 1442695040888963407)) 45)) 255)]) rfl ⟨rfl, trivial⟩ (fun w' hw' => by
        obtain rfl := of_some H
        exact ⟨_, rfl, rfl, hw'.sel [0] rfl rfl⟩)

set_option maxHeartbeats 4000000 in
set_option maxRecDepth 100000 in
theorem spec_l1Below_ok (w : World) {M0 : List Nat} {p0b : List Int} {p0 : Tspec_l1Cur} {p1 : Int} {b_0 : Nat} {a_p0b : Option Addr} {n_p0b c_p0b : Nat} {r : Int × Tspec_l1Cur} (H : spec_l1Below p0b p0 p1 = some r) (HS : St w M0 [Res.box b_0 48 [.slice a_p0b p0b.length c_p0b, .int .i64 p0.i_, .int .i64 p0.h_]] w) (g_p0b : (eList (eVal (Value.int .u8) (fun _ => rfl)) 5).rd w M0 p0b [.slice a_p0b n_p0b c_p0b]) :
    Calls Try.prog 40 #[.pointer (some ⟨b_0, 0, none⟩), .int .i64 p1] w (fun en w' => ∃ v, en = .returned v ∧ v = .int .i64 r.1 ∧ St w M0 [Res.box b_0 48 [.slice a_p0b n_p0b c_p0b, .int .i64 r.2.i_, .int .i64 r.2.h_]] w') := by
  obtain rfl := rd_n g_p0b
  unfold spec_l1Below at H
  refine f_enter (vs := [.pointer (some ⟨b_0, 0, none⟩), .int .i64 p1]) Try.func40 rfl Try.ntmps40 rfl (HS) ?_
  refine c_seq ?_
  refine c_reg ?_
  refine ow_batch [.p] rfl ?_
  refine ow_nil ?_
  refine x_qs ?_
  refine c_seq ?_
  refine c_seq ?_
  refine c_reg ?_
  refine ow_batch [.p, .p] rfl ?_
  refine ow_nil ?_
  refine x_qs ?_
  refine c_if rfl (fun hb => ?_) (fun hb => ?_)
  · have H := of_if_t hb H
    refine c_seq ?_
    refine c_reg ?_
    refine ow_batch [.p] rfl ?_
    refine ow_nil ?_
    refine x_qs ?_
    refine c_ret ?_
    refine x_qs_ret ?_
    exact x_retR (rs := [.tmp 4]) (vs := [.int .i64 0]) rfl ⟨rfl, trivial⟩ (fun w' hw' => by
        obtain rfl := of_some H
        exact ⟨_, rfl, rfl, hw'.sel [0] rfl rfl⟩)
  · have H := of_if_f hb H
    refine c_skip ?_
    refine x_qs ?_
    refine c_seq ?_
    refine c_seq ?_
    refine c_reg ?_
    refine ow_batch [.p, .p] rfl ?_
    refine ow_nil ?_
    refine x_qs ?_
    refine c_if rfl (fun hb => ?_) (fun hb => ?_)
    · have H := of_if_t hb H
      refine c_seq ?_
      refine c_reg ?_
      refine ow_batch [.p] rfl ?_
      obtain ⟨y1, h2, H⟩ := of_bind H
      refine ow_callS rfl fn39 rfl rfl rfl rfl (fun w1 hw1 => spec_l1Byte_ok w1  h2 (hw1.carve [0] rfl rfl) (rdB [0] rfl rfl hw1 g_p0b)) (fun v3 w1 w2 hw1 hR5 => ?_)
      obtain ⟨rfl, hS4⟩ := hR5
      refine ⟨St w M0 [_, _], hw1.comp [0] rfl rfl hS4, fun _ _ => trivial, ?_⟩
      refine ow_batch [.p] rfl ?_
      obtain ⟨x6, h7, H⟩ := of_bind H
      refine ow_r rfl (dstOk_lt rfl) (ry_rem rfl rfl rfl h7) ?_
      refine ow_batch [.p] rfl ?_
      refine ow_nil ?_
      refine x_qs ?_
      refine c_ret ?_
      refine x_qs_ret ?_
      exact x_retR (rs := [.tmp 4]) (vs := [.int .i64 x6]) rfl ⟨rfl, trivial⟩ (fun w' hw' => by
          obtain rfl := of_some H
          exact ⟨_, rfl, rfl, hw'.sel [1] rfl rfl⟩)
    · have H := of_if_f hb H
      refine c_skip ?_
      refine x_qs ?_
      refine c_seq ?_
      refine c_reg ?_
      refine ow_batch [.p] rfl ?_
      obtain ⟨y8, h9, H⟩ := of_bind H
      refine ow_callS rfl fn39 rfl rfl rfl rfl (fun w1 hw1 => spec_l1Byte_ok w1  h9 (hw1.carve [0] rfl rfl) (rdB [0] rfl rfl hw1 g_p0b)) (fun v10 w1 w2 hw1 hR12 => ?_)
      obtain ⟨rfl, hS11⟩ := hR12
      refine ⟨St w M0 [_, _], hw1.comp [0] rfl rfl hS11, fun _ _ => trivial, ?_⟩
      refine ow_batch [.p] rfl ?_
      refine ow_nil ?_
      refine x_qs ?_
      refine c_seq ?_
      refine c_reg ?_
      refine ow_batch [.p] rfl ?_
      obtain ⟨y13, h14, H⟩ := of_bind H
      refine ow_callS rfl fn39 rfl rfl rfl rfl (fun w1 hw1 => spec_l1Byte_ok w1  h14 (hw1.carve [1] rfl rfl) (rdB [1] rfl rfl hw1 g_p0b)) (fun v15 w1 w2 hw1 hR17 => ?_)
      obtain ⟨rfl, hS16⟩ := hR17
      refine ⟨St w M0 [_, _, _], hw1.comp [1] rfl rfl hS16, fun _ _ => trivial, ?_⟩
      refine ow_batch [.p] rfl ?_
      refine ow_nil ?_
      refine x_qs ?_
      refine c_seq ?_
      refine CW.weak (C' := St w M0 [_]) ?_ (fun _ h => St.sel [2] rfl rfl h)
      refine c_reg ?_
      refine ow_batch [.p] rfl ?_
      obtain ⟨y18, h19, H⟩ := of_bind H
      refine ow_callS rfl fn39 rfl rfl rfl rfl (fun w1 hw1 => spec_l1Byte_ok w1  h19 (hw1.carve [0] rfl rfl) (rdB [0] rfl rfl hw1 g_p0b)) (fun v20 w1 w2 hw1 hR22 => ?_)
      obtain ⟨rfl, hS21⟩ := hR22
      refine ⟨St w M0 [_, _], hw1.comp [0] rfl rfl hS21, fun _ _ => trivial, ?_⟩
      refine ow_batch [.p] rfl ?_
      refine ow_nil ?_
      refine x_qs ?_
      refine c_seq ?_
      refine c_reg ?_
      refine ow_batch [.p] rfl ?_
      obtain ⟨y23, h24, H⟩ := of_bind H
      refine ow_callS rfl fn39 rfl rfl rfl rfl (fun w1 hw1 => spec_l1Byte_ok w1  h24 (hw1.carve [1] rfl rfl) (rdB [1] rfl rfl hw1 g_p0b)) (fun v25 w1 w2 hw1 hR27 => ?_)
      obtain ⟨rfl, hS26⟩ := hR27
      refine ⟨St w M0 [_, _, _], hw1.comp [1] rfl rfl hS26, fun _ _ => trivial, ?_⟩
      refine ow_batch [.p] rfl ?_
      refine ow_nil ?_
      refine x_qs ?_
      refine c_seq ?_
      refine CW.weak (C' := St w M0 [_]) ?_ (fun _ h => St.sel [2] rfl rfl h)
      refine c_reg ?_
      refine ow_batch [.p, .p, .p, .p, .p, .p, .p, .p, .p, .p, .p] rfl ?_
      obtain ⟨x28, h29, H⟩ := of_bind H
      refine ow_r rfl (dstOk_lt rfl) (ry_rem rfl rfl rfl h29) ?_
      refine ow_batch [.p] rfl ?_
      refine ow_nil ?_
      refine x_qs ?_
      refine c_ret ?_
      exact x_retR (rs := [.tmp 4]) (vs := [.int .i64 x28]) rfl ⟨rfl, trivial⟩ (fun w' hw' => by
          obtain rfl := of_some H
          exact ⟨_, rfl, rfl, hw'.sel [0] rfl rfl⟩)

set_option maxHeartbeats 4000000 in
set_option maxRecDepth 100000 in
theorem spec_l1PickInt_ok (w : World) {M0 : List Nat} {p0b : List Int} {p0 : Tspec_l1Cur} {p1 : List Int} {b_0 : Nat} {a_p0b : Option Addr} {n_p0b c_p0b : Nat} {a_1 : Option Addr} {n_1 c_1 : Nat} {r : Int × Tspec_l1Cur} (H : spec_l1PickInt p0b p0 p1 = some r) (HS : St w M0 [Res.box b_0 48 [.slice a_p0b p0b.length c_p0b, .int .i64 p0.i_, .int .i64 p0.h_]] w) (g_p0b : (eList (eVal (Value.int .u8) (fun _ => rfl)) 5).rd w M0 p0b [.slice a_p0b n_p0b c_p0b]) (g1 : (eList (eVal (Value.int .i64) (fun _ => rfl)) 3).rd w M0 p1 [.slice a_1 n_1 c_1]) :
    Calls Try.prog 34 #[.pointer (some ⟨b_0, 0, none⟩), .slice a_1 n_1 c_1] w (fun en w' => ∃ v, en = .returned v ∧ v = .int .i64 r.1 ∧ St w M0 [Res.box b_0 48 [.slice a_p0b n_p0b c_p0b, .int .i64 r.2.i_, .int .i64 r.2.h_]] w') := by
  obtain rfl := rd_n g_p0b
  obtain rfl := rd_n g1
  unfold spec_l1PickInt at H
  refine f_enter (vs := [.pointer (some ⟨b_0, 0, none⟩), .slice a_1 p1.length c_1]) Try.func34 rfl Try.ntmps34 rfl (HS) ?_
  refine c_seq ?_
  refine c_reg ?_
  refine ow_batch [.p] rfl ?_
  refine ow_nil ?_
  refine x_qs ?_
  refine c_seq ?_
  refine c_reg ?_
  refine ow_batch [.p, .p, .p, .lenS 44 3 sl44] rfl ?_
  obtain ⟨y1, h2, H⟩ := of_bind H
  refine ow_callS rfl fn40 rfl rfl rfl rfl (fun w1 hw1 => spec_l1Below_ok w1  h2 (hw1.carve [0] rfl rfl) (rdB [0] rfl rfl hw1 g_p0b)) (fun v3 w1 w2 hw1 hR5 => ?_)
  obtain ⟨rfl, hS4⟩ := hR5
  refine ⟨St w M0 [_, _], hw1.comp [0] rfl rfl hS4, fun _ _ => trivial, ?_⟩
  obtain ⟨e6, h7, H⟩ := of_bind H
  refine ow_ixE (e := eVal (Value.int .i64) (fun _ => rfl)) (xs := p1) (j := y1.1) rfl rfl rfl rfl rfl sl44 ty3 rfl (fun w1 hw1 => rds_bor g1 w1 hw1) h7 (by rw [Nat.mul_one]) ?_
  refine ow_r rfl (dstOk_lt rfl) (ry_load1 rfl rfl ty3 (at_elV (fun w1 hw1 => rds_bor g1 w1 hw1) h7)) ?_
  refine ow_batch [.p] rfl ?_
  refine ow_nil ?_
  refine x_qs ?_
  refine c_ret ?_
  exact x_retR (rs := [.tmp 4]) (vs := [.int .i64 e6]) rfl ⟨rfl, trivial⟩ (fun w' hw' => by
      obtain rfl := of_some H
      exact ⟨_, rfl, rfl, hw'.sel [1] rfl rfl⟩)

set_option maxHeartbeats 4000000 in
set_option maxRecDepth 100000 in
theorem spec_l15Bytes_ok (w : World) {M0 : List Nat} {p0b : List Int} {p0 : Tspec_l1Cur} {p1 : Int} {b_0 : Nat} {a_p0b : Option Addr} {n_p0b c_p0b : Nat} {r : (List Int) × Tspec_l1Cur} (H : spec_l15Bytes p0b p0 p1 = some r) (HS : St w M0 [Res.box b_0 48 [.slice a_p0b p0b.length c_p0b, .int .i64 p0.i_, .int .i64 p0.h_]] w) (g_p0b : (eList (eVal (Value.int .u8) (fun _ => rfl)) 5).rd w M0 p0b [.slice a_p0b n_p0b c_p0b]) :
    Calls Try.prog 33 #[.pointer (some ⟨b_0, 0, none⟩), .int .i64 p1] w (fun en w' => ∃ v, en = .returned v ∧ ∃ (a0 : Option Addr), ∃ (n0 : Nat), ∃ (c0 : Nat), ∃ (F0 : List Nat), v = .slice a0 n0 c0 ∧ St w M0 [Res.own (eList (eVal (Value.int .u8) (fun _ => rfl)) 5) F0 r.1 [.slice a0 n0 c0], Res.box b_0 48 [.slice a_p0b n_p0b c_p0b, .int .i64 r.2.i_, .int .i64 r.2.h_]] w') := by
  obtain rfl := rd_n g_p0b
  unfold spec_l15Bytes at H
  refine f_enter (vs := [.pointer (some ⟨b_0, 0, none⟩), .int .i64 p1]) Try.func33 rfl Try.ntmps33 rfl (HS) ?_
  refine c_seq ?_
  refine c_reg ?_
  refine ow_batch [.p] rfl ?_
  refine ow_nil ?_
  refine x_qs ?_
  refine c_seq ?_
  refine c_reg ?_
  refine ow_blit0 (e := eVal (Value.int .u8) (fun _ => rfl)) rfl rfl rfl rfl sl22 ty5 (fun _ => kp) (fun b1 => ?_)
  refine ow_batch [.p] rfl ?_
  refine ow_nil ?_
  refine x_qs ?_
  refine c_seq ?_
  refine c_seq ?_
  refine c_reg ?_
  refine ow_batch [.p] rfl ?_
  refine ow_nil ?_
  refine x_qs ?_
  refine c_block ?_
  refine CW.at (loopI7 (fun (i21 : Int) (i22 : Int) (l23 : List Int) (a24 : Option Addr) (c25 : Nat) (F26 : List Nat) (i27 : Int) => St w M0 [Res.box b_0 48 [.slice a_p0b p0b.length c_p0b, .int .i64 i21, .int .i64 i22], Res.own (eList (eVal (Value.int .u8) (fun _ => rfl)) 5) F26 l23 [.slice a24 l23.length c25]]) (fun (i21 : Int) (i22 : Int) (l23 : List Int) (a24 : Option Addr) (c25 : Nat) (F26 : List Nat) (i27 : Int) => [(0, .pointer (some ⟨b_0, 0, none⟩)), (1, .int .i64 p1), (5, .slice a24 l23.length c25), (6, .int .i64 i27)]) (fun kk => fun (i21 : Int) (i22 : Int) (l23 : List Int) (a24 : Option Addr) (c25 : Nat) (F26 : List Nat) (i27 : Int) => spec_l15Bytes_L1 p1 p0b kk i21 i22 l23 i27 = some r) (fun _ _ _ _ _ _ _ H => ?_) (fun k1 ihk1 i21 i22 l23 a24 c25 F26 i27 H => ?_) Fuel (p0.i_) (p0.h_) (([] : List Int)) ((some ⟨b1, 0, none⟩)) (0) ([b1]) (0) (H)) (fun _ h => St.sel [0, 1] rfl rfl h) ⟨rfl, rfl, rfl, rfl,  trivial⟩
  · unfold spec_l15Bytes_L1 at H
    exact absurd H (by simp)
  · unfold spec_l15Bytes_L1 at H
    refine c_seq ?_
    refine c_seq ?_
    refine c_reg ?_
    refine ow_batch [.p, .p, .p] rfl ?_
    refine ow_nil ?_
    refine x_qs ?_
    refine c_if rfl (fun hb => ?_) (fun hb => ?_)
    · have H := of_if_t hb H
      refine c_skip ?_
      refine x_qs ?_
      refine c_seq ?_
      refine c_block ?_
      refine c_reg ?_
      refine ow_batch [.p, .p] rfl ?_
      obtain ⟨y47, h48, H⟩ := of_bind H
      refine ow_callS rfl fn39 rfl rfl rfl rfl (fun w1 hw1 => spec_l1Byte_ok w1  h48 (hw1.carve [0] rfl rfl) (rdB [0] rfl rfl hw1 g_p0b)) (fun v49 w1 w2 hw1 hR51 => ?_)
      obtain ⟨rfl, hS50⟩ := hR51
      refine ⟨St w M0 [_, _, _], hw1.comp [0] rfl rfl hS50, fun _ _ => trivial, ?_⟩
      refine ow_batch [.cv 3 5 .u8 us3 in5] rfl ?_
      refine ow_blit (val := Value.int .u8) (h1 := fun _ => rfl) [IntKind.u8.wrap y47.1] [(0, [.int .u8 (IntKind.u8.wrap y47.1)])] rfl rfl rfl rfl rfl sl22 ty5 rfl rfl rfl ⟨rfl, rfl, Nat.le_of_ble_eq_true rfl,  trivial⟩ rfl rfl (fun _ => kp) (fun b52 => ?_)
      obtain ⟨l53, h54, H⟩ := of_bind H
      refine ow_appR (r := 1) (ys := ([IntKind.u8.wrap y47.1] : List Int)) rfl rfl rfl rfl rfl rfl sl22 ty5 rfl rfl rfl (fun w1 hw1 => rds_own (r := 3) rfl w1 hw1) h54 (fun _ _ _ => kp) (fun a55 c56 F57 => ?_)
      refine ow_fact rfl (fun w1 hw1 => own_nn (i := 1) hw1 rfl (app_ne h54)) (fun hz58 => ?_)
      refine ow_batch [.p] rfl ?_
      refine ow_nil ?_
      refine x_qb ?_
      refine x_qs ?_
      refine c_reg ?_
      refine ow_batch [.p, .p, .p] rfl ?_
      refine ow_nil ?_
      exact x_ql (RW.at (ihk1 (y47.2.i_) (y47.2.h_) (l53) (a55) (c56) (F57) (IntKind.i64.wrap (i27 + 1)) (H)) (fun _ h => St.sel [2, 1] rfl rfl h) ⟨rfl, rfl, rfl, rfl, trivial⟩)
    · have H := of_if_f hb H
      refine c_exit ?_
      refine x_qs_exit ?_
      refine x_ql_exit ?_
      refine x_qb_here ?_
      refine x_qs ?_
      refine c_seq ?_
      refine c_reg ?_
      refine ow_batch [.p, .p] rfl ?_
      refine ow_nil ?_
      refine x_qs ?_
      refine c_ret ?_
      exact x_retR (rs := [.tmp 4]) (vs := [.slice a24 l23.length c25]) rfl ⟨rfl, trivial⟩ (fun w' hw' => by
          obtain rfl := of_some H
          exact ⟨_, rfl, a24, l23.length, c25, F26, rfl, hw'.sel [1, 0] rfl rfl⟩)

set_option maxHeartbeats 4000000 in
set_option maxRecDepth 100000 in
theorem spec_DrawCrc_ok (w : World) {M0 : List Nat} {p0 : List Int} {a_0 : Option Addr} {n_0 c_0 : Nat} {r : List Int} (H : spec_DrawCrc p0 = some r) (HS : St w M0 [] w) (g0 : (eList (eVal (Value.int .u8) (fun _ => rfl)) 5).rd w M0 p0 [.slice a_0 n_0 c_0]) :
    Calls Try.prog 20 #[.slice a_0 n_0 c_0] w (fun en w' => ∃ v, en = .returned v ∧ ∃ (a0 : Option Addr), ∃ (n0 : Nat), ∃ (c0 : Nat), ∃ (F0 : List Nat), v = .slice a0 n0 c0 ∧ St w M0 [Res.own (eList (eVal (Value.int .u8) (fun _ => rfl)) 5) F0 r [.slice a0 n0 c0]] w') := by
  obtain rfl := rd_n g0
  unfold spec_DrawCrc at H
  refine f_enter (vs := [.slice a_0 p0.length c_0]) Try.func20 rfl Try.ntmps20 rfl (HS) ?_
  refine c_seq ?_
  refine c_reg ?_
  refine ow_batch [.p] rfl ?_
  refine ow_nil ?_
  refine x_qs ?_
  refine c_seq ?_
  refine c_reg ?_
  refine ow_batch [.p] rfl ?_
  obtain ⟨y1, h2, H⟩ := of_bind H
  refine ow_callS rfl fn32 rfl rfl rfl rfl (fun w1 hw1 => spec_l1New_ok w1  h2 (hw1.carve [] rfl rfl) (rds_bor g0 w1 hw1)) (fun v3 w1 w2 hw1 hR5 => ?_)
  obtain ⟨b6, rfl, hS4⟩ := hR5
  refine ⟨St w M0 [_], hw1.comp [] rfl rfl hS4, fun _ _ => trivial, ?_⟩
  refine ow_batch [.p] rfl ?_
  refine ow_nil ?_
  refine x_qs ?_
  refine c_seq ?_
  refine c_reg ?_
  refine ow_batch [.p, .p] rfl ?_
  refine ow_blit (val := Value.int .i64) (h1 := fun _ => rfl) [0, 1, 4, 9, 40] [(0, [.int .i64 0]), (1, [.int .i64 1]), (2, [.int .i64 4]), (3, [.int .i64 9]), (4, [.int .i64 40])] rfl rfl rfl rfl rfl sl44 ty3 rfl rfl rfl ⟨rfl, rfl, Nat.le_of_ble_eq_true rfl, rfl, rfl, Nat.le_of_ble_eq_true rfl, rfl, rfl, Nat.le_of_ble_eq_true rfl, rfl, rfl, Nat.le_of_ble_eq_true rfl, rfl, rfl, Nat.le_of_ble_eq_true rfl,  trivial⟩ rfl rfl (fun _ => kp) (fun b7 => ?_)
  obtain ⟨y8, h9, H⟩ := of_bind H
  refine ow_callS rfl fn34 rfl rfl rfl rfl (fun w1 hw1 => spec_l1PickInt_ok w1  h9 (hw1.carve [0] rfl rfl) (rdB [0] rfl rfl hw1 g0) (rdO 1 [0] rfl hw1 rfl rfl)) (fun v10 w1 w2 hw1 hR12 => ?_)
  obtain ⟨rfl, hS11⟩ := hR12
  refine ⟨St w M0 [_, _, _], hw1.comp [0] rfl rfl hS11, fun _ _ => trivial, ?_⟩
  obtain ⟨y13, h14, H⟩ := of_bind H
  refine ow_callS rfl fn33 rfl rfl rfl rfl (fun w1 hw1 => spec_l15Bytes_ok w1  h14 (hw1.carve [2] rfl rfl) (rdB [2] rfl rfl hw1 g0)) (fun v15 w1 w2 hw1 hR17 => ?_)
  obtain ⟨a18, n19, c20, F21, rfl, hS16⟩ := hR17
  obtain rfl := own_nS (i := 0) hS16 rfl
  refine ⟨St w M0 [_, _, _, _, _], hw1.comp [2] rfl rfl hS16, fun _ _ => trivial, ?_⟩
  refine ow_batch [.p] rfl ?_
  refine ow_nil ?_
  refine x_qs ?_
  refine c_ret ?_
  exact x_retR (rs := [.tmp 2]) (vs := [.slice a18 y13.1.length c20]) rfl ⟨rfl, trivial⟩ (fun w' hw' => by
      obtain rfl := of_some H
      exact ⟨_, rfl, a18, y13.1.length, c20, F21, rfl, hw'.sel [3] rfl rfl⟩)

set_option maxHeartbeats 4000000 in
set_option maxRecDepth 100000 in
theorem laws_at0_ok (w : World) {p0 : List Int} {p1 : Int} {a_0 : Option Addr} {n_0 c_0 : Nat} {r : Int} (H : laws_at0 p0 p1 = some r)  (g0 : (eList (eVal (Value.int .u8) (fun _ => rfl)) 5).rd w [] p0 [.slice a_0 n_0 c_0]) :
    Calls Try.prog 21 #[.slice a_0 n_0 c_0, .int .i64 p1] w (fun en w' => en = .returned (.int .i64 r) ∧ Ext [] w w') := by
  obtain rfl := rd_n g0
  unfold laws_at0 at H
  refine f_enter (vs := [.slice a_0 p0.length c_0, .int .i64 p1]) Try.func21 rfl Try.ntmps21 rfl (St.init w []) ?_
  refine c_seq ?_
  refine c_reg ?_
  refine ow_batch [.p] rfl ?_
  refine ow_nil ?_
  refine x_qs ?_
  refine c_seq ?_
  refine c_seq ?_
  refine c_reg ?_
  refine ow_batch [.p, .p, .lenS 22 5 sl22, .p] rfl ?_
  refine ow_nil ?_
  refine x_qs ?_
  refine c_if rfl (fun hb => ?_) (fun hb => ?_)
  · have H := of_if_t hb H
    refine c_seq ?_
    refine c_reg ?_
    refine ow_batch [.p, .p] rfl ?_
    obtain ⟨e1, h2, H⟩ := of_bind H
    refine ow_ixE (e := eVal (Value.int .u8) (fun _ => rfl)) (xs := p0) (j := p1) rfl rfl rfl rfl rfl sl22 ty5 rfl (fun w1 hw1 => rds_bor g0 w1 hw1) h2 (by rw [Nat.mul_one]) ?_
    refine ow_r rfl (dstOk_lt rfl) (ry_load1 rfl rfl ty5 (at_elV (fun w1 hw1 => rds_bor g0 w1 hw1) h2)) ?_
    refine ow_batch [.cv 5 3 .i64 us5 in3, .p] rfl ?_
    refine ow_nil ?_
    refine x_qs ?_
    refine c_ret ?_
    refine x_qs_ret ?_
    exact x_retR (rs := [.tmp 4]) (vs := [.int .i64 (IntKind.i64.wrap e1)]) rfl ⟨rfl, trivial⟩ (fun w' hw' => by
        obtain rfl := of_some H
        exact ⟨rfl, hw'.ext⟩)
  · have H := of_if_f hb H
    refine c_skip ?_
    refine x_qs ?_
    refine c_seq ?_
    refine c_reg ?_
    refine ow_batch [.p, .p, .p, .lenS 22 5 sl22, .p, .p, .p] rfl ?_
    refine ow_nil ?_
    refine x_qs ?_
    refine c_ret ?_
    exact x_retR (rs := [.tmp 4]) (vs := [.int .i64 (Int.tmod (IntKind.i64.wrap ((IntKind.i64.wrap (p1 * 7)) + (p0.length : Int))) 256)]) rfl ⟨rfl, trivial⟩ (fun w' hw' => by
        obtain rfl := of_some H
        exact ⟨rfl, hw'.ext⟩)

set_option maxHeartbeats 4000000 in
set_option maxRecDepth 100000 in
theorem laws_bit_ok (w : World) {p0 : Int}  {r : Int} (H : laws_bit p0 = some r)   :
    Calls Try.prog 22 #[.int .i64 p0] w (fun en w' => en = .returned (.int .u8 r) ∧ Ext [] w w') := by
  unfold laws_bit at H
  refine f_enter (vs := [.int .i64 p0]) Try.func22 rfl Try.ntmps22 rfl (St.init w []) ?_
  refine c_seq ?_
  refine c_reg ?_
  refine ow_batch [.p] rfl ?_
  refine ow_nil ?_
  refine x_qs ?_
  refine c_seq ?_
  refine c_reg ?_
  refine ow_batch [.p] rfl ?_
  refine ow_nil ?_
  refine x_qs ?_
  refine c_seq ?_
  refine c_seq ?_
  refine c_reg ?_
  refine ow_batch [.p] rfl ?_
  refine ow_nil ?_
  refine x_qs ?_
  refine c_block ?_
  refine CW.at (loopI2 (fun (i3 : Int) (i4 : Int) => St w [] []) (fun (i3 : Int) (i4 : Int) => [(0, .int .i64 p0), (3, .int .i64 i3), (4, .int .i64 i4)]) (fun kk => fun (i3 : Int) (i4 : Int) => laws_bit_L1 p0 kk i3 i4 = some r) (fun _ _ H => ?_) (fun k1 ihk1 i3 i4 H => ?_) Fuel (1) (0) (H)) (fun _ h => St.sel [] rfl rfl h) ⟨rfl, rfl, rfl,  trivial⟩
  · unfold laws_bit_L1 at H
    exact absurd H (by simp)
  · unfold laws_bit_L1 at H
    refine c_seq ?_
    refine c_seq ?_
    refine c_reg ?_
    refine ow_batch [.p, .p, .p, .p] rfl ?_
    refine ow_nil ?_
    refine x_qs ?_
    refine c_if rfl (fun hb => ?_) (fun hb => ?_)
    · have H := of_if_t hb H
      refine c_skip ?_
      refine x_qs ?_
      refine c_seq ?_
      refine c_block ?_
      refine c_reg ?_
      refine ow_batch [.p, .p, .p] rfl ?_
      refine ow_nil ?_
      refine x_qb ?_
      refine x_qs ?_
      refine c_reg ?_
      refine ow_batch [.p, .p, .p] rfl ?_
      refine ow_nil ?_
      exact x_ql (RW.at (ihk1 (IntKind.i64.wrap (2 * i3)) (IntKind.i64.wrap (i4 + 1)) (H)) (fun _ h => St.sel [] rfl rfl h) ⟨rfl, rfl, rfl, trivial⟩)
    · have H := of_if_f hb H
      refine c_exit ?_
      refine x_qs_exit ?_
      refine x_ql_exit ?_
      refine x_qb_here ?_
      refine x_qs ?_
      refine c_seq ?_
      refine c_reg ?_
      refine ow_batch [.p, .cv 3 5 .u8 us3 in5, .p] rfl ?_
      refine ow_nil ?_
      refine x_qs ?_
      refine c_ret ?_
      exact x_retR (rs := [.tmp 2]) (vs := [.int .u8 (IntKind.u8.wrap i3)]) rfl ⟨rfl, trivial⟩ (fun w' hw' => by
          obtain rfl := of_some H
          exact ⟨rfl, hw'.ext⟩)

set_option maxHeartbeats 4000000 in
set_option maxRecDepth 100000 in
theorem laws_FnCrc_ok (w : World) {p0 : List Int} {a_0 : Option Addr} {n_0 c_0 : Nat} {r : Bool} (H : laws_FnCrc p0 = some r)  (g0 : (eList (eVal (Value.int .u8) (fun _ => rfl)) 5).rd w [] p0 [.slice a_0 n_0 c_0]) :
    Calls Try.prog 6 #[.slice a_0 n_0 c_0] w (fun en w' => en = .returned (.bool r) ∧ Ext [] w w') := by
  obtain rfl := rd_n g0
  unfold laws_FnCrc at H
  refine f_enter (vs := [.slice a_0 p0.length c_0]) Try.func6 rfl Try.ntmps6 rfl (St.init w []) ?_
  refine c_seq ?_
  refine c_reg ?_
  refine ow_batch [.p] rfl ?_
  refine ow_nil ?_
  refine x_qs ?_
  refine c_seq ?_
  refine c_seq ?_
  refine c_reg ?_
  refine ow_batch [.p] rfl ?_
  obtain ⟨y1, h2, H⟩ := of_bind H
  refine ow_q rfl rfl (dstOk_lt rfl) (qy_call rfl fn19 rfl (fun w1 hw1 => laws_big_ok w1  h2 (rds_bor g0 w1 hw1))) (fun _ _ => trivial) ?_
  refine ow_nil ?_
  refine x_qs ?_
  refine c_if rfl (fun hb => ?_) (fun hb => ?_)
  · have H := of_if_t hb H
    refine c_seq ?_
    refine c_reg ?_
    refine ow_batch [.p] rfl ?_
    refine ow_nil ?_
    refine x_qs ?_
    refine c_ret ?_
    refine x_qs_ret ?_
    exact x_retR (rs := [.tmp 2]) (vs := [.bool true]) rfl ⟨rfl, trivial⟩ (fun w' hw' => by
        obtain rfl := of_some H
        exact ⟨rfl, hw'.ext⟩)
  · have H := of_if_f hb H
    refine c_skip ?_
    refine x_qs ?_
    refine c_seq ?_
    refine c_reg ?_
    refine ow_batch [.p] rfl ?_
    obtain ⟨y3, h4, H⟩ := of_bind H
    refine ow_callS rfl fn20 rfl rfl rfl rfl (fun w1 hw1 => spec_DrawCrc_ok w1  h4 (hw1.carve [] rfl rfl) (rds_bor g0 w1 hw1)) (fun v5 w1 w2 hw1 hR7 => ?_)
    obtain ⟨a8, n9, c10, F11, rfl, hS6⟩ := hR7
    obtain rfl := own_nS (i := 0) hS6 rfl
    refine ⟨St w [] [_], hw1.comp [] rfl rfl hS6, fun _ _ => trivial, ?_⟩
    refine ow_batch [.p] rfl ?_
    refine ow_nil ?_
    refine x_qs ?_
    refine c_seq ?_
    refine c_seq ?_
    refine c_reg ?_
    refine ow_batch [.p, .lenS 22 5 sl22, .p] rfl ?_
    refine ow_nil ?_
    refine x_qs ?_
    refine c_if rfl (fun hb => ?_) (fun hb => ?_)
    · have H := of_if_t hb H
      refine c_seq ?_
      refine c_reg ?_
      refine ow_batch [.p] rfl ?_
      obtain ⟨y12, h13, H⟩ := of_bind H
      refine ow_q rfl rfl (dstOk_lt rfl) (qy_call rfl fn14 rfl (fun w1 hw1 => impl_Crc_ok w1  h13 (rds_own (r := 0) rfl w1 hw1))) (fun _ _ => trivial) ?_
      refine ow_batch [.p, .p] rfl ?_
      refine ow_nil ?_
      refine x_qs ?_
      refine c_ret ?_
      refine x_qs_ret ?_
      exact x_retR (rs := [.tmp 2]) (vs := [.bool (y12 == 0)]) rfl ⟨rfl, trivial⟩ (fun w' hw' => by
          obtain rfl := of_some H
          exact ⟨rfl, hw'.ext⟩)
    · have H := of_if_f hb H
      refine c_skip ?_
      refine x_qs ?_
      refine c_seq ?_
      refine c_reg ?_
      refine ow_blit0 (e := eVal (Value.int .u8) (fun _ => rfl)) rfl rfl rfl rfl sl22 ty5 (fun _ => kp) (fun b14 => ?_)
      refine ow_batch [.p] rfl ?_
      obtain ⟨l15, h16, H⟩ := of_bind H
      refine ow_appR (r := 1) (ys := y3) rfl rfl rfl rfl rfl rfl sl22 ty5 rfl rfl rfl (fun w1 hw1 => rds_own (r := 0) rfl w1 hw1) h16 (fun _ _ _ => kp) (fun a17 c18 F19 => ?_)
      refine ow_batch [.p] rfl ?_
      refine ow_nil ?_
      refine x_qs ?_
      refine c_seq ?_
      refine c_reg ?_
      refine ow_batch [.p] rfl ?_
      obtain ⟨y20, h21, H⟩ := of_bind H
      refine ow_q rfl rfl (dstOk_lt rfl) (qy_call rfl fn21 rfl (fun w1 hw1 => laws_at0_ok w1  h21 (rds_bor g0 w1 hw1))) (fun _ _ => trivial) ?_
      refine ow_batch [.p, .p] rfl ?_
      obtain ⟨y22, h23, H⟩ := of_bind H
      refine ow_q rfl rfl (dstOk_lt rfl) (qy_call rfl fn21 rfl (fun w1 hw1 => laws_at0_ok w1  h23 (rds_bor g0 w1 hw1))) (fun _ _ => trivial) ?_
      refine ow_batch [.p, .p, .lenS 22 5 sl22] rfl ?_
      obtain ⟨x24, h25, H⟩ := of_bind H
      refine ow_r rfl (dstOk_lt rfl) (ry_rem rfl rfl rfl h25) ?_
      refine ow_batch [.p] rfl ?_
      refine ow_nil ?_
      refine x_qs ?_
      refine c_seq ?_
      refine c_regT 11 mixed (by kernel_rfl) ?_
      refine ow_batch [.p, .p, .p, .p] rfl ?_
      obtain ⟨e26, h27, H⟩ := of_bind H
      refine ow_ixE (e := eVal (Value.int .u8) (fun _ => rfl)) (xs := l15) (j := x24) rfl rfl rfl rfl rfl sl22 ty5 rfl (fun w1 hw1 => rds_own (r := 1) rfl w1 hw1) h27 (by rw [Nat.mul_one]) ?_
      refine ow_r rfl (dstOk_lt rfl) (ry_load1 rfl rfl ty5 (at_elV (fun w1 hw1 => rds_own (r := 1) rfl w1 hw1) h27)) ?_
      refine ow_batch [.p] rfl ?_
      obtain ⟨y28, h29, H⟩ := of_bind H
      refine ow_q rfl rfl (dstOk_lt rfl) (qy_call rfl fn21 rfl (fun w1 hw1 => laws_at0_ok w1  h29 (rds_bor g0 w1 hw1))) (fun _ _ => trivial) ?_
      obtain ⟨y30, h31, H⟩ := of_bind H
      refine ow_q rfl rfl (dstOk_lt rfl) (qy_call rfl fn22 rfl (fun w1 hw1 => laws_bit_ok w1  h31)) (fun _ _ => trivial) ?_
      refine ow_batch [.p] rfl ?_
      obtain ⟨e32, h33, H⟩ := of_bind H
      refine ow_ixE (e := eVal (Value.int .u8) (fun _ => rfl)) (xs := l15) (j := x24) rfl rfl rfl rfl rfl sl22 ty5 rfl (fun w1 hw1 => rds_own (r := 1) rfl w1 hw1) h33 (by rw [Nat.mul_one]) ?_
      refine ow_nilQ ?_
      refine ow_storeV (i := 1) (j := x24) rfl rfl rfl rfl rfl rfl ty5 rfl h33 (fun _ => rfl) kp ?_
      refine ow_nil ?_
      refine x_qs ?_
      refine c_seq ?_
      refine c_reg ?_
      refine ow_batch [.p] rfl ?_
      obtain ⟨y34, h35, H⟩ := of_bind H
      refine ow_q rfl rfl (dstOk_lt rfl) (qy_call rfl fn14 rfl (fun w1 hw1 => impl_Crc_ok w1  h35 (rds_own (r := 1) rfl w1 hw1))) (fun _ _ => trivial) ?_
      refine ow_batch [.p] rfl ?_
      obtain ⟨y36, h37, H⟩ := of_bind H
      refine ow_q rfl rfl (dstOk_lt rfl) (qy_call rfl fn14 rfl (fun w1 hw1 => impl_Crc_ok w1  h37 (rds_own (r := 0) rfl w1 hw1))) (fun _ _ => trivial) ?_
      refine ow_batch [.p, .p] rfl ?_
      obtain ⟨u38, hu42, H⟩ := of_bind H
      refine ow_cut [(48, .bool u38), (2, .bool false), (4, .slice a17 l15.length c18)] 4 ?_ (fun key => OW.sub (R := [(2, .bool false), (4, .slice a17 l15.length c18), (44, .bool (y34 != y36))]) ?_ ⟨rfl, rfl, rfl, trivial⟩)
      · refine ow_batch [.p] rfl ?_
        obtain ⟨u43, hu47, H⟩ := of_bind H
        refine ow_cut [(53, .bool u43), (2, .bool false)] 4 ?_ (fun key => OW.sub (R := [(2, .bool false), (4, .slice a17 l15.length c18), (49, .bool u38)]) ?_ ⟨rfl, rfl, rfl, trivial⟩)
        · refine ow_batch [.p] rfl ?_
          refine ow_nil ?_
          refine x_qs ?_
          refine c_ret ?_
          exact x_retR (rs := [.tmp 2]) (vs := [.bool u43]) rfl ⟨rfl, trivial⟩ (fun w' hw' => by
              obtain rfl := of_some H
              exact ⟨rfl, hw'.ext⟩)
        · clear H
          have H := hu47
          clear hu47
          generalize u38 = t46 at H ⊢
          cases t46
          · have H := of_if_f rfl H
            refine ow_batch [.p, .p, .p, .p] rfl ?_
            obtain rfl := of_some H
            exact OW.sub key ⟨rfl, rfl, trivial⟩
          · have H := of_if_t rfl H
            refine ow_batch [.p] rfl ?_
            obtain ⟨y44, h45, H⟩ := of_bind H
            refine ow_q rfl rfl (dstOk_lt rfl) (qy_call rfl fn14 rfl (fun w1 hw1 => impl_Crc_ok w1  h45 (rds_own (r := 1) rfl w1 hw1))) (fun _ _ => trivial) ?_
            refine ow_batch [.p] rfl ?_
            refine ow_batch [.p] rfl ?_
            obtain rfl := of_some H
            exact OW.sub key ⟨rfl, rfl, trivial⟩
      · clear H
        have H := hu42
        clear hu42
        generalize (y34 != y36) = t41 at H ⊢
        cases t41
        · have H := of_if_f rfl H
          refine ow_batch [.p, .p, .p, .p] rfl ?_
          obtain rfl := of_some H
          exact OW.sub key ⟨rfl, rfl, rfl, trivial⟩
        · have H := of_if_t rfl H
          refine ow_batch [.p] rfl ?_
          obtain ⟨y39, h40, H⟩ := of_bind H
          refine ow_q rfl rfl (dstOk_lt rfl) (qy_call rfl fn14 rfl (fun w1 hw1 => impl_Crc_ok w1  h40 (rds_own (r := 1) rfl w1 hw1))) (fun _ _ => trivial) ?_
          refine ow_batch [.p] rfl ?_
          refine ow_batch [.p] rfl ?_
          obtain rfl := of_some H
          exact OW.sub key ⟨rfl, rfl, rfl, trivial⟩

end Go.Vk
