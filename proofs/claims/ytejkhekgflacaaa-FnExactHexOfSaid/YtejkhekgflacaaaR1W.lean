/- The code does what the functions of data say. Printed by program. -/

import Derived.Test.YtejkhekgflacaaaR1F

import Derived.Test.YtejkhekgflacaaaChecked

namespace Go.Vk

open Go.Proofs Go.RowKit



theorem sl22 : isSl Try.prog 22 5 := isSl_of (by kernel_rfl)

theorem ty5 : isTy Try.prog 5 false 1 1 [.int .u8 0] := isTy_of (by kernel_rfl)

theorem mixed : Try.prog.follows .mixedOrders = true := by kernel_rfl

theorem us5 : (Try.prog.underlying 5).isSome = true := by kernel_rfl

theorem in3 : isInt Try.prog 3 .i64 := isInt_of (by kernel_rfl)

theorem fn10 : isFn Try.prog 10 := ⟨Try.f10, Try.func10, rfl, by decide⟩

theorem fn13 : isFn Try.prog 13 := ⟨Try.f13, Try.func13, rfl, by decide⟩

theorem fn14 : isFn Try.prog 14 := ⟨Try.f14, Try.func14, rfl, by decide⟩

theorem fn12 : isFn Try.prog 12 := ⟨Try.f12, Try.func12, rfl, by decide⟩

theorem us3 : (Try.prog.underlying 3).isSome = true := by kernel_rfl

theorem in5 : isInt Try.prog 5 .u8 := isInt_of (by kernel_rfl)

theorem fn27 : isFn Try.prog 27 := ⟨Try.f27, Try.func27, rfl, by decide⟩

theorem st9 : isStr Try.prog 9 := isStr_of (by kernel_rfl)

theorem fn9 : isFn Try.prog 9 := ⟨Try.f9, Try.func9, rfl, by decide⟩

theorem fn11 : isFn Try.prog 11 := ⟨Try.f11, Try.func11, rfl, by decide⟩

theorem fn28 : isFn Try.prog 28 := ⟨Try.f28, Try.func28, rfl, by decide⟩

theorem fn30 : isFn Try.prog 30 := ⟨Try.f30, Try.func30, rfl, by decide⟩

theorem fn29 : isFn Try.prog 29 := ⟨Try.f29, Try.func29, rfl, by decide⟩

theorem fn31 : isFn Try.prog 31 := ⟨Try.f31, Try.func31, rfl, by decide⟩

theorem fn15 : isFn Try.prog 15 := ⟨Try.f15, Try.func15, rfl, by decide⟩

theorem fn16 : isFn Try.prog 16 := ⟨Try.f16, Try.func16, rfl, by decide⟩

theorem fn17 : isFn Try.prog 17 := ⟨Try.f17, Try.func17, rfl, by decide⟩

theorem fn18 : isFn Try.prog 18 := ⟨Try.f18, Try.func18, rfl, by decide⟩

theorem fn37 : isFn Try.prog 37 := ⟨Try.f37, Try.func37, rfl, by decide⟩

theorem fn38 : isFn Try.prog 38 := ⟨Try.f38, Try.func38, rfl, by decide⟩

theorem fn25 : isFn Try.prog 25 := ⟨Try.f25, Try.func25, rfl, by decide⟩

theorem fn26 : isFn Try.prog 26 := ⟨Try.f26, Try.func26, rfl, by decide⟩

theorem bl4 : isBl Try.prog 4 := isBl_of (by kernel_rfl)

theorem ixb42 : isIxb Try.prog 42 := ⟨Try.f42, Try.func42, by kernel_rfl, by kernel_rfl, by kernel_rfl, by kernel_rfl⟩

theorem fn41 : isFn Try.prog 41 := ⟨Try.f41, Try.func41, rfl, by decide⟩

theorem fn35 : isFn Try.prog 35 := ⟨Try.f35, Try.func35, rfl, by decide⟩

theorem fn36 : isFn Try.prog 36 := ⟨Try.f36, Try.func36, rfl, by decide⟩

theorem fn23 : isFn Try.prog 23 := ⟨Try.f23, Try.func23, rfl, by decide⟩

theorem fn24 : isFn Try.prog 24 := ⟨Try.f24, Try.func24, rfl, by decide⟩

theorem laws_toByteS_ok (w : World) {p0 : List Int} {v0 : Value} {r : List Int} (H : laws_toByteS p0 = some r) (g0 : (eList (eVal (Value.int .u8) (fun _ => rfl)) 5).rd w [] p0 [v0]) :
    Calls Try.prog 10 #[v0] w (RetO (eList (eVal (Value.int .u8) (fun _ => rfl)) 5) r w) := by
  obtain ⟨a_0, c_0, rfl⟩ := rd_sl g0
  unfold laws_toByteS at H
  refine f_enter (vs := [.slice a_0 p0.length c_0]) Try.func10 rfl Try.ntmps10 rfl (St.init w []) ?_
  refine c_seq ?_
  refine c_reg ?_
  refine ow_batch [.p] rfl ?_
  refine ow_nil ?_
  refine x_qs ?_
  refine c_seq ?_
  refine c_reg ?_
  refine ow_batch [.p, .lenS 22 5 sl22] rfl ?_
  obtain ⟨l1, h2, H⟩ := of_bind H
  refine ow_make (e := eVal (Value.int .u8) (fun _ => rfl)) (zero := (0 : Int)) rfl rfl rfl rfl rfl rfl sl22 ty5 rfl rfl rfl rfl (fun _ => ⟨rfl, rfl⟩) h2 (fun _ => kp) (fun b3 => ?_)
  refine ow_batch [.p] rfl ?_
  refine ow_nil ?_
  refine x_qs ?_
  refine c_seq ?_
  refine c_seq ?_
  refine c_reg ?_
  refine ow_batch [.p] rfl ?_
  refine ow_nil ?_
  refine x_qs ?_
  refine c_block ?_
  refine CW.at (loopI2 (fun (l10 : List Int) (i11 : Int) => St w [] [Res.own (eList (eVal (Value.int .u8) (fun _ => rfl)) 5) [b3] l10 [.slice (some ⟨b3, 0, none⟩) l1.length l1.length]]) (fun (l10 : List Int) (i11 : Int) => [(0, .slice a_0 p0.length c_0), (2, .slice none 0 0), (3, .slice (some ⟨b3, 0, none⟩) l1.length l1.length), (4, .int .i64 i11)]) (fun kk => fun (l10 : List Int) (i11 : Int) => laws_toByteS_L1 p0 kk l10 i11 = some r) (fun _ _ H => ?_) (fun k1 ihk1 l10 i11 H => ?_) Fuel (l1) (0) (H)) (fun _ h => St.keep [true] rfl h) ⟨rfl, rfl, rfl, rfl,  trivial⟩
  · unfold laws_toByteS_L1 at H
    exact absurd H (by simp)
  · unfold laws_toByteS_L1 at H
    refine c_seq ?_
    refine c_seq ?_
    refine c_reg ?_
    refine ow_batch [.p, .p, .lenS 22 5 sl22, .p] rfl ?_
    refine ow_nil ?_
    refine x_qs ?_
    refine c_if rfl (fun hb => ?_) (fun hb => ?_)
    · have H := of_if_t hb H
      refine c_skip ?_
      refine x_qs ?_
      refine c_seq ?_
      refine c_block ?_
      refine c_reg ?_
      refine ow_batch [.p, .p, .p, .p] rfl ?_
      obtain ⟨e18, h19, H⟩ := of_bind H
      refine ow_ixV (xs := p0) (j := i11) rfl rfl rfl rfl rfl sl22 ty5 rfl (fun w1 hw1 => rds_bor g0 w1 hw1) (fun w1 hw1 => rds_bor g0 w1 hw1) h19 (fun hA20 => ?_)
      refine ow_r rfl (dstOk_lt rfl) (ry_load1 rfl rfl ty5 hA20) ?_
      obtain ⟨e21, h22, H⟩ := of_bind H
      refine ow_ixV (xs := l10) (j := i11) rfl rfl rfl rfl rfl sl22 ty5 rfl (fun w1 hw1 => rds_own (r := 0) rfl w1 hw1) (fun w1 hw1 => rds_own (r := 0) rfl w1 hw1) h22 (fun hA23 => ?_)
      refine ow_storeV (i := 0) (j := i11) rfl rfl rfl rfl rfl rfl ty5 rfl h22 (fun _ => rfl) kp ?_
      refine ow_nil ?_
      refine x_qb ?_
      refine x_qs ?_
      refine c_reg ?_
      refine ow_batch [.p, .p, .p] rfl ?_
      refine ow_nil ?_
      exact x_ql (RW.at (ihk1 ((l10.set i11.toNat e18)) (IntKind.i64.wrap (i11 + 1)) (H)) (fun _ h => St.keep [true] rfl h) ⟨rfl, rfl, rfl, rfl,  trivial⟩)
    · have H := of_if_f hb H
      refine c_exit ?_
      refine x_qs_exit ?_
      refine x_ql_exit ?_
      refine x_qb_here ?_
      refine x_qs ?_
      refine c_seq ?_
      refine c_reg ?_
      refine ow_batch [.p, .p] rfl ?_
      refine ow_nil ?_
      refine x_qs ?_
      refine c_ret ?_
      exact x_ret1 rfl rfl fun w' hw' => of_some H ▸ ret_own (i := 0) hw' rfl

theorem laws_eqByteS_ok (w : World) {p0 : List Int} {p1 : List Int} {v0 v1 : Value} {r : Bool} (H : laws_eqByteS p0 p1 = some r) (g0 : (eList (eVal (Value.int .u8) (fun _ => rfl)) 5).rd w [] p0 [v0]) (g1 : (eList (eVal (Value.int .u8) (fun _ => rfl)) 5).rd w [] p1 [v1]) :
    Calls Try.prog 12 #[v0, v1] w (fun en w' => en = .returned (.bool r) ∧ Ext [] w w') := by
  obtain ⟨a_0, c_0, rfl⟩ := rd_sl g0
  obtain ⟨a_1, c_1, rfl⟩ := rd_sl g1
  unfold laws_eqByteS at H
  refine f_enter (vs := [.slice a_0 p0.length c_0, .slice a_1 p1.length c_1]) Try.func12 rfl Try.ntmps12 rfl (St.init w []) ?_
  refine c_seq ?_
  refine c_reg ?_
  refine ow_batch [.p] rfl ?_
  refine ow_nil ?_
  refine x_qs ?_
  refine c_seq ?_
  refine c_seq ?_
  refine c_reg ?_
  refine ow_batch [.p, .lenS 22 5 sl22, .p, .lenS 22 5 sl22, .p] rfl ?_
  refine ow_nil ?_
  refine x_qs ?_
  refine c_if rfl (fun hb => ?_) (fun hb => ?_)
  · have H := of_if_t hb H
    refine c_seq ?_
    refine c_reg ?_
    refine ow_batch [.p] rfl ?_
    refine ow_nil ?_
    refine x_qs ?_
    refine c_ret ?_
    refine x_qs_ret ?_
    exact x_ret1 rfl rfl fun w' hw' => ⟨by rw [of_some H], hw'.ext⟩
  · have H := of_if_f hb H
    refine c_skip ?_
    refine x_qs ?_
    refine c_seq ?_
    refine c_seq ?_
    refine c_reg ?_
    refine ow_batch [.p] rfl ?_
    refine ow_nil ?_
    refine x_qs ?_
    refine c_block ?_
    refine CW.at (loopI1 (fun (i7 : Int) => St w [] []) (fun (i7 : Int) => [(0, .slice a_0 p0.length c_0), (1, .slice a_1 p1.length c_1), (4, .bool false), (5, .int .i64 i7)]) (fun kk => fun (i7 : Int) => laws_eqByteS_L1 p0 p1 kk i7 = some r) (fun _ H => ?_) (fun k1 ihk1 i7 H => ?_) Fuel (0) (H)) (fun _ h => St.keep [] rfl h) ⟨rfl, rfl, rfl, rfl,  trivial⟩
    · unfold laws_eqByteS_L1 at H
      exact absurd H (by simp)
    · unfold laws_eqByteS_L1 at H
      refine c_seq ?_
      refine c_seq ?_
      refine c_reg ?_
      refine ow_batch [.p, .p, .lenS 22 5 sl22, .p] rfl ?_
      refine ow_nil ?_
      refine x_qs ?_
      refine c_if rfl (fun hb => ?_) (fun hb => ?_)
      · have H := of_if_t hb H
        refine c_skip ?_
        refine x_qs ?_
        refine c_seq ?_
        refine c_block ?_
        refine c_seq ?_
        refine c_regQ mixed (by kernel_rfl) ?_
        refine ow_batch [.p, .p] rfl ?_
        obtain ⟨e14, h15, H⟩ := of_bind H
        refine ow_ixV (xs := p0) (j := i7) rfl rfl rfl rfl rfl sl22 ty5 rfl (fun w1 hw1 => rds_bor g0 w1 hw1) (fun w1 hw1 => rds_bor g0 w1 hw1) h15 (fun hA16 => ?_)
        refine ow_r rfl (dstOk_lt rfl) (ry_load1 rfl rfl ty5 hA16) ?_
        refine ow_batch [.p, .p] rfl ?_
        obtain ⟨e17, h18, H⟩ := of_bind H
        refine ow_ixV (xs := p1) (j := i7) rfl rfl rfl rfl rfl sl22 ty5 rfl (fun w1 hw1 => rds_bor g1 w1 hw1) (fun w1 hw1 => rds_bor g1 w1 hw1) h18 (fun hA19 => ?_)
        refine ow_r rfl (dstOk_lt rfl) (ry_load1 rfl rfl ty5 hA19) ?_
        refine ow_batch [.p] rfl ?_
        refine ow_nilQ ?_
        refine x_qs ?_
        refine c_if rfl (fun hb => ?_) (fun hb => ?_)
        · have H := of_if_t hb H
          refine c_seq ?_
          refine c_reg ?_
          refine ow_batch [.p] rfl ?_
          refine ow_nil ?_
          refine x_qs ?_
          refine c_ret ?_
          refine x_qb_ret ?_
          refine x_qs_ret ?_
          refine x_ql_ret ?_
          refine x_qb_ret ?_
          refine x_qs_ret ?_
          exact x_ret1 rfl rfl fun w' hw' => ⟨by rw [of_some H], hw'.ext⟩
        · have H := of_if_f hb H
          refine c_skip ?_
          refine x_qb ?_
          refine x_qs ?_
          refine c_reg ?_
          refine ow_batch [.p, .p, .p] rfl ?_
          refine ow_nil ?_
          exact x_ql (RW.at (ihk1 (IntKind.i64.wrap (i7 + 1)) (H)) (fun _ h => St.keep [] rfl h) ⟨rfl, rfl, rfl, rfl,  trivial⟩)
      · have H := of_if_f hb H
        refine c_exit ?_
        refine x_qs_exit ?_
        refine x_ql_exit ?_
        refine x_qb_here ?_
        refine x_qs ?_
        refine c_seq ?_
        refine c_reg ?_
        refine ow_batch [.p] rfl ?_
        refine ow_nil ?_
        refine x_qs ?_
        refine c_ret ?_
        exact x_ret1 rfl rfl fun w' hw' => ⟨by rw [of_some H], hw'.ext⟩

theorem spec_Crc_ok (w : World) {p0 : List Int} {v0 : Value} {r : Int} (H : spec_Crc p0 = some r) (g0 : (eList (eVal (Value.int .u8) (fun _ => rfl)) 5).rd w [] p0 [v0]) :
    Calls Try.prog 13 #[v0] w (fun en w' => en = .returned (.int .i64 r) ∧ Ext [] w w') := by
  obtain ⟨a_0, c_0, rfl⟩ := rd_sl g0
  unfold spec_Crc at H
  refine f_enter (vs := [.slice a_0 p0.length c_0]) Try.func13 rfl Try.ntmps13 rfl (St.init w []) ?_
  refine c_seq ?_
  refine c_reg ?_
  refine ow_batch [.p] rfl ?_
  refine ow_nil ?_
  refine x_qs ?_
  refine c_seq ?_
  refine c_reg ?_
  refine ow_batch [.p] rfl ?_
  refine ow_nil ?_
  refine x_qs ?_
  refine c_seq ?_
  refine c_seq ?_
  refine c_reg ?_
  refine ow_batch [.p] rfl ?_
  refine ow_nil ?_
  refine x_qs ?_
  refine c_block ?_
  refine CW.at (loopI2 (fun (i6 : Int) (i7 : Int) => St w [] []) (fun (i6 : Int) (i7 : Int) => [(0, .slice a_0 p0.length c_0), (2, .int .i64 0), (3, .int .i64 i6), (4, .int .i64 i7)]) (fun kk => fun (i6 : Int) (i7 : Int) => spec_Crc_L1 p0 kk i6 i7 = some r) (fun _ _ H => ?_) (fun k1 ihk1 i6 i7 H => ?_) Fuel (4294967295) (0) (H)) (fun _ h => St.keep [] rfl h) ⟨rfl, rfl, rfl, rfl,  trivial⟩
  · unfold spec_Crc_L1 at H
    exact absurd H (by simp)
  · unfold spec_Crc_L1 at H
    refine c_seq ?_
    refine c_seq ?_
    refine c_reg ?_
    refine ow_batch [.p, .p, .lenS 22 5 sl22, .p] rfl ?_
    refine ow_nil ?_
    refine x_qs ?_
    refine c_if rfl (fun hb => ?_) (fun hb => ?_)
    · have H := of_if_t hb H
      refine c_skip ?_
      refine x_qs ?_
      refine c_seq ?_
      refine c_block ?_
      refine c_seq ?_
      refine c_reg ?_
      refine ow_batch [.p, .p, .p] rfl ?_
      obtain ⟨e13, h14, H⟩ := of_bind H
      refine ow_ixV (xs := p0) (j := i7) rfl rfl rfl rfl rfl sl22 ty5 rfl (fun w1 hw1 => rds_bor g0 w1 hw1) (fun w1 hw1 => rds_bor g0 w1 hw1) h14 (fun hA15 => ?_)
      refine ow_r rfl (dstOk_lt rfl) (ry_load1 rfl rfl ty5 hA15) ?_
      refine ow_batch [.cv 5 3 .i64 us5 in3, .p, .p] rfl ?_
      refine ow_nil ?_
      refine x_qs ?_
      refine c_seq ?_
      refine c_reg ?_
      refine ow_batch [.p] rfl ?_
      refine ow_nil ?_
      refine x_qs ?_
      refine c_block ?_
      refine CW.at (loopI2 (fun (i16 : Int) (i17 : Int) => St w [] []) (fun (i16 : Int) (i17 : Int) => [(0, .slice a_0 p0.length c_0), (2, .int .i64 0), (3, .int .i64 i16), (4, .int .i64 i7), (5, .int .i64 i17), (7, .int .i64 i7), (8, .slice a_0 p0.length c_0), (9, .int .i64 (p0.length : Int)), (10, .bool (decide (i7 < (p0.length : Int)))), (13, .int .i64 i6), (14, .slice a_0 p0.length c_0), (15, .int .i64 i7), (17, .int .u8 e13), (18, .int .i64 (IntKind.i64.wrap e13)), (19, .int .i64 (ibits .xor .i64 i6 (IntKind.i64.wrap e13)))]) (fun kk => fun (i16 : Int) (i17 : Int) => spec_Crc_L2 (spec_Crc_L1 p0 k1) i7 kk i16 i17 = some r) (fun _ _ H => ?_) (fun k2 ihk2 i16 i17 H => ?_) Fuel (ibits .xor .i64 i6 (IntKind.i64.wrap e13)) (0) (H)) (fun _ h => St.keep [] rfl h) ⟨rfl, rfl, rfl, rfl, rfl, rfl, rfl, rfl, rfl, rfl, rfl, rfl, rfl, rfl, rfl,  trivial⟩
      · unfold spec_Crc_L2 at H
        exact absurd H (by simp)
      · unfold spec_Crc_L2 at H
        refine c_seq ?_
        refine c_seq ?_
        refine c_reg ?_
        refine ow_batch [.p, .p] rfl ?_
        refine ow_nil ?_
        refine x_qs ?_
        refine c_if rfl (fun hb => ?_) (fun hb => ?_)
        · have H := of_if_t hb H
          refine c_skip ?_
          refine x_qs ?_
          refine c_seq ?_
          refine c_block ?_
          refine c_seq ?_
          refine c_reg ?_
          refine ow_batch [.p, .p, .p, .p] rfl ?_
          refine ow_nil ?_
          refine x_qs ?_
          refine c_seq ?_
          refine c_reg ?_
          refine ow_batch [.p, .p, .p] rfl ?_
          refine ow_nil ?_
          refine x_qs ?_
          refine c_seq ?_
          refine c_reg ?_
          refine ow_batch [.p] rfl ?_
          refine ow_nil ?_
          refine x_qs ?_
          refine c_if rfl (fun hb => ?_) (fun hb => ?_)
          · have H := of_if_t hb H
            refine c_reg ?_
            refine ow_batch [.p, .p, .p] rfl ?_
            refine ow_nil ?_
            refine x_qb ?_
            refine x_qs ?_
            refine c_reg ?_
            refine ow_batch [.p, .p, .p] rfl ?_
            refine ow_nil ?_
            exact x_ql (RW.at (ihk2 (ibits .xor .i64 (IntKind.i64.wrap (Int.tdiv i16 2)) 3988292384) (IntKind.i64.wrap (i17 + 1)) (H)) (fun _ h => St.keep [] rfl h) ⟨rfl, rfl, rfl, rfl, rfl, rfl, rfl, rfl, rfl, rfl, rfl, rfl, rfl, rfl, rfl,  trivial⟩)
          · have H := of_if_f hb H
            refine c_skip ?_
            refine x_qb ?_
            refine x_qs ?_
            refine c_reg ?_
            refine ow_batch [.p, .p, .p] rfl ?_
            refine ow_nil ?_
            exact x_ql (RW.at (ihk2 (IntKind.i64.wrap (Int.tdiv i16 2)) (IntKind.i64.wrap (i17 + 1)) (H)) (fun _ h => St.keep [] rfl h) ⟨rfl, rfl, rfl, rfl, rfl, rfl, rfl, rfl, rfl, rfl, rfl, rfl, rfl, rfl, rfl,  trivial⟩)
        · have H := of_if_f hb H
          refine c_exit ?_
          refine x_qs_exit ?_
          refine x_ql_exit ?_
          refine x_qb_here ?_
          refine x_qb ?_
          refine x_qs ?_
          refine c_reg ?_
          refine ow_batch [.p, .p, .p] rfl ?_
          refine ow_nil ?_
          exact x_ql (RW.at (ihk1 (i16) (IntKind.i64.wrap (i7 + 1)) (H)) (fun _ h => St.keep [] rfl h) ⟨rfl, rfl, rfl, rfl,  trivial⟩)
    · have H := of_if_f hb H
      refine c_exit ?_
      refine x_qs_exit ?_
      refine x_ql_exit ?_
      refine x_qb_here ?_
      refine x_qs ?_
      refine c_seq ?_
      refine c_reg ?_
      refine ow_batch [.p, .p, .p] rfl ?_
      refine ow_nil ?_
      refine x_qs ?_
      refine c_ret ?_
      exact x_ret1 rfl rfl fun w' hw' => ⟨by rw [of_some H], hw'.ext⟩

theorem impl_Crc_ok (w : World) {p0 : List Int} {v0 : Value} {r : Int} (H : impl_Crc p0 = some r) (g0 : (eList (eVal (Value.int .u8) (fun _ => rfl)) 5).rd w [] p0 [v0]) :
    Calls Try.prog 14 #[v0] w (fun en w' => en = .returned (.int .i64 r) ∧ Ext [] w w') := by
  obtain ⟨a_0, c_0, rfl⟩ := rd_sl g0
  unfold impl_Crc at H
  refine f_enter (vs := [.slice a_0 p0.length c_0]) Try.func14 rfl Try.ntmps14 rfl (St.init w []) ?_
  refine c_seq ?_
  refine c_reg ?_
  refine ow_batch [.p] rfl ?_
  refine ow_nil ?_
  refine x_qs ?_
  refine c_seq ?_
  refine c_reg ?_
  refine ow_batch [.p] rfl ?_
  refine ow_nil ?_
  refine x_qs ?_
  refine c_seq ?_
  refine c_seq ?_
  refine c_reg ?_
  refine ow_batch [.p, .lenS 22 5 sl22, .p] rfl ?_
  refine ow_nil ?_
  refine x_qs ?_
  refine c_block ?_
  refine CW.at (loopI2 (fun (i6 : Int) (i7 : Int) => St w [] []) (fun (i6 : Int) (i7 : Int) => [(2, .int .i64 0), (3, .int .i64 i6), (7, .slice a_0 p0.length c_0), (8, .int .i64 (p0.length : Int)), (9, .int .i64 i7)]) (fun kk => fun (i6 : Int) (i7 : Int) => impl_Crc_L1 p0 kk i6 i7 = some r) (fun _ _ H => ?_) (fun k1 ihk1 i6 i7 H => ?_) Fuel (4294967295) (0) (H)) (fun _ h => St.keep [] rfl h) ⟨rfl, rfl, rfl, rfl, rfl,  trivial⟩
  · unfold impl_Crc_L1 at H
    exact absurd H (by simp)
  · unfold impl_Crc_L1 at H
    refine c_seq ?_
    refine c_reg ?_
    refine ow_batch [.p] rfl ?_
    refine ow_nil ?_
    refine x_qs ?_
    refine c_seq ?_
    refine c_if rfl (fun hb => ?_) (fun hb => ?_)
    · have H := of_if_t hb H
      refine c_skip ?_
      refine x_qs ?_
      refine c_seq ?_
      refine c_block ?_
      refine c_seq ?_
      refine c_reg ?_
      obtain ⟨e13, h14, H⟩ := of_bind H
      refine ow_ixV (xs := p0) (j := i7) rfl rfl rfl rfl rfl sl22 ty5 rfl (fun w1 hw1 => rds_bor g0 w1 hw1) (fun w1 hw1 => rds_bor g0 w1 hw1) h14 (fun hA15 => ?_)
      refine ow_r rfl (dstOk_lt rfl) (ry_load1 rfl rfl ty5 hA15) ?_
      refine ow_batch [.p] rfl ?_
      refine ow_nil ?_
      refine x_qs ?_
      refine c_seq ?_
      refine c_reg ?_
      refine ow_batch [.p, .p, .cv 5 3 .i64 us5 in3, .p, .p] rfl ?_
      refine ow_nil ?_
      refine x_qs ?_
      refine c_seq ?_
      refine c_reg ?_
      refine ow_batch [.p] rfl ?_
      refine ow_nil ?_
      refine x_qs ?_
      refine c_block ?_
      refine CW.at (loopI2 (fun (i16 : Int) (i17 : Int) => St w [] []) (fun (i16 : Int) (i17 : Int) => [(2, .int .i64 0), (3, .int .i64 i16), (5, .int .u8 e13), (7, .slice a_0 p0.length c_0), (8, .int .i64 (p0.length : Int)), (9, .int .i64 i7), (10, .bool (decide (i7 < (p0.length : Int)))), (12, .int .u8 e13), (13, .int .i64 i6), (14, .int .u8 e13), (15, .int .i64 (IntKind.i64.wrap e13)), (16, .int .i64 (ibits .xor .i64 i6 (IntKind.i64.wrap e13))), (17, .int .i64 i17)]) (fun kk => fun (i16 : Int) (i17 : Int) => impl_Crc_L2 (impl_Crc_L1 p0 k1) i7 kk i16 i17 = some r) (fun _ _ H => ?_) (fun k2 ihk2 i16 i17 H => ?_) Fuel (ibits .xor .i64 i6 (IntKind.i64.wrap e13)) (0) (H)) (fun _ h => St.keep [] rfl h) ⟨rfl, rfl, rfl, rfl, rfl, rfl, rfl, rfl, rfl, rfl, rfl, rfl, rfl,  trivial⟩
      · unfold impl_Crc_L2 at H
        exact absurd H (by simp)
      · unfold impl_Crc_L2 at H
        refine c_seq ?_
        refine c_reg ?_
        refine ow_batch [.p] rfl ?_
        refine ow_nil ?_
        refine x_qs ?_
        refine c_seq ?_
        refine c_if rfl (fun hb => ?_) (fun hb => ?_)
        · have H := of_if_t hb H
          refine c_skip ?_
          refine x_qs ?_
          refine c_seq ?_
          refine c_block ?_
          refine c_seq ?_
          refine c_reg ?_
          refine ow_batch [.p, .p, .p] rfl ?_
          refine ow_nil ?_
          refine x_qs ?_
          refine c_seq ?_
          refine c_reg ?_
          refine ow_batch [.p, .p, .p] rfl ?_
          refine ow_nil ?_
          refine x_qs ?_
          refine c_seq ?_
          refine c_reg ?_
          refine ow_batch [.p, .p] rfl ?_
          refine ow_nil ?_
          refine x_qs ?_
          refine c_if rfl (fun hb => ?_) (fun hb => ?_)
          · have H := of_if_t hb H
            refine c_reg ?_
            refine ow_batch [.p, .p, .p] rfl ?_
            refine ow_nil ?_
            refine x_qb ?_
            refine x_qs ?_
            refine c_reg ?_
            refine ow_batch [.p, .p] rfl ?_
            refine ow_nil ?_
            exact x_ql (RW.at (ihk2 (ibits .xor .i64 (ishr .i64 i16 1) 3988292384) (IntKind.i64.wrap (i17 + 1)) (H)) (fun _ h => St.keep [] rfl h) ⟨rfl, rfl, rfl, rfl, rfl, rfl, rfl, rfl, rfl, rfl, rfl, rfl, rfl,  trivial⟩)
          · have H := of_if_f hb H
            refine c_skip ?_
            refine x_qb ?_
            refine x_qs ?_
            refine c_reg ?_
            refine ow_batch [.p, .p] rfl ?_
            refine ow_nil ?_
            exact x_ql (RW.at (ihk2 (ishr .i64 i16 1) (IntKind.i64.wrap (i17 + 1)) (H)) (fun _ h => St.keep [] rfl h) ⟨rfl, rfl, rfl, rfl, rfl, rfl, rfl, rfl, rfl, rfl, rfl, rfl, rfl,  trivial⟩)
        · have H := of_if_f hb H
          refine c_exit ?_
          refine x_qs_exit ?_
          refine x_ql_exit ?_
          refine x_qb_here ?_
          refine x_qb ?_
          refine x_qs ?_
          refine c_reg ?_
          refine ow_batch [.p, .p] rfl ?_
          refine ow_nil ?_
          exact x_ql (RW.at (ihk1 (i16) (IntKind.i64.wrap (i7 + 1)) (H)) (fun _ h => St.keep [] rfl h) ⟨rfl, rfl, rfl, rfl, rfl,  trivial⟩)
    · have H := of_if_f hb H
      refine c_exit ?_
      refine x_qs_exit ?_
      refine x_ql_exit ?_
      refine x_qb_here ?_
      refine x_qs ?_
      refine c_seq ?_
      refine c_reg ?_
      refine ow_batch [.p, .p, .p] rfl ?_
      refine ow_nil ?_
      refine x_qs ?_
      refine c_ret ?_
      exact x_ret1 rfl rfl fun w' hw' => ⟨by rw [of_some H], hw'.ext⟩

theorem laws_FnExactCrc_ok (w : World) {p0 : List Int} {v0 : Value} {r : Bool} (H : laws_FnExactCrc p0 = some r) (g0 : (eList (eVal (Value.int .u8) (fun _ => rfl)) 5).rd w [] p0 [v0]) :
    Calls Try.prog 4 #[v0] w (fun en w' => en = .returned (.bool r) ∧ Ext [] w w') := by
  obtain ⟨a_0, c_0, rfl⟩ := rd_sl g0
  unfold laws_FnExactCrc at H
  refine f_enter (vs := [.slice a_0 p0.length c_0]) Try.func4 rfl Try.ntmps4 rfl (St.init w []) ?_
  refine c_seq ?_
  refine c_reg ?_
  refine ow_batch [.p] rfl ?_
  refine ow_nil ?_
  refine x_qs ?_
  refine c_seq ?_
  refine c_seq ?_
  refine c_reg ?_
  refine ow_batch [.p, .lenS 22 5 sl22, .p] rfl ?_
  refine ow_nil ?_
  refine x_qs ?_
  refine c_if rfl (fun hb => ?_) (fun hb => ?_)
  · have H := of_if_t hb H
    refine c_seq ?_
    refine c_reg ?_
    refine ow_batch [.p] rfl ?_
    refine ow_nil ?_
    refine x_qs ?_
    refine c_ret ?_
    refine x_qs_ret ?_
    exact x_ret1 rfl rfl fun w' hw' => ⟨by rw [of_some H], hw'.ext⟩
  · have H := of_if_f hb H
    refine c_skip ?_
    refine x_qs ?_
    refine c_seq ?_
    refine c_reg ?_
    refine ow_batch [.p] rfl ?_
    obtain ⟨y1, h2, H⟩ := of_bind H
    refine ow_callL rfl fn10 rfl rfl rfl rfl (fun w1 hw1 => laws_toByteS_ok w1 h2 ((fun w1 hw1 => rds_bor g0 w1 hw1) w1 hw1)) (fun _ _ _ => kp) (fun a3 c4 F5 => ?_)
    obtain ⟨y6, h7, H⟩ := of_bind H
    refine ow_q rfl rfl (dstOk_lt rfl) (qy_call rfl fn13 rfl (fun w1 hw1 => spec_Crc_ok w1 h7 ((fun w1 hw1 => rds_own (r := 0) rfl w1 hw1) w1 hw1))) (fun _ _ => trivial) ?_
    refine ow_batch [.p] rfl ?_
    refine ow_nil ?_
    refine x_qs ?_
    refine c_seq ?_
    refine c_reg ?_
    refine ow_batch [.p] rfl ?_
    obtain ⟨y8, h9, H⟩ := of_bind H
    refine ow_callL rfl fn10 rfl rfl rfl rfl (fun w1 hw1 => laws_toByteS_ok w1 h9 ((fun w1 hw1 => rds_bor g0 w1 hw1) w1 hw1)) (fun _ _ _ => kp) (fun a10 c11 F12 => ?_)
    refine ow_batch [.p] rfl ?_
    refine ow_nil ?_
    refine x_qs ?_
    refine c_seq ?_
    refine c_reg ?_
    refine ow_batch [.p] rfl ?_
    obtain ⟨y13, h14, H⟩ := of_bind H
    refine ow_q rfl rfl (dstOk_lt rfl) (qy_call rfl fn14 rfl (fun w1 hw1 => impl_Crc_ok w1 h14 ((fun w1 hw1 => rds_own (r := 1) rfl w1 hw1) w1 hw1))) (fun _ _ => trivial) ?_
    refine ow_batch [.p] rfl ?_
    refine ow_nil ?_
    refine x_qs ?_
    refine c_seq ?_
    refine c_seq ?_
    refine c_reg ?_
    refine ow_batch [.p, .p, .p] rfl ?_
    refine ow_nil ?_
    refine x_qs ?_
    refine c_if rfl (fun hb => ?_) (fun hb => ?_)
    · have H := of_if_t hb H
      refine c_seq ?_
      refine c_reg ?_
      refine ow_batch [.p] rfl ?_
      refine ow_nil ?_
      refine x_qs ?_
      refine c_ret ?_
      refine x_qs_ret ?_
      exact x_ret1 rfl rfl fun w' hw' => ⟨by rw [of_some H], hw'.ext⟩
    · have H := of_if_f hb H
      refine c_skip ?_
      refine x_qs ?_
      refine c_seq ?_
      refine c_seq ?_
      refine c_reg ?_
      refine ow_batch [.p, .p] rfl ?_
      obtain ⟨y15, h16, H⟩ := of_bind H
      refine ow_callL rfl fn10 rfl rfl rfl rfl (fun w1 hw1 => laws_toByteS_ok w1 h16 ((fun w1 hw1 => rds_bor g0 w1 hw1) w1 hw1)) (fun _ _ _ => kp) (fun a17 c18 F19 => ?_)
      obtain ⟨y20, h21, H⟩ := of_bind H
      refine ow_q rfl rfl (dstOk_lt rfl) (qy_call rfl fn12 rfl (fun w1 hw1 => laws_eqByteS_ok w1 h21 ((fun w1 hw1 => rds_own (r := 1) rfl w1 hw1) w1 hw1) ((fun w1 hw1 => rds_own (r := 2) rfl w1 hw1) w1 hw1))) (fun _ _ => trivial) ?_
      refine ow_batch [.p] rfl ?_
      refine ow_nil ?_
      refine x_qs ?_
      refine c_if rfl (fun hb => ?_) (fun hb => ?_)
      · have H := of_if_t hb H
        refine c_seq ?_
        refine c_reg ?_
        refine ow_batch [.p] rfl ?_
        refine ow_nil ?_
        refine x_qs ?_
        refine c_ret ?_
        refine x_qs_ret ?_
        exact x_ret1 rfl rfl fun w' hw' => ⟨by rw [of_some H], hw'.ext⟩
      · have H := of_if_f hb H
        refine c_skip ?_
        refine x_qs ?_
        refine c_seq ?_
        refine c_reg ?_
        refine ow_batch [.p] rfl ?_
        refine ow_nil ?_
        refine x_qs ?_
        refine c_ret ?_
        exact x_ret1 rfl rfl fun w' hw' => ⟨by rw [of_some H], hw'.ext⟩

theorem spec_l32Sign_ok (w : World) {p0 : Int} {r : Int} (H : spec_l32Sign p0 = some r)  :
    Calls Try.prog 27 #[.int .i64 p0] w (fun en w' => en = .returned (.int .u8 r) ∧ Ext [] w w') := by
  unfold spec_l32Sign at H
  refine f_enter (vs := [.int .i64 p0]) Try.func27 rfl Try.ntmps27 rfl (St.init w []) ?_
  refine c_seq ?_
  refine c_reg ?_
  refine ow_batch [.p] rfl ?_
  refine ow_nil ?_
  refine x_qs ?_
  refine c_seq ?_
  refine c_seq ?_
  refine c_reg ?_
  refine ow_batch [.p, .p] rfl ?_
  refine ow_nil ?_
  refine x_qs ?_
  refine c_if rfl (fun hb => ?_) (fun hb => ?_)
  · have H := of_if_t hb H
    refine c_seq ?_
    refine c_reg ?_
    refine ow_batch [.p, .p, .cv 3 5 .u8 us3 in5, .p] rfl ?_
    refine ow_nil ?_
    refine x_qs ?_
    refine c_ret ?_
    refine x_qs_ret ?_
    exact x_ret1 rfl rfl fun w' hw' => ⟨by rw [of_some H], hw'.ext⟩
  · have H := of_if_f hb H
    refine c_skip ?_
    refine x_qs ?_
    refine c_seq ?_
    refine c_reg ?_
    refine ow_batch [.p, .p, .cv 3 5 .u8 us3 in5, .p] rfl ?_
    refine ow_nil ?_
    refine x_qs ?_
    refine c_ret ?_
    exact x_ret1 rfl rfl fun w' hw' => ⟨by rw [of_some H], hw'.ext⟩

theorem spec_HexText_ok (w : World) {p0 : List Int} {v0 : Value} {r : List UInt8} (H : spec_HexText p0 = some r) (g0 : (eList (eVal (Value.int .u8) (fun _ => rfl)) 5).rd w [] p0 [v0]) :
    Calls Try.prog 9 #[v0] w (fun en w' => en = .returned (vS r) ∧ Ext [] w w') := by
  obtain ⟨a_0, c_0, rfl⟩ := rd_sl g0
  unfold spec_HexText at H
  refine f_enter (vs := [.slice a_0 p0.length c_0]) Try.func9 rfl Try.ntmps9 rfl (St.init w []) ?_
  refine c_seq ?_
  refine c_reg ?_
  refine ow_batch [.p] rfl ?_
  refine ow_nil ?_
  refine x_qs ?_
  refine c_seq ?_
  refine c_reg ?_
  refine ow_blit0 (e := eVal (Value.int .u8) (fun _ => rfl)) rfl rfl rfl rfl sl22 ty5 (fun _ => kp) (fun b1 => ?_)
  refine ow_batch [.p] rfl ?_
  refine ow_nil ?_
  refine x_qs ?_
  refine c_seq ?_
  refine c_seq ?_
  refine c_reg ?_
  refine ow_batch [.p] rfl ?_
  refine ow_nil ?_
  refine x_qs ?_
  refine c_block ?_
  refine CW.at (loopI5 (fun (l18 : List Int) (a19 : Option Addr) (c20 : Nat) (F21 : List Nat) (i22 : Int) => St w [] [Res.own (eList (eVal (Value.int .u8) (fun _ => rfl)) 5) F21 l18 [.slice a19 l18.length c20]]) (fun (l18 : List Int) (a19 : Option Addr) (c20 : Nat) (F21 : List Nat) (i22 : Int) => [(0, .slice a_0 p0.length c_0), (2, vS ([] : List UInt8)), (3, .slice a19 l18.length c20), (4, .int .i64 i22)]) (fun kk => fun (l18 : List Int) (a19 : Option Addr) (c20 : Nat) (F21 : List Nat) (i22 : Int) => spec_HexText_L1 p0 kk l18 i22 = some r) (fun _ _ _ _ _ H => ?_) (fun k1 ihk1 l18 a19 c20 F21 i22 H => ?_) Fuel (([] : List Int)) (some ⟨b1, 0, none⟩) (0) ([b1]) (0) (H)) (fun _ h => St.keep [true] rfl h) ⟨rfl, rfl, rfl, rfl,  trivial⟩
  · unfold spec_HexText_L1 at H
    exact absurd H (by simp)
  · unfold spec_HexText_L1 at H
    refine c_seq ?_
    refine c_seq ?_
    refine c_reg ?_
    refine ow_batch [.p, .p, .lenS 22 5 sl22, .p] rfl ?_
    refine ow_nil ?_
    refine x_qs ?_
    refine c_if rfl (fun hb => ?_) (fun hb => ?_)
    · have H := of_if_t hb H
      refine c_skip ?_
      refine x_qs ?_
      refine c_seq ?_
      refine c_block ?_
      refine c_regH [(0, true), (1, true), (2, true), (3, true), (4, true), (5, true), (6, true), (8, true), (9, true), (10, true), (11, true), (12, true), (13, true), (7, false), (14, false), (15, false), (16, false), (17, true)] (fun w' => Ext [] w w') mixed (by kernel_rfl) (panicOk_qb (panicOk_qs (panicOk_ql (panicOk_qb (panicOk_qs panicOk_body))))) (fun _ h => h.ext) ?_
      refine ow_batch [.p, .p, .p] rfl ?_
      obtain ⟨e39, h40, H⟩ := of_bind H
      refine ow_ixV (xs := p0) (j := i22) rfl rfl rfl rfl rfl sl22 ty5 rfl (fun w1 hw1 => rds_bor g0 w1 hw1) (fun w1 hw1 => (eList (eVal (Value.int .u8) (fun _ => rfl)) 5).rd_anti ((eList (eVal (Value.int .u8) (fun _ => rfl)) 5).rd_loc g0 (fun b hb hm => hw1.block b hb hm)) (by simp)) h40 (fun hA41 => ?_)
      refine ow_r rfl (dstOk_lt rfl) (ry_load1 rfl rfl ty5 hA41) ?_
      refine ow_batch [.cv 5 3 .i64 us5 in3, .p, .p, .p] rfl ?_
      obtain ⟨e42, h43, H⟩ := of_bind H
      refine ow_ixV (xs := p0) (j := i22) rfl rfl rfl rfl rfl sl22 ty5 rfl (fun w1 hw1 => rds_bor g0 w1 hw1) (fun w1 hw1 => (eList (eVal (Value.int .u8) (fun _ => rfl)) 5).rd_anti ((eList (eVal (Value.int .u8) (fun _ => rfl)) 5).rd_loc g0 (fun b hb hm => hw1.block b hb hm)) (by simp)) h43 (fun hA44 => ?_)
      refine ow_r rfl (dstOk_lt rfl) (ry_load1 rfl rfl ty5 hA44) ?_
      refine ow_batch [.cv 5 3 .i64 us5 in3, .p] rfl ?_
      obtain ⟨y45, h46, H⟩ := of_bind H
      refine ow_q rfl rfl (dstOk_lt rfl) (qy_call rfl fn27 rfl (fun w1 hw1 => spec_l32Sign_ok w1 h46 )) (fun _ h => h.ext) ?_
      obtain ⟨y47, h48, H⟩ := of_bind H
      refine ow_q rfl rfl (dstOk_lt rfl) (qy_call rfl fn27 rfl (fun w1 hw1 => spec_l32Sign_ok w1 h48 )) (fun _ h => h.ext) ?_
      refine ow_blit (val := Value.int .u8) (h1 := fun _ => rfl) [y45, y47] [(0, [.int .u8 y45]), (1, [.int .u8 y47])] rfl rfl rfl rfl rfl sl22 ty5 rfl rfl rfl ⟨rfl, rfl, Nat.le_of_ble_eq_true rfl, rfl, rfl, Nat.le_of_ble_eq_true rfl,  trivial⟩ rfl rfl (fun _ => (fun _ h => h.ext)) (fun b49 => ?_)
      obtain ⟨l50, h51, H⟩ := of_bind H
      refine ow_appR (r := 0) rfl rfl rfl rfl rfl rfl sl22 ty5 rfl rfl rfl (fun w1 hw1 => rds_own (r := 1) rfl w1 hw1) h51 (fun _ _ _ => (fun _ h => h.ext)) (fun a52 c53 F54 => ?_)
      refine ow_batch [.p] rfl ?_
      refine ow_nilH ?_
      refine x_qb ?_
      refine x_qs ?_
      refine c_reg ?_
      refine ow_batch [.p, .p, .p] rfl ?_
      refine ow_nil ?_
      exact x_ql (RW.at (ihk1 (l50) (a52) (c53) (F54) (IntKind.i64.wrap (i22 + 1)) (H)) (fun _ h => St.keep [true, false] rfl h) ⟨rfl, rfl, rfl, rfl,  trivial⟩)
    · have H := of_if_f hb H
      refine c_exit ?_
      refine x_qs_exit ?_
      refine x_ql_exit ?_
      refine x_qb_here ?_
      refine x_qs ?_
      refine c_seq ?_
      refine c_reg ?_
      refine ow_batch [.p] rfl ?_
      refine ow_r rfl (dstOk_lt rfl) (ry_bts (xs := l18) rfl rfl sl22 in5 st9 (fun w1 hw1 => rds_own (r := 0) rfl w1 hw1)) ?_
      refine ow_batch [.p] rfl ?_
      refine ow_nil ?_
      refine x_qs ?_
      refine c_ret ?_
      exact x_ret1 rfl rfl fun w' hw' => ⟨by rw [of_some H], hw'.ext⟩

theorem impl_HexText_ok (w : World) {p0 : List Int} {v0 : Value} {r : List UInt8} (H : impl_HexText p0 = some r) (g0 : (eList (eVal (Value.int .u8) (fun _ => rfl)) 5).rd w [] p0 [v0]) :
    Calls Try.prog 11 #[v0] w (fun en w' => en = .returned (vS r) ∧ Ext [] w w') := by
  obtain ⟨a_0, c_0, rfl⟩ := rd_sl g0
  unfold impl_HexText at H
  refine f_enter (vs := [.slice a_0 p0.length c_0]) Try.func11 rfl Try.ntmps11 rfl (St.init w []) ?_
  refine c_seq ?_
  refine c_reg ?_
  refine ow_batch [.p] rfl ?_
  refine ow_nil ?_
  refine x_qs ?_
  refine c_seq ?_
  refine c_reg ?_
  refine ow_blit0 (e := eVal (Value.int .u8) (fun _ => rfl)) rfl rfl rfl rfl sl22 ty5 (fun _ => kp) (fun b1 => ?_)
  refine ow_batch [.p] rfl ?_
  refine ow_nil ?_
  refine x_qs ?_
  refine c_seq ?_
  refine c_seq ?_
  refine c_reg ?_
  refine ow_batch [.p, .lenS 22 5 sl22, .p] rfl ?_
  refine ow_nil ?_
  refine x_qs ?_
  refine c_block ?_
  refine CW.at (loopI5 (fun (l15 : List Int) (a16 : Option Addr) (c17 : Nat) (F18 : List Nat) (i19 : Int) => St w [] [Res.own (eList (eVal (Value.int .u8) (fun _ => rfl)) 5) F18 l15 [.slice a16 l15.length c17]]) (fun (l15 : List Int) (a16 : Option Addr) (c17 : Nat) (F18 : List Nat) (i19 : Int) => [(2, vS ([] : List UInt8)), (3, .slice a16 l15.length c17), (7, .slice a_0 p0.length c_0), (8, .int .i64 (p0.length : Int)), (9, .int .i64 i19)]) (fun kk => fun (l15 : List Int) (a16 : Option Addr) (c17 : Nat) (F18 : List Nat) (i19 : Int) => impl_HexText_L1 p0 kk l15 i19 = some r) (fun _ _ _ _ _ H => ?_) (fun k1 ihk1 l15 a16 c17 F18 i19 H => ?_) Fuel (([] : List Int)) (some ⟨b1, 0, none⟩) (0) ([b1]) (0) (H)) (fun _ h => St.keep [true] rfl h) ⟨rfl, rfl, rfl, rfl, rfl,  trivial⟩
  · unfold impl_HexText_L1 at H
    exact absurd H (by simp)
  · unfold impl_HexText_L1 at H
    refine c_seq ?_
    refine c_reg ?_
    refine ow_batch [.p] rfl ?_
    refine ow_nil ?_
    refine x_qs ?_
    refine c_seq ?_
    refine c_if rfl (fun hb => ?_) (fun hb => ?_)
    · have H := of_if_t hb H
      refine c_skip ?_
      refine x_qs ?_
      refine c_seq ?_
      refine c_block ?_
      refine c_seq ?_
      refine c_reg ?_
      obtain ⟨e33, h34, H⟩ := of_bind H
      refine ow_ixV (xs := p0) (j := i19) rfl rfl rfl rfl rfl sl22 ty5 rfl (fun w1 hw1 => rds_bor g0 w1 hw1) (fun w1 hw1 => rds_bor g0 w1 hw1) h34 (fun hA35 => ?_)
      refine ow_r rfl (dstOk_lt rfl) (ry_load1 rfl rfl ty5 hA35) ?_
      refine ow_batch [.p] rfl ?_
      refine ow_nil ?_
      refine x_qs ?_
      refine c_regH [(0, true), (1, true), (2, true), (3, true), (4, true), (5, true), (6, true), (7, false), (8, false), (9, true)] (fun w' => Ext [] w w') mixed (by kernel_rfl) (panicOk_qb (panicOk_qs (panicOk_ql (panicOk_qb (panicOk_qs panicOk_body))))) (fun _ h => h.ext) ?_
      refine ow_batch [.p, .p, .p] rfl ?_
      obtain ⟨b36, h37, H⟩ := of_bind H
      refine ow_r rfl (dstOk_lt rfl) (ry_sidx (s := ([48, 49, 50, 51, 52, 53, 54, 55, 56, 57, 97, 98, 99, 100, 101, 102] : List UInt8)) rfl rfl rfl st9 h37) ?_
      refine ow_batch [.p, .p] rfl ?_
      obtain ⟨b38, h39, H⟩ := of_bind H
      refine ow_r rfl (dstOk_lt rfl) (ry_sidx (s := ([48, 49, 50, 51, 52, 53, 54, 55, 56, 57, 97, 98, 99, 100, 101, 102] : List UInt8)) rfl rfl rfl st9 h39) ?_
      refine ow_blit (val := Value.int .u8) (h1 := fun _ => rfl) [(b36.toNat : Int), (b38.toNat : Int)] [(0, [.int .u8 (b36.toNat : Int)]), (1, [.int .u8 (b38.toNat : Int)])] rfl rfl rfl rfl rfl sl22 ty5 rfl rfl rfl ⟨rfl, rfl, Nat.le_of_ble_eq_true rfl, rfl, rfl, Nat.le_of_ble_eq_true rfl,  trivial⟩ rfl rfl (fun _ => (fun _ h => h.ext)) (fun b40 => ?_)
      obtain ⟨l41, h42, H⟩ := of_bind H
      refine ow_appR (r := 0) rfl rfl rfl rfl rfl rfl sl22 ty5 rfl rfl rfl (fun w1 hw1 => rds_own (r := 1) rfl w1 hw1) h42 (fun _ _ _ => (fun _ h => h.ext)) (fun a43 c44 F45 => ?_)
      refine ow_batch [.p] rfl ?_
      refine ow_nilH ?_
      refine x_qb ?_
      refine x_qs ?_
      refine c_reg ?_
      refine ow_batch [.p, .p] rfl ?_
      refine ow_nil ?_
      exact x_ql (RW.at (ihk1 (l41) (a43) (c44) (F45) (IntKind.i64.wrap (i19 + 1)) (H)) (fun _ h => St.keep [true, false] rfl h) ⟨rfl, rfl, rfl, rfl, rfl,  trivial⟩)
    · have H := of_if_f hb H
      refine c_exit ?_
      refine x_qs_exit ?_
      refine x_ql_exit ?_
      refine x_qb_here ?_
      refine x_qs ?_
      refine c_seq ?_
      refine c_reg ?_
      refine ow_batch [.p] rfl ?_
      refine ow_r rfl (dstOk_lt rfl) (ry_bts (xs := l15) rfl rfl sl22 in5 st9 (fun w1 hw1 => rds_own (r := 0) rfl w1 hw1)) ?_
      refine ow_batch [.p] rfl ?_
      refine ow_nil ?_
      refine x_qs ?_
      refine c_ret ?_
      exact x_ret1 rfl rfl fun w' hw' => ⟨by rw [of_some H], hw'.ext⟩

theorem laws_FnExactHexText_ok (w : World) {p0 : List Int} {v0 : Value} {r : Bool} (H : laws_FnExactHexText p0 = some r) (g0 : (eList (eVal (Value.int .u8) (fun _ => rfl)) 5).rd w [] p0 [v0]) :
    Calls Try.prog 3 #[v0] w (fun en w' => en = .returned (.bool r) ∧ Ext [] w w') := by
  obtain ⟨a_0, c_0, rfl⟩ := rd_sl g0
  unfold laws_FnExactHexText at H
  refine f_enter (vs := [.slice a_0 p0.length c_0]) Try.func3 rfl Try.ntmps3 rfl (St.init w []) ?_
  refine c_seq ?_
  refine c_reg ?_
  refine ow_batch [.p] rfl ?_
  refine ow_nil ?_
  refine x_qs ?_
  refine c_seq ?_
  refine c_seq ?_
  refine c_reg ?_
  refine ow_batch [.p, .lenS 22 5 sl22, .p] rfl ?_
  refine ow_nil ?_
  refine x_qs ?_
  refine c_if rfl (fun hb => ?_) (fun hb => ?_)
  · have H := of_if_t hb H
    refine c_seq ?_
    refine c_reg ?_
    refine ow_batch [.p] rfl ?_
    refine ow_nil ?_
    refine x_qs ?_
    refine c_ret ?_
    refine x_qs_ret ?_
    exact x_ret1 rfl rfl fun w' hw' => ⟨by rw [of_some H], hw'.ext⟩
  · have H := of_if_f hb H
    refine c_skip ?_
    refine x_qs ?_
    refine c_seq ?_
    refine c_reg ?_
    refine ow_batch [.p] rfl ?_
    obtain ⟨y1, h2, H⟩ := of_bind H
    refine ow_callL rfl fn10 rfl rfl rfl rfl (fun w1 hw1 => laws_toByteS_ok w1 h2 ((fun w1 hw1 => rds_bor g0 w1 hw1) w1 hw1)) (fun _ _ _ => kp) (fun a3 c4 F5 => ?_)
    obtain ⟨y6, h7, H⟩ := of_bind H
    refine ow_q rfl rfl (dstOk_lt rfl) (qy_call rfl fn9 rfl (fun w1 hw1 => spec_HexText_ok w1 h7 ((fun w1 hw1 => rds_own (r := 0) rfl w1 hw1) w1 hw1))) (fun _ _ => trivial) ?_
    refine ow_batch [.p] rfl ?_
    refine ow_nil ?_
    refine x_qs ?_
    refine c_seq ?_
    refine c_reg ?_
    refine ow_batch [.p] rfl ?_
    obtain ⟨y8, h9, H⟩ := of_bind H
    refine ow_callL rfl fn10 rfl rfl rfl rfl (fun w1 hw1 => laws_toByteS_ok w1 h9 ((fun w1 hw1 => rds_bor g0 w1 hw1) w1 hw1)) (fun _ _ _ => kp) (fun a10 c11 F12 => ?_)
    refine ow_batch [.p] rfl ?_
    refine ow_nil ?_
    refine x_qs ?_
    refine c_seq ?_
    refine c_reg ?_
    refine ow_batch [.p] rfl ?_
    obtain ⟨y13, h14, H⟩ := of_bind H
    refine ow_q rfl rfl (dstOk_lt rfl) (qy_call rfl fn11 rfl (fun w1 hw1 => impl_HexText_ok w1 h14 ((fun w1 hw1 => rds_own (r := 1) rfl w1 hw1) w1 hw1))) (fun _ _ => trivial) ?_
    refine ow_batch [.p] rfl ?_
    refine ow_nil ?_
    refine x_qs ?_
    refine c_seq ?_
    refine c_seq ?_
    refine c_reg ?_
    refine ow_batch [.p, .p, .p] rfl ?_
    refine ow_nil ?_
    refine x_qs ?_
    refine c_if rfl (fun hb => ?_) (fun hb => ?_)
    · have H := of_if_t hb H
      refine c_seq ?_
      refine c_reg ?_
      refine ow_batch [.p] rfl ?_
      refine ow_nil ?_
      refine x_qs ?_
      refine c_ret ?_
      refine x_qs_ret ?_
      exact x_ret1 rfl rfl fun w' hw' => ⟨by rw [of_some H], hw'.ext⟩
    · have H := of_if_f hb H
      refine c_skip ?_
      refine x_qs ?_
      refine c_seq ?_
      refine c_seq ?_
      refine c_reg ?_
      refine ow_batch [.p, .p] rfl ?_
      obtain ⟨y15, h16, H⟩ := of_bind H
      refine ow_callL rfl fn10 rfl rfl rfl rfl (fun w1 hw1 => laws_toByteS_ok w1 h16 ((fun w1 hw1 => rds_bor g0 w1 hw1) w1 hw1)) (fun _ _ _ => kp) (fun a17 c18 F19 => ?_)
      obtain ⟨y20, h21, H⟩ := of_bind H
      refine ow_q rfl rfl (dstOk_lt rfl) (qy_call rfl fn12 rfl (fun w1 hw1 => laws_eqByteS_ok w1 h21 ((fun w1 hw1 => rds_own (r := 1) rfl w1 hw1) w1 hw1) ((fun w1 hw1 => rds_own (r := 2) rfl w1 hw1) w1 hw1))) (fun _ _ => trivial) ?_
      refine ow_batch [.p] rfl ?_
      refine ow_nil ?_
      refine x_qs ?_
      refine c_if rfl (fun hb => ?_) (fun hb => ?_)
      · have H := of_if_t hb H
        refine c_seq ?_
        refine c_reg ?_
        refine ow_batch [.p] rfl ?_
        refine ow_nil ?_
        refine x_qs ?_
        refine c_ret ?_
        refine x_qs_ret ?_
        exact x_ret1 rfl rfl fun w' hw' => ⟨by rw [of_some H], hw'.ext⟩
      · have H := of_if_f hb H
        refine c_skip ?_
        refine x_qs ?_
        refine c_seq ?_
        refine c_reg ?_
        refine ow_batch [.p] rfl ?_
        refine ow_nil ?_
        refine x_qs ?_
        refine c_ret ?_
        exact x_ret1 rfl rfl fun w' hw' => ⟨by rw [of_some H], hw'.ext⟩

theorem laws_heldByteS_ok (w : World) {p0 : List Int} {p1 : Int} {v0 : Value} {r : Int} (H : laws_heldByteS p0 p1 = some r) (g0 : (eList (eVal (Value.int .u8) (fun _ => rfl)) 5).rd w [] p0 [v0]) :
    Calls Try.prog 18 #[v0, .int .i64 p1] w (fun en w' => en = .returned (.int .i64 r) ∧ Ext [] w w') := by
  obtain ⟨a_0, c_0, rfl⟩ := rd_sl g0
  unfold laws_heldByteS at H
  refine f_enter (vs := [.slice a_0 p0.length c_0, .int .i64 p1]) Try.func18 rfl Try.ntmps18 rfl (St.init w []) ?_
  refine c_seq ?_
  refine c_reg ?_
  refine ow_batch [.p] rfl ?_
  refine ow_nil ?_
  refine x_qs ?_
  refine c_seq ?_
  refine c_seq ?_
  refine c_reg ?_
  refine ow_batch [.p] rfl ?_
  refine ow_nil ?_
  refine x_qs ?_
  refine c_block ?_
  refine CW.at (loopI2 (fun (i4 : Int) (i5 : Int) => St w [] []) (fun (i4 : Int) (i5 : Int) => [(0, .slice a_0 p0.length c_0), (1, .int .i64 i4), (4, .int .i64 0), (5, .int .i64 i5)]) (fun kk => fun (i4 : Int) (i5 : Int) => laws_heldByteS_L1 p0 kk i4 i5 = some r) (fun _ _ H => ?_) (fun k1 ihk1 i4 i5 H => ?_) Fuel (p1) (0) (H)) (fun _ h => St.keep [] rfl h) ⟨rfl, rfl, rfl, rfl,  trivial⟩
  · unfold laws_heldByteS_L1 at H
    exact absurd H (by simp)
  · unfold laws_heldByteS_L1 at H
    refine c_seq ?_
    refine c_seq ?_
    refine c_reg ?_
    refine ow_batch [.p, .p, .lenS 22 5 sl22, .p] rfl ?_
    refine ow_nil ?_
    refine x_qs ?_
    refine c_if rfl (fun hb => ?_) (fun hb => ?_)
    · have H := of_if_t hb H
      refine c_skip ?_
      refine x_qs ?_
      refine c_seq ?_
      refine c_block ?_
      refine c_seq ?_
      refine c_seq ?_
      refine c_reg ?_
      refine ow_batch [.p, .p] rfl ?_
      obtain ⟨e9, h10, H⟩ := of_bind H
      refine ow_ixV (xs := p0) (j := i5) rfl rfl rfl rfl rfl sl22 ty5 rfl (fun w1 hw1 => rds_bor g0 w1 hw1) (fun w1 hw1 => rds_bor g0 w1 hw1) h10 (fun hA11 => ?_)
      refine ow_r rfl (dstOk_lt rfl) (ry_load1 rfl rfl ty5 hA11) ?_
      refine ow_batch [.p, .cv 3 5 .u8 us3 in5, .p] rfl ?_
      refine ow_nil ?_
      refine x_qs ?_
      refine c_if rfl (fun hb => ?_) (fun hb => ?_)
      · have H := of_if_t hb H
        refine c_seq ?_
        refine c_reg ?_
        refine ow_batch [.p] rfl ?_
        refine ow_nil ?_
        refine x_qs ?_
        refine c_ret ?_
        refine x_qs_ret ?_
        refine x_qb_ret ?_
        refine x_qs_ret ?_
        refine x_ql_ret ?_
        refine x_qb_ret ?_
        refine x_qs_ret ?_
        exact x_ret1 rfl rfl fun w' hw' => ⟨by rw [of_some H], hw'.ext⟩
      · have H := of_if_f hb H
        refine c_skip ?_
        refine x_qs ?_
        refine c_reg ?_
        refine ow_batch [.p, .p, .p] rfl ?_
        refine ow_nil ?_
        refine x_qb ?_
        refine x_qs ?_
        refine c_reg ?_
        refine ow_batch [.p, .p, .p] rfl ?_
        refine ow_nil ?_
        exact x_ql (RW.at (ihk1 (IntKind.i64.wrap (i4 + 1)) (IntKind.i64.wrap (i5 + 1)) (H)) (fun _ h => St.keep [] rfl h) ⟨rfl, rfl, rfl, rfl,  trivial⟩)
    · have H := of_if_f hb H
      refine c_exit ?_
      refine x_qs_exit ?_
      refine x_ql_exit ?_
      refine x_qb_here ?_
      refine x_qs ?_
      refine c_seq ?_
      refine c_reg ?_
      refine ow_batch [.p, .p] rfl ?_
      refine ow_nil ?_
      refine x_qs ?_
      refine c_ret ?_
      exact x_ret1 rfl rfl fun w' hw' => ⟨by rw [of_some H], hw'.ext⟩

theorem laws_big_ok (w : World) {p0 : List Int} {v0 : Value} {r : Bool} (H : laws_big p0 = some r) (g0 : (eList (eVal (Value.int .u8) (fun _ => rfl)) 5).rd w [] p0 [v0]) :
    Calls Try.prog 19 #[v0] w (fun en w' => en = .returned (.bool r) ∧ Ext [] w w') := by
  obtain ⟨a_0, c_0, rfl⟩ := rd_sl g0
  unfold laws_big at H
  refine f_enter (vs := [.slice a_0 p0.length c_0]) Try.func19 rfl Try.ntmps19 rfl (St.init w []) ?_
  refine c_seq ?_
  refine c_reg ?_
  refine ow_batch [.p] rfl ?_
  refine ow_nil ?_
  refine x_qs ?_
  refine c_seq ?_
  refine c_reg ?_
  refine ow_batch [.p, .lenS 22 5 sl22, .p, .p] rfl ?_
  refine ow_nil ?_
  refine x_qs ?_
  refine c_ret ?_
  exact x_ret1 rfl rfl fun w' hw' => ⟨by rw [of_some H], hw'.ext⟩

theorem laws_at0_ok (w : World) {p0 : List Int} {p1 : Int} {v0 : Value} {r : Int} (H : laws_at0 p0 p1 = some r) (g0 : (eList (eVal (Value.int .u8) (fun _ => rfl)) 5).rd w [] p0 [v0]) :
    Calls Try.prog 21 #[v0, .int .i64 p1] w (fun en w' => en = .returned (.int .i64 r) ∧ Ext [] w w') := by
  obtain ⟨a_0, c_0, rfl⟩ := rd_sl g0
  unfold laws_at0 at H
  refine f_enter (vs := [.slice a_0 p0.length c_0, .int .i64 p1]) Try.func21 rfl Try.ntmps21 rfl (St.init w []) ?_
  refine c_seq ?_
  refine c_reg ?_
  refine ow_batch [.p] rfl ?_
  refine ow_nil ?_
  refine x_qs ?_
  refine c_seq ?_
  refine c_seq ?_
  refine c_reg ?_
  refine ow_batch [.p, .p, .lenS 22 5 sl22, .p] rfl ?_
  refine ow_nil ?_
  refine x_qs ?_
  refine c_if rfl (fun hb => ?_) (fun hb => ?_)
  · have H := of_if_t hb H
    refine c_seq ?_
    refine c_reg ?_
    refine ow_batch [.p, .p] rfl ?_
    obtain ⟨e1, h2, H⟩ := of_bind H
    refine ow_ixV (xs := p0) (j := p1) rfl rfl rfl rfl rfl sl22 ty5 rfl (fun w1 hw1 => rds_bor g0 w1 hw1) (fun w1 hw1 => rds_bor g0 w1 hw1) h2 (fun hA3 => ?_)
    refine ow_r rfl (dstOk_lt rfl) (ry_load1 rfl rfl ty5 hA3) ?_
    refine ow_batch [.cv 5 3 .i64 us5 in3, .p] rfl ?_
    refine ow_nil ?_
    refine x_qs ?_
    refine c_ret ?_
    refine x_qs_ret ?_
    exact x_ret1 rfl rfl fun w' hw' => ⟨by rw [of_some H], hw'.ext⟩
  · have H := of_if_f hb H
    refine c_skip ?_
    refine x_qs ?_
    refine c_seq ?_
    refine c_reg ?_
    refine ow_batch [.p, .p, .p, .lenS 22 5 sl22, .p, .p, .p] rfl ?_
    refine ow_nil ?_
    refine x_qs ?_
    refine c_ret ?_
    exact x_ret1 rfl rfl fun w' hw' => ⟨by rw [of_some H], hw'.ext⟩

theorem laws_bit_ok (w : World) {p0 : Int} {r : Int} (H : laws_bit p0 = some r)  :
    Calls Try.prog 22 #[.int .i64 p0] w (fun en w' => en = .returned (.int .u8 r) ∧ Ext [] w w') := by
  unfold laws_bit at H
  refine f_enter (vs := [.int .i64 p0]) Try.func22 rfl Try.ntmps22 rfl (St.init w []) ?_
  refine c_seq ?_
  refine c_reg ?_
  refine ow_batch [.p] rfl ?_
  refine ow_nil ?_
  refine x_qs ?_
  refine c_seq ?_
  refine c_reg ?_
  refine ow_batch [.p] rfl ?_
  refine ow_nil ?_
  refine x_qs ?_
  refine c_seq ?_
  refine c_seq ?_
  refine c_reg ?_
  refine ow_batch [.p] rfl ?_
  refine ow_nil ?_
  refine x_qs ?_
  refine c_block ?_
  refine CW.at (loopI2 (fun (i1 : Int) (i2 : Int) => St w [] []) (fun (i1 : Int) (i2 : Int) => [(0, .int .i64 p0), (2, .int .u8 0), (3, .int .i64 i1), (4, .int .i64 i2)]) (fun kk => fun (i1 : Int) (i2 : Int) => laws_bit_L1 p0 kk i1 i2 = some r) (fun _ _ H => ?_) (fun k1 ihk1 i1 i2 H => ?_) Fuel (1) (0) (H)) (fun _ h => St.keep [] rfl h) ⟨rfl, rfl, rfl, rfl,  trivial⟩
  · unfold laws_bit_L1 at H
    exact absurd H (by simp)
  · unfold laws_bit_L1 at H
    refine c_seq ?_
    refine c_seq ?_
    refine c_reg ?_
    refine ow_batch [.p, .p, .p, .p] rfl ?_
    refine ow_nil ?_
    refine x_qs ?_
    refine c_if rfl (fun hb => ?_) (fun hb => ?_)
    · have H := of_if_t hb H
      refine c_skip ?_
      refine x_qs ?_
      refine c_seq ?_
      refine c_block ?_
      refine c_reg ?_
      refine ow_batch [.p, .p, .p] rfl ?_
      refine ow_nil ?_
      refine x_qb ?_
      refine x_qs ?_
      refine c_reg ?_
      refine ow_batch [.p, .p, .p] rfl ?_
      refine ow_nil ?_
      exact x_ql (RW.at (ihk1 (IntKind.i64.wrap (2 * i1)) (IntKind.i64.wrap (i2 + 1)) (H)) (fun _ h => St.keep [] rfl h) ⟨rfl, rfl, rfl, rfl,  trivial⟩)
    · have H := of_if_f hb H
      refine c_exit ?_
      refine x_qs_exit ?_
      refine x_ql_exit ?_
      refine x_qb_here ?_
      refine x_qs ?_
      refine c_seq ?_
      refine c_reg ?_
      refine ow_batch [.p, .cv 3 5 .u8 us3 in5, .p] rfl ?_
      refine ow_nil ?_
      refine x_qs ?_
      refine c_ret ?_
      exact x_ret1 rfl rfl fun w' hw' => ⟨by rw [of_some H], hw'.ext⟩

theorem spec_l32Half_ok (w : World) {p0 : Int} {r : Int} (H : spec_l32Half p0 = some r)  :
    Calls Try.prog 35 #[.int .u8 p0] w (fun en w' => en = .returned (.int .i64 r) ∧ Ext [] w w') := by
  unfold spec_l32Half at H
  refine f_enter (vs := [.int .u8 p0]) Try.func35 rfl Try.ntmps35 rfl (St.init w []) ?_
  refine c_seq ?_
  refine c_reg ?_
  refine ow_batch [.p] rfl ?_
  refine ow_nil ?_
  refine x_qs ?_
  refine c_seq ?_
  refine c_seq ?_
  refine c_reg ?_
  refine ow_batch [.p, .p, .p] rfl ?_
  refine ow_cut [(8, .bool ((decide (p0 ≥ 48)) && (decide (p0 ≤ 57)))), (0, .int .u8 p0), (2, .int .i64 0)] 3 ?_ (fun key => OW.sub (R := [(0, .int .u8 p0), (2, .int .i64 0), (5, .bool (decide (p0 ≥ 48)))]) ?_ ⟨rfl, rfl, rfl, trivial⟩)
  · refine ow_nil ?_
    refine x_qs ?_
    refine c_if rfl (fun hb => ?_) (fun hb => ?_)
    · have H := of_if_t hb H
      refine c_seq ?_
      refine c_reg ?_
      refine ow_batch [.p, .cv 5 3 .i64 us5 in3, .p, .p] rfl ?_
      refine ow_nil ?_
      refine x_qs ?_
      refine c_ret ?_
      refine x_qs_ret ?_
      exact x_ret1 rfl rfl fun w' hw' => ⟨by rw [of_some H], hw'.ext⟩
    · have H := of_if_f hb H
      refine c_skip ?_
      refine x_qs ?_
      refine c_seq ?_
      refine c_seq ?_
      refine c_reg ?_
      refine ow_batch [.p, .p, .p] rfl ?_
      refine ow_cut [(17, .bool ((decide (p0 ≥ 97)) && (decide (p0 ≤ 102)))), (0, .int .u8 p0), (2, .int .i64 0)] 3 ?_ (fun key => OW.sub (R := [(0, .int .u8 p0), (2, .int .i64 0), (14, .bool (decide (p0 ≥ 97)))]) ?_ ⟨rfl, rfl, rfl, trivial⟩)
      · refine ow_nil ?_
        refine x_qs ?_
        refine c_if rfl (fun hb => ?_) (fun hb => ?_)
        · have H := of_if_t hb H
          refine c_seq ?_
          refine c_reg ?_
          refine ow_batch [.p, .cv 5 3 .i64 us5 in3, .p, .p] rfl ?_
          refine ow_nil ?_
          refine x_qs ?_
          refine c_ret ?_
          refine x_qs_ret ?_
          exact x_ret1 rfl rfl fun w' hw' => ⟨by rw [of_some H], hw'.ext⟩
        · have H := of_if_f hb H
          refine c_skip ?_
          refine x_qs ?_
          refine c_seq ?_
          refine c_reg ?_
          refine ow_batch [.p] rfl ?_
          refine ow_nil ?_
          refine x_qs ?_
          refine c_ret ?_
          exact x_ret1 rfl rfl fun w' hw' => ⟨by rw [of_some H], hw'.ext⟩
      · generalize (decide (p0 ≥ 97)) = t4 at key ⊢
        cases t4
        · refine ow_batch [.p, .p, .p] rfl ?_
          exact OW.sub key ⟨rfl, rfl, rfl, trivial⟩
        · refine ow_batch [.p, .p] rfl ?_
          refine ow_batch [.p] rfl ?_
          exact OW.sub key ⟨rfl, rfl, rfl, trivial⟩
  · generalize (decide (p0 ≥ 48)) = t2 at key ⊢
    cases t2
    · refine ow_batch [.p, .p, .p] rfl ?_
      exact OW.sub key ⟨rfl, rfl, rfl, trivial⟩
    · refine ow_batch [.p, .p] rfl ?_
      refine ow_batch [.p] rfl ?_
      exact OW.sub key ⟨rfl, rfl, rfl, trivial⟩

theorem impl_within_ok (w : World) {p0 : Int} {p1 : Int} {p2 : Int} {r : Bool} (H : impl_within p0 p1 p2 = some r)  :
    Calls Try.prog 30 #[.int .i64 p0, .int .i64 p1, .int .i64 p2] w (fun en w' => en = .returned (.bool r) ∧ Ext [] w w') := by
  unfold impl_within at H
  refine f_enter (vs := [.int .i64 p0, .int .i64 p1, .int .i64 p2]) Try.func30 rfl Try.ntmps30 rfl (St.init w []) ?_
  refine c_seq ?_
  refine c_reg ?_
  refine ow_batch [.p] rfl ?_
  refine ow_nil ?_
  refine x_qs ?_
  refine c_seq ?_
  refine c_reg ?_
  refine ow_batch [.p, .p, .p, .p] rfl ?_
  refine ow_cut [(14, .bool ((decide (p0 ≥ p1)) && (decide (p0 ≤ p2)))), (6, .bool false)] 4 ?_ (fun key => OW.sub (R := [(0, .int .i64 p0), (2, .int .i64 p2), (6, .bool false), (10, .bool (decide (p0 ≥ p1)))]) ?_ ⟨rfl, rfl, rfl, rfl, trivial⟩)
  · refine ow_batch [.p] rfl ?_
    refine ow_nil ?_
    refine x_qs ?_
    refine c_ret ?_
    exact x_ret1 rfl rfl fun w' hw' => ⟨by rw [of_some H], hw'.ext⟩
  · generalize (decide (p0 ≥ p1)) = t2 at key ⊢
    cases t2
    · refine ow_batch [.p, .p, .p, .p] rfl ?_
      exact OW.sub key ⟨rfl, rfl, trivial⟩
    · refine ow_batch [.p, .p, .p] rfl ?_
      refine ow_batch [.p] rfl ?_
      exact OW.sub key ⟨rfl, rfl, trivial⟩

theorem spec_l1In_ok (w : World) {p0 : Int} {p1 : Int} {p2 : Int} {r : Bool} (H : spec_l1In p0 p1 p2 = some r)  :
    Calls Try.prog 28 #[.int .i64 p0, .int .i64 p1, .int .i64 p2] w (fun en w' => en = .returned (.bool r) ∧ Ext [] w w') := by
  unfold spec_l1In at H
  refine f_enter (vs := [.int .i64 p0, .int .i64 p1, .int .i64 p2]) Try.func28 rfl Try.ntmps28 rfl (St.init w []) ?_
  refine c_seq ?_
  refine c_reg ?_
  refine ow_batch [.p] rfl ?_
  refine ow_nil ?_
  refine x_qs ?_
  refine c_seq ?_
  refine c_reg ?_
  refine ow_batch [.p, .p, .p, .p] rfl ?_
  refine ow_cut [(14, .bool ((decide (p0 ≥ p1)) && (decide (p0 ≤ p2)))), (6, .bool false)] 4 ?_ (fun key => OW.sub (R := [(0, .int .i64 p0), (2, .int .i64 p2), (6, .bool false), (10, .bool (decide (p0 ≥ p1)))]) ?_ ⟨rfl, rfl, rfl, rfl, trivial⟩)
  · refine ow_batch [.p] rfl ?_
    refine ow_nil ?_
    refine x_qs ?_
    refine c_ret ?_
    exact x_ret1 rfl rfl fun w' hw' => ⟨by rw [of_some H], hw'.ext⟩
  · generalize (decide (p0 ≥ p1)) = t2 at key ⊢
    cases t2
    · refine ow_batch [.p, .p, .p, .p] rfl ?_
      exact OW.sub key ⟨rfl, rfl, trivial⟩
    · refine ow_batch [.p, .p, .p] rfl ?_
      refine ow_batch [.p] rfl ?_
      exact OW.sub key ⟨rfl, rfl, trivial⟩

theorem spec_PutNum_ok (w : World) {p0 : Int} {r : List Int} (H : spec_PutNum p0 = some r)  :
    Calls Try.prog 29 #[.int .i64 p0] w (RetO (eList (eVal (Value.int .u8) (fun _ => rfl)) 5) r w) := by
  unfold spec_PutNum at H
  refine f_enter (vs := [.int .i64 p0]) Try.func29 rfl Try.ntmps29 rfl (St.init w []) ?_
  refine c_seq ?_
  refine c_reg ?_
  refine ow_batch [.p] rfl ?_
  refine ow_nil ?_
  refine x_qs ?_
  refine c_seq ?_
  refine c_reg ?_
  refine ow_blit0 (e := eVal (Value.int .u8) (fun _ => rfl)) rfl rfl rfl rfl sl22 ty5 (fun _ => kp) (fun b1 => ?_)
  refine ow_batch [.p] rfl ?_
  refine ow_nil ?_
  refine x_qs ?_
  refine c_seq ?_
  refine c_seq ?_
  refine c_reg ?_
  refine ow_batch [.p] rfl ?_
  obtain ⟨y2, h3, H⟩ := of_bind H
  refine ow_q rfl rfl (dstOk_lt rfl) (qy_call rfl fn28 rfl (fun w1 hw1 => spec_l1In_ok w1 h3 )) (fun _ _ => trivial) ?_
  refine ow_batch [.p] rfl ?_
  refine ow_nil ?_
  refine x_qs ?_
  refine c_if rfl (fun hb => ?_) (fun hb => ?_)
  · have H := of_if_t hb H
    refine c_seq ?_
    refine c_reg ?_
    refine ow_batch [.p, .p] rfl ?_
    refine ow_nil ?_
    refine x_qs ?_
    refine c_ret ?_
    refine x_qs_ret ?_
    exact x_ret1 rfl rfl fun w' hw' => of_some H ▸ ret_own (i := 0) hw' rfl
  · have H := of_if_f hb H
    refine c_skip ?_
    refine x_qs ?_
    refine c_seq ?_
    refine c_block ?_
    refine CW.at (loopI5 (fun (l16 : List Int) (a17 : Option Addr) (c18 : Nat) (F19 : List Nat) (i20 : Int) => St w [] [Res.own (eList (eVal (Value.int .u8) (fun _ => rfl)) 5) F19 l16 [.slice a17 l16.length c18]]) (fun (l16 : List Int) (a17 : Option Addr) (c18 : Nat) (F19 : List Nat) (i20 : Int) => [(0, .int .i64 i20), (2, .slice none 0 0), (3, .slice a17 l16.length c18)]) (fun kk => fun (l16 : List Int) (a17 : Option Addr) (c18 : Nat) (F19 : List Nat) (i20 : Int) => spec_PutNum_L1 kk l16 i20 = some r) (fun _ _ _ _ _ H => ?_) (fun k1 ihk1 l16 a17 c18 F19 i20 H => ?_) Fuel (([] : List Int)) (some ⟨b1, 0, none⟩) (0) ([b1]) (p0) (H)) (fun _ h => St.keep [true] rfl h) ⟨rfl, rfl, rfl,  trivial⟩
    · unfold spec_PutNum_L1 at H
      exact absurd H (by simp)
    · unfold spec_PutNum_L1 at H
      refine c_seq ?_
      refine c_seq ?_
      refine c_reg ?_
      refine ow_batch [.p, .p] rfl ?_
      refine ow_nil ?_
      refine x_qs ?_
      refine c_if rfl (fun hb => ?_) (fun hb => ?_)
      · have H := of_if_t hb H
        refine c_skip ?_
        refine x_qs ?_
        refine c_block ?_
        refine c_seq ?_
        refine c_reg ?_
        refine ow_batch [.p, .p, .p, .p, .cv 3 5 .u8 us3 in5] rfl ?_
        refine ow_blit (val := Value.int .u8) (h1 := fun _ => rfl) [IntKind.u8.wrap (IntKind.i64.wrap ((Int.tmod i20 128) + 128))] [(0, [.int .u8 (IntKind.u8.wrap (IntKind.i64.wrap ((Int.tmod i20 128) + 128)))])] rfl rfl rfl rfl rfl sl22 ty5 rfl rfl rfl ⟨rfl, rfl, Nat.le_of_ble_eq_true rfl,  trivial⟩ rfl rfl (fun _ => kp) (fun b33 => ?_)
        obtain ⟨l34, h35, H⟩ := of_bind H
        refine ow_appR (r := 0) rfl rfl rfl rfl rfl rfl sl22 ty5 rfl rfl rfl (fun w1 hw1 => rds_own (r := 1) rfl w1 hw1) h35 (fun _ _ _ => kp) (fun a36 c37 F38 => ?_)
        refine ow_batch [.p] rfl ?_
        refine ow_nil ?_
        refine x_qs ?_
        refine c_reg ?_
        refine ow_batch [.p, .p, .p] rfl ?_
        refine ow_nil ?_
        refine x_qb ?_
        exact x_ql (RW.at (ihk1 (l34) (a36) (c37) (F38) (IntKind.i64.wrap (Int.tdiv i20 128)) (H)) (fun _ h => St.keep [true, false] rfl h) ⟨rfl, rfl, rfl,  trivial⟩)
      · have H := of_if_f hb H
        refine c_exit ?_
        refine x_qs_exit ?_
        refine x_ql_exit ?_
        refine x_qb_here ?_
        refine x_qs ?_
        refine c_seq ?_
        refine c_reg ?_
        refine ow_batch [.p, .p, .cv 3 5 .u8 us3 in5] rfl ?_
        refine ow_blit (val := Value.int .u8) (h1 := fun _ => rfl) [IntKind.u8.wrap i20] [(0, [.int .u8 (IntKind.u8.wrap i20)])] rfl rfl rfl rfl rfl sl22 ty5 rfl rfl rfl ⟨rfl, rfl, Nat.le_of_ble_eq_true rfl,  trivial⟩ rfl rfl (fun _ => kp) (fun b39 => ?_)
        obtain ⟨l40, h41, H⟩ := of_bind H
        refine ow_appR (r := 0) rfl rfl rfl rfl rfl rfl sl22 ty5 rfl rfl rfl (fun w1 hw1 => rds_own (r := 1) rfl w1 hw1) h41 (fun _ _ _ => kp) (fun a42 c43 F44 => ?_)
        refine ow_batch [.p] rfl ?_
        refine ow_nil ?_
        refine x_qs ?_
        refine c_ret ?_
        exact x_ret1 rfl rfl fun w' hw' => of_some H ▸ ret_own (i := 0) hw' rfl

theorem impl_PutNum_ok (w : World) {p0 : Int} {r : List Int} (H : impl_PutNum p0 = some r)  :
    Calls Try.prog 31 #[.int .i64 p0] w (RetO (eList (eVal (Value.int .u8) (fun _ => rfl)) 5) r w) := by
  unfold impl_PutNum at H
  refine f_enter (vs := [.int .i64 p0]) Try.func31 rfl Try.ntmps31 rfl (St.init w []) ?_
  refine c_seq ?_
  refine c_reg ?_
  refine ow_batch [.p] rfl ?_
  refine ow_nil ?_
  refine x_qs ?_
  refine c_seq ?_
  refine c_seq ?_
  refine c_reg ?_
  refine ow_batch [.p] rfl ?_
  obtain ⟨y1, h2, H⟩ := of_bind H
  refine ow_q rfl rfl (dstOk_lt rfl) (qy_call rfl fn30 rfl (fun w1 hw1 => impl_within_ok w1 h2 )) (fun _ _ => trivial) ?_
  refine ow_batch [.p] rfl ?_
  refine ow_nil ?_
  refine x_qs ?_
  refine c_if rfl (fun hb => ?_) (fun hb => ?_)
  · have H := of_if_t hb H
    refine c_seq ?_
    refine c_reg ?_
    refine ow_batch [.p] rfl ?_
    refine ow_nil ?_
    refine x_qs ?_
    refine c_ret ?_
    refine x_qs_ret ?_
    exact x_ret1 rfl rfl fun w' hw' => of_some H ▸ ret_nil hw'
  · have H := of_if_f hb H
    refine c_skip ?_
    refine x_qs ?_
    refine c_seq ?_
    refine c_reg ?_
    refine ow_blit0 (e := eVal (Value.int .u8) (fun _ => rfl)) rfl rfl rfl rfl sl22 ty5 (fun _ => kp) (fun b3 => ?_)
    refine ow_batch [.p] rfl ?_
    refine ow_nil ?_
    refine x_qs ?_
    refine c_seq ?_
    refine c_block ?_
    refine CW.at (loopI5 (fun (l16 : List Int) (a17 : Option Addr) (c18 : Nat) (F19 : List Nat) (i20 : Int) => St w [] [Res.own (eList (eVal (Value.int .u8) (fun _ => rfl)) 5) F19 l16 [.slice a17 l16.length c18]]) (fun (l16 : List Int) (a17 : Option Addr) (c18 : Nat) (F19 : List Nat) (i20 : Int) => [(0, .int .i64 i20), (2, .slice none 0 0), (3, .slice a17 l16.length c18)]) (fun kk => fun (l16 : List Int) (a17 : Option Addr) (c18 : Nat) (F19 : List Nat) (i20 : Int) => impl_PutNum_L1 kk l16 i20 = some r) (fun _ _ _ _ _ H => ?_) (fun k1 ihk1 l16 a17 c18 F19 i20 H => ?_) Fuel (([] : List Int)) (some ⟨b3, 0, none⟩) (0) ([b3]) (p0) (H)) (fun _ h => St.keep [true] rfl h) ⟨rfl, rfl, rfl,  trivial⟩
    · unfold impl_PutNum_L1 at H
      exact absurd H (by simp)
    · unfold impl_PutNum_L1 at H
      refine c_seq ?_
      refine c_seq ?_
      refine c_reg ?_
      refine ow_batch [.p, .p] rfl ?_
      refine ow_nil ?_
      refine x_qs ?_
      refine c_if rfl (fun hb => ?_) (fun hb => ?_)
      · have H := of_if_t hb H
        refine c_skip ?_
        refine x_qs ?_
        refine c_block ?_
        refine c_seq ?_
        refine c_reg ?_
        refine ow_batch [.p, .p, .p, .p, .cv 3 5 .u8 us3 in5] rfl ?_
        refine ow_blit (val := Value.int .u8) (h1 := fun _ => rfl) [IntKind.u8.wrap (ibits .or .i64 (ibits .and .i64 i20 127) 128)] [(0, [.int .u8 (IntKind.u8.wrap (ibits .or .i64 (ibits .and .i64 i20 127) 128))])] rfl rfl rfl rfl rfl sl22 ty5 rfl rfl rfl ⟨rfl, rfl, Nat.le_of_ble_eq_true rfl,  trivial⟩ rfl rfl (fun _ => kp) (fun b33 => ?_)
        obtain ⟨l34, h35, H⟩ := of_bind H
        refine ow_appR (r := 0) rfl rfl rfl rfl rfl rfl sl22 ty5 rfl rfl rfl (fun w1 hw1 => rds_own (r := 1) rfl w1 hw1) h35 (fun _ _ _ => kp) (fun a36 c37 F38 => ?_)
        refine ow_batch [.p] rfl ?_
        refine ow_nil ?_
        refine x_qs ?_
        refine c_reg ?_
        refine ow_batch [.p, .p, .p] rfl ?_
        refine ow_nil ?_
        refine x_qb ?_
        exact x_ql (RW.at (ihk1 (l34) (a36) (c37) (F38) (ishr .i64 i20 7) (H)) (fun _ h => St.keep [true, false] rfl h) ⟨rfl, rfl, rfl,  trivial⟩)
      · have H := of_if_f hb H
        refine c_exit ?_
        refine x_qs_exit ?_
        refine x_ql_exit ?_
        refine x_qb_here ?_
        refine x_qs ?_
        refine c_seq ?_
        refine c_reg ?_
        refine ow_batch [.p, .p, .cv 3 5 .u8 us3 in5] rfl ?_
        refine ow_blit (val := Value.int .u8) (h1 := fun _ => rfl) [IntKind.u8.wrap i20] [(0, [.int .u8 (IntKind.u8.wrap i20)])] rfl rfl rfl rfl rfl sl22 ty5 rfl rfl rfl ⟨rfl, rfl, Nat.le_of_ble_eq_true rfl,  trivial⟩ rfl rfl (fun _ => kp) (fun b39 => ?_)
        obtain ⟨l40, h41, H⟩ := of_bind H
        refine ow_appR (r := 0) rfl rfl rfl rfl rfl rfl sl22 ty5 rfl rfl rfl (fun w1 hw1 => rds_own (r := 1) rfl w1 hw1) h41 (fun _ _ _ => kp) (fun a42 c43 F44 => ?_)
        refine ow_batch [.p] rfl ?_
        refine ow_nil ?_
        refine x_qs ?_
        refine c_ret ?_
        exact x_ret1 rfl rfl fun w' hw' => of_some H ▸ ret_own (i := 0) hw' rfl

theorem spec_PutInt_ok (w : World) {p0 : Int} {r : List Int} (H : spec_PutInt p0 = some r)  :
    Calls Try.prog 15 #[.int .i64 p0] w (RetO (eList (eVal (Value.int .u8) (fun _ => rfl)) 5) r w) := by
  unfold spec_PutInt at H
  refine f_enter (vs := [.int .i64 p0]) Try.func15 rfl Try.ntmps15 rfl (St.init w []) ?_
  refine c_seq ?_
  refine c_reg ?_
  refine ow_batch [.p] rfl ?_
  refine ow_nil ?_
  refine x_qs ?_
  refine c_seq ?_
  refine c_seq ?_
  refine c_reg ?_
  refine ow_batch [.p] rfl ?_
  obtain ⟨y1, h2, H⟩ := of_bind H
  refine ow_q rfl rfl (dstOk_lt rfl) (qy_call rfl fn28 rfl (fun w1 hw1 => spec_l1In_ok w1 h2 )) (fun _ _ => trivial) ?_
  refine ow_batch [.p] rfl ?_
  refine ow_nil ?_
  refine x_qs ?_
  refine c_if rfl (fun hb => ?_) (fun hb => ?_)
  · have H := of_if_t hb H
    refine c_seq ?_
    refine c_reg ?_
    refine ow_blit0 (e := eVal (Value.int .u8) (fun _ => rfl)) rfl rfl rfl rfl sl22 ty5 (fun _ => kp) (fun b3 => ?_)
    refine ow_batch [.p] rfl ?_
    refine ow_nil ?_
    refine x_qs ?_
    refine c_ret ?_
    refine x_qs_ret ?_
    exact x_ret1 rfl rfl fun w' hw' => of_some H ▸ ret_own (i := 0) hw' rfl
  · have H := of_if_f hb H
    refine c_skip ?_
    refine x_qs ?_
    refine c_seq ?_
    refine c_seq ?_
    refine c_reg ?_
    refine ow_batch [.p, .p] rfl ?_
    refine ow_nil ?_
    refine x_qs ?_
    refine c_if rfl (fun hb => ?_) (fun hb => ?_)
    · have H := of_if_t hb H
      refine c_seq ?_
      refine c_reg ?_
      refine ow_batch [.p, .p, .p, .p] rfl ?_
      obtain ⟨y4, h5, H⟩ := of_bind H
      refine ow_callL rfl fn29 rfl rfl rfl rfl (fun w1 hw1 => spec_PutNum_ok w1 h5 ) (fun _ _ _ => kp) (fun a6 c7 F8 => ?_)
      refine ow_batch [.p] rfl ?_
      refine ow_nil ?_
      refine x_qs ?_
      refine c_ret ?_
      refine x_qs_ret ?_
      exact x_ret1 rfl rfl fun w' hw' => of_some H ▸ ret_own (i := 0) hw' rfl
    · have H := of_if_f hb H
      refine c_skip ?_
      refine x_qs ?_
      refine c_seq ?_
      refine c_reg ?_
      refine ow_batch [.p, .p] rfl ?_
      obtain ⟨y9, h10, H⟩ := of_bind H
      refine ow_callL rfl fn29 rfl rfl rfl rfl (fun w1 hw1 => spec_PutNum_ok w1 h10 ) (fun _ _ _ => kp) (fun a11 c12 F13 => ?_)
      refine ow_batch [.p] rfl ?_
      refine ow_nil ?_
      refine x_qs ?_
      refine c_ret ?_
      exact x_ret1 rfl rfl fun w' hw' => of_some H ▸ ret_own (i := 0) hw' rfl

theorem impl_PutInt_ok (w : World) {p0 : Int} {r : List Int} (H : impl_PutInt p0 = some r)  :
    Calls Try.prog 16 #[.int .i64 p0] w (RetO (eList (eVal (Value.int .u8) (fun _ => rfl)) 5) r w) := by
  unfold impl_PutInt at H
  refine f_enter (vs := [.int .i64 p0]) Try.func16 rfl Try.ntmps16 rfl (St.init w []) ?_
  refine c_seq ?_
  refine c_reg ?_
  refine ow_batch [.p] rfl ?_
  refine ow_nil ?_
  refine x_qs ?_
  refine c_seq ?_
  refine c_block ?_
  refine c_seq ?_
  refine c_reg ?_
  refine ow_batch [.p] rfl ?_
  obtain ⟨y1, h2, H⟩ := of_bind H
  refine ow_q rfl rfl (dstOk_lt rfl) (qy_call rfl fn30 rfl (fun w1 hw1 => impl_within_ok w1 h2 )) (fun _ _ => trivial) ?_
  refine ow_batch [.p, .p] rfl ?_
  refine ow_nil ?_
  refine x_qs ?_
  refine c_if rfl (fun hb => ?_) (fun hb => ?_)
  · have H := of_if_t hb H
    refine c_seq ?_
    refine c_reg ?_
    refine ow_batch [.p] rfl ?_
    refine ow_nil ?_
    refine x_qs ?_
    refine c_ret ?_
    refine x_qb_ret ?_
    refine x_qs_ret ?_
    exact x_ret1 rfl rfl fun w' hw' => of_some H ▸ ret_nil hw'
  · have H := of_if_f hb H
    refine c_seq ?_
    refine c_reg ?_
    refine ow_batch [.p, .p, .p] rfl ?_
    refine ow_nil ?_
    refine x_qs ?_
    refine c_if rfl (fun hb => ?_) (fun hb => ?_)
    · have H := of_if_t hb H
      refine c_seq ?_
      refine c_reg ?_
      refine ow_batch [.p, .p, .p] rfl ?_
      obtain ⟨y3, h4, H⟩ := of_bind H
      refine ow_callL rfl fn31 rfl rfl rfl rfl (fun w1 hw1 => impl_PutNum_ok w1 h4 ) (fun _ _ _ => kp) (fun a5 c6 F7 => ?_)
      refine ow_batch [.p] rfl ?_
      refine ow_nil ?_
      refine x_qs ?_
      refine c_ret ?_
      refine x_qb_ret ?_
      refine x_qs_ret ?_
      exact x_ret1 rfl rfl fun w' hw' => of_some H ▸ ret_own (i := 0) hw' rfl
    · have H := of_if_f hb H
      refine c_skip ?_
      refine x_qb ?_
      refine x_qs ?_
      refine c_seq ?_
      refine c_reg ?_
      refine ow_batch [.p, .p] rfl ?_
      obtain ⟨y8, h9, H⟩ := of_bind H
      refine ow_callL rfl fn31 rfl rfl rfl rfl (fun w1 hw1 => impl_PutNum_ok w1 h9 ) (fun _ _ _ => kp) (fun a10 c11 F12 => ?_)
      refine ow_batch [.p] rfl ?_
      refine ow_nil ?_
      refine x_qs ?_
      refine c_ret ?_
      exact x_ret1 rfl rfl fun w' hw' => of_some H ▸ ret_own (i := 0) hw' rfl

theorem laws_markByteS_ok (w : World) {p0 : List Int} {p1 : Int} {v0 : Value} {F0 : List Nat} {r : Int × List Int} (H : laws_markByteS p0 p1 = some r) (g0 : (eList (eVal (Value.int .u8) (fun _ => rfl)) 5).own w F0 p0 [v0]) (n0 : F0.Nodup) :
    Calls Try.prog 17 #[v0, .int .i64 p1] w (RetM (eList (eVal (Value.int .u8) (fun _ => rfl)) 5) F0 r.2 v0 (.int .i64 r.1) w) := by
  obtain ⟨a_0, c_0, rfl⟩ := own_sl g0
  unfold laws_markByteS at H
  refine f_enter (vs := [.slice a_0 p0.length c_0, .int .i64 p1]) Try.func17 rfl Try.ntmps17 rfl (St.initM g0 n0) ?_
  refine c_seq ?_
  refine c_reg ?_
  refine ow_batch [.p] rfl ?_
  refine ow_nil ?_
  refine x_qs ?_
  refine c_seq ?_
  refine c_seq ?_
  refine c_reg ?_
  refine ow_batch [.p] rfl ?_
  refine ow_nil ?_
  refine x_qs ?_
  refine c_block ?_
  refine CW.at (loopI3 (fun (l4 : List Int) (i5 : Int) (i6 : Int) => St w F0 [Res.own (eList (eVal (Value.int .u8) (fun _ => rfl)) 5) F0 l4 [.slice a_0 p0.length c_0]]) (fun (l4 : List Int) (i5 : Int) (i6 : Int) => [(0, .slice a_0 p0.length c_0), (1, .int .i64 i5), (4, .int .i64 0), (5, .int .i64 i6)]) (fun kk => fun (l4 : List Int) (i5 : Int) (i6 : Int) => laws_markByteS_L1 p0 kk l4 i5 i6 = some r) (fun _ _ _ H => ?_) (fun k1 ihk1 l4 i5 i6 H => ?_) Fuel (p0) (p1) (0) (H)) (fun _ h => St.keep [true] rfl h) ⟨rfl, rfl, rfl, rfl,  trivial⟩
  · unfold laws_markByteS_L1 at H
    exact absurd H (by simp)
  · unfold laws_markByteS_L1 at H
    refine c_seq ?_
    refine c_seq ?_
    refine c_reg ?_
    refine ow_batch [.p, .p, .lenS 22 5 sl22, .p] rfl ?_
    refine ow_nil ?_
    refine x_qs ?_
    refine c_if rfl (fun hb => ?_) (fun hb => ?_)
    · have H := of_if_t hb H
      refine c_skip ?_
      refine x_qs ?_
      refine c_seq ?_
      refine c_block ?_
      refine c_seq ?_
      refine c_reg ?_
      refine ow_batch [.p, .p, .p, .cv 3 5 .u8 us3 in5] rfl ?_
      obtain ⟨e10, h11, H⟩ := of_bind H
      refine ow_ixV (xs := l4) (j := i6) rfl rfl rfl rfl rfl sl22 ty5 rfl (fun w1 hw1 => rds_own (r := 0) rfl w1 hw1) (fun w1 hw1 => rds_own (r := 0) rfl w1 hw1) h11 (fun hA12 => ?_)
      refine ow_storeV (i := 0) (j := i6) rfl rfl rfl rfl rfl rfl ty5 rfl h11 (fun _ => rfl) kp ?_
      refine ow_nil ?_
      refine x_qs ?_
      refine c_reg ?_
      refine ow_batch [.p, .p, .p] rfl ?_
      refine ow_nil ?_
      refine x_qb ?_
      refine x_qs ?_
      refine c_reg ?_
      refine ow_batch [.p, .p, .p] rfl ?_
      refine ow_nil ?_
      exact x_ql (RW.at (ihk1 ((l4.set i6.toNat (IntKind.u8.wrap i5))) (IntKind.i64.wrap (i5 + 1)) (IntKind.i64.wrap (i6 + 1)) (H)) (fun _ h => St.keep [true] rfl h) ⟨rfl, rfl, rfl, rfl,  trivial⟩)
    · have H := of_if_f hb H
      refine c_exit ?_
      refine x_qs_exit ?_
      refine x_ql_exit ?_
      refine x_qb_here ?_
      refine x_qs ?_
      refine c_seq ?_
      refine c_reg ?_
      refine ow_batch [.p, .p] rfl ?_
      refine ow_nil ?_
      refine x_qs ?_
      refine c_ret ?_
      exact x_ret1 rfl rfl fun w' hw' => of_some H ▸ ret_mut hw' rfl

theorem laws_FnExactPutInt_ok (w : World) {p0 : Int} {r : Bool} (H : laws_FnExactPutInt p0 = some r)  :
    Calls Try.prog 5 #[.int .i64 p0] w (fun en w' => en = .returned (.bool r) ∧ Ext [] w w') := by
  unfold laws_FnExactPutInt at H
  refine f_enter (vs := [.int .i64 p0]) Try.func5 rfl Try.ntmps5 rfl (St.init w []) ?_
  refine c_seq ?_
  refine c_reg ?_
  refine ow_batch [.p] rfl ?_
  refine ow_nil ?_
  refine x_qs ?_
  refine c_seq ?_
  refine c_reg ?_
  refine ow_batch [.p] rfl ?_
  obtain ⟨y1, h2, H⟩ := of_bind H
  refine ow_callL rfl fn15 rfl rfl rfl rfl (fun w1 hw1 => spec_PutInt_ok w1 h2 ) (fun _ _ _ => kp) (fun a3 c4 F5 => ?_)
  refine ow_batch [.p] rfl ?_
  refine ow_nil ?_
  refine x_qs ?_
  refine c_seq ?_
  refine c_reg ?_
  refine ow_batch [.p] rfl ?_
  obtain ⟨y6, h7, H⟩ := of_bind H
  refine ow_callL rfl fn16 rfl rfl rfl rfl (fun w1 hw1 => impl_PutInt_ok w1 h7 ) (fun _ _ _ => kp) (fun a8 c9 F10 => ?_)
  refine ow_batch [.p] rfl ?_
  refine ow_nil ?_
  refine x_qs ?_
  refine c_seq ?_
  refine c_seq ?_
  refine c_reg ?_
  refine ow_batch [.p, .p] rfl ?_
  obtain ⟨y11, h12, H⟩ := of_bind H
  refine ow_q rfl rfl (dstOk_lt rfl) (qy_call rfl fn12 rfl (fun w1 hw1 => laws_eqByteS_ok w1 h12 ((fun w1 hw1 => rds_own (r := 1) rfl w1 hw1) w1 hw1) ((fun w1 hw1 => rds_own (r := 0) rfl w1 hw1) w1 hw1))) (fun _ _ => trivial) ?_
  refine ow_batch [.p] rfl ?_
  refine ow_nil ?_
  refine x_qs ?_
  refine c_if rfl (fun hb => ?_) (fun hb => ?_)
  · have H := of_if_t hb H
    refine c_seq ?_
    refine c_reg ?_
    refine ow_batch [.p] rfl ?_
    refine ow_nil ?_
    refine x_qs ?_
    refine c_ret ?_
    refine x_qs_ret ?_
    exact x_ret1 rfl rfl fun w' hw' => ⟨by rw [of_some H], hw'.ext⟩
  · have H := of_if_f hb H
    refine c_skip ?_
    refine x_qs ?_
    refine c_seq ?_
    refine c_reg ?_
    refine ow_batch [.p] rfl ?_
    refine ow_nil ?_
    refine x_qs ?_
    refine c_seq ?_
    refine c_reg ?_
    refine ow_batch [.p, .p] rfl ?_
    obtain ⟨y13, h14, H⟩ := of_bind H
    refine ow_callM (i := 1) rfl fn17 rfl rfl rfl rfl rfl (fun w1 hw1 go gn => laws_markByteS_ok w1 h14 go gn) kp ?_
    refine ow_batch [.p] rfl ?_
    refine ow_nil ?_
    refine x_qs ?_
    refine c_seq ?_
    refine c_reg ?_
    refine ow_batch [.p] rfl ?_
    refine ow_nil ?_
    refine x_qs ?_
    refine c_seq ?_
    refine c_reg ?_
    refine ow_batch [.p, .p] rfl ?_
    obtain ⟨y15, h16, H⟩ := of_bind H
    refine ow_q rfl rfl (dstOk_lt rfl) (qy_call rfl fn18 rfl (fun w1 hw1 => laws_heldByteS_ok w1 h16 ((fun w1 hw1 => rds_own (r := 1) rfl w1 hw1) w1 hw1))) (fun _ _ => trivial) ?_
    refine ow_batch [.p] rfl ?_
    refine ow_nil ?_
    refine x_qs ?_
    refine c_seq ?_
    refine c_seq ?_
    refine c_reg ?_
    refine ow_batch [.p, .p] rfl ?_
    refine ow_nil ?_
    refine x_qs ?_
    refine c_if rfl (fun hb => ?_) (fun hb => ?_)
    · have H := of_if_t hb H
      refine c_seq ?_
      refine c_reg ?_
      refine ow_batch [.p] rfl ?_
      refine ow_nil ?_
      refine x_qs ?_
      refine c_ret ?_
      refine x_qs_ret ?_
      exact x_ret1 rfl rfl fun w' hw' => ⟨by rw [of_some H], hw'.ext⟩
    · have H := of_if_f hb H
      refine c_skip ?_
      refine x_qs ?_
      refine c_seq ?_
      refine c_seq ?_
      refine c_reg ?_
      refine ow_batch [.p, .p, .p] rfl ?_
      refine ow_nil ?_
      refine x_qs ?_
      refine c_if rfl (fun hb => ?_) (fun hb => ?_)
      · have H := of_if_t hb H
        refine c_seq ?_
        refine c_reg ?_
        refine ow_batch [.p] rfl ?_
        refine ow_nil ?_
        refine x_qs ?_
        refine c_ret ?_
        refine x_qs_ret ?_
        exact x_ret1 rfl rfl fun w' hw' => ⟨by rw [of_some H], hw'.ext⟩
      · have H := of_if_f hb H
        refine c_skip ?_
        refine x_qs ?_
        refine c_seq ?_
        refine c_reg ?_
        refine ow_batch [.p] rfl ?_
        obtain ⟨y17, h18, H⟩ := of_bind H
        refine ow_callL rfl fn16 rfl rfl rfl rfl (fun w1 hw1 => impl_PutInt_ok w1 h18 ) (fun _ _ _ => kp) (fun a19 c20 F21 => ?_)
        refine ow_batch [.p] rfl ?_
        refine ow_nil ?_
        refine x_qs ?_
        refine c_seq ?_
        refine c_seq ?_
        refine c_reg ?_
        refine ow_batch [.p, .p] rfl ?_
        obtain ⟨y22, h23, H⟩ := of_bind H
        refine ow_q rfl rfl (dstOk_lt rfl) (qy_call rfl fn12 rfl (fun w1 hw1 => laws_eqByteS_ok w1 h23 ((fun w1 hw1 => rds_own (r := 2) rfl w1 hw1) w1 hw1) ((fun w1 hw1 => rds_own (r := 0) rfl w1 hw1) w1 hw1))) (fun _ _ => trivial) ?_
        refine ow_batch [.p] rfl ?_
        refine ow_nil ?_
        refine x_qs ?_
        refine c_if rfl (fun hb => ?_) (fun hb => ?_)
        · have H := of_if_t hb H
          refine c_seq ?_
          refine c_reg ?_
          refine ow_batch [.p] rfl ?_
          refine ow_nil ?_
          refine x_qs ?_
          refine c_ret ?_
          refine x_qs_ret ?_
          exact x_ret1 rfl rfl fun w' hw' => ⟨by rw [of_some H], hw'.ext⟩
        · have H := of_if_f hb H
          refine c_skip ?_
          refine x_qs ?_
          refine c_seq ?_
          refine c_reg ?_
          refine ow_batch [.p] rfl ?_
          refine ow_nil ?_
          refine x_qs ?_
          refine c_seq ?_
          refine c_reg ?_
          refine ow_batch [.p, .p] rfl ?_
          obtain ⟨y24, h25, H⟩ := of_bind H
          refine ow_q rfl rfl (dstOk_lt rfl) (qy_call rfl fn18 rfl (fun w1 hw1 => laws_heldByteS_ok w1 h25 ((fun w1 hw1 => rds_own (r := 1) rfl w1 hw1) w1 hw1))) (fun _ _ => trivial) ?_
          refine ow_batch [.p] rfl ?_
          refine ow_nil ?_
          refine x_qs ?_
          refine c_seq ?_
          refine c_seq ?_
          refine c_reg ?_
          refine ow_batch [.p, .p] rfl ?_
          refine ow_nil ?_
          refine x_qs ?_
          refine c_if rfl (fun hb => ?_) (fun hb => ?_)
          · have H := of_if_t hb H
            refine c_seq ?_
            refine c_reg ?_
            refine ow_batch [.p] rfl ?_
            refine ow_nil ?_
            refine x_qs ?_
            refine c_ret ?_
            refine x_qs_ret ?_
            exact x_ret1 rfl rfl fun w' hw' => ⟨by rw [of_some H], hw'.ext⟩
          · have H := of_if_f hb H
            refine c_skip ?_
            refine x_qs ?_
            refine c_seq ?_
            refine c_seq ?_
            refine c_reg ?_
            refine ow_batch [.p, .p, .p] rfl ?_
            refine ow_nil ?_
            refine x_qs ?_
            refine c_if rfl (fun hb => ?_) (fun hb => ?_)
            · have H := of_if_t hb H
              refine c_seq ?_
              refine c_reg ?_
              refine ow_batch [.p] rfl ?_
              refine ow_nil ?_
              refine x_qs ?_
              refine c_ret ?_
              refine x_qs_ret ?_
              exact x_ret1 rfl rfl fun w' hw' => ⟨by rw [of_some H], hw'.ext⟩
            · have H := of_if_f hb H
              refine c_skip ?_
              refine x_qs ?_
              refine c_seq ?_
              refine c_reg ?_
              refine ow_batch [.p] rfl ?_
              refine ow_nil ?_
              refine x_qs ?_
              refine c_ret ?_
              exact x_ret1 rfl rfl fun w' hw' => ⟨by rw [of_some H], hw'.ext⟩

theorem spec_GetNum_ok (w : World) {p0 : List Int} {p1 : Int} {v0 : Value} {r : Int × Int × Bool} (H : spec_GetNum p0 p1 = some r) (g0 : (eList (eVal (Value.int .u8) (fun _ => rfl)) 5).rd w [] p0 [v0]) :
    Calls Try.prog 37 #[v0, .int .i64 p1] w (fun en w' => en = .returned (.tuple #[.int .i64 r.1, .int .i64 r.2.1, .bool r.2.2]) ∧ Ext [] w w') := by
  obtain ⟨a_0, c_0, rfl⟩ := rd_sl g0
  unfold spec_GetNum at H
  refine f_enter (vs := [.slice a_0 p0.length c_0, .int .i64 p1]) Try.func37 rfl Try.ntmps37 rfl (St.init w []) ?_
  refine c_seq ?_
  refine c_reg ?_
  refine ow_batch [.p, .p, .p] rfl ?_
  refine ow_nil ?_
  refine x_qs ?_
  refine c_seq ?_
  refine c_reg ?_
  refine ow_batch [.p] rfl ?_
  refine ow_nil ?_
  refine x_qs ?_
  refine c_seq ?_
  refine c_seq ?_
  refine c_reg ?_
  refine ow_batch [.p] rfl ?_
  refine ow_nil ?_
  refine x_qs ?_
  refine c_block ?_
  refine CW.at (loopI2 (fun (i12 : Int) (i13 : Int) => St w [] []) (fun (i12 : Int) (i13 : Int) => [(0, .slice a_0 p0.length c_0), (1, .int .i64 p1), (4, .int .i64 0), (5, .int .i64 0), (6, .bool false), (7, .int .i64 i12), (8, .int .i64 i13)]) (fun kk => fun (i12 : Int) (i13 : Int) => spec_GetNum_L1 p1 p0 kk i12 i13 = some r) (fun _ _ H => ?_) (fun k1 ihk1 i12 i13 H => ?_) Fuel (0) (0) (H)) (fun _ h => St.keep [] rfl h) ⟨rfl, rfl, rfl, rfl, rfl, rfl, rfl,  trivial⟩
  · unfold spec_GetNum_L1 at H
    exact absurd H (by simp)
  · unfold spec_GetNum_L1 at H
    refine c_seq ?_
    refine c_seq ?_
    refine c_reg ?_
    refine ow_batch [.p, .p] rfl ?_
    refine ow_nil ?_
    refine x_qs ?_
    refine c_if rfl (fun hb => ?_) (fun hb => ?_)
    · have H := of_if_t hb H
      refine c_skip ?_
      refine x_qs ?_
      refine c_seq ?_
      refine c_block ?_
      refine c_seq ?_
      refine c_seq ?_
      refine c_reg ?_
      refine ow_batch [.p, .p, .p] rfl ?_
      refine ow_cut [(23, .bool ((decide (p1 < 0)) || (decide (p1 ≥ (IntKind.i64.wrap ((p0.length : Int) - i13)))))), (0, .slice a_0 p0.length c_0), (1, .int .i64 p1), (4, .int .i64 0), (5, .int .i64 0), (6, .bool false), (7, .int .i64 i12), (8, .int .i64 i13), (10, .int .i64 i13), (11, .bool (decide (i13 < 5))), (14, .int .i64 p1), (15, .bool (decide (p1 < 0))), (16, .bool (decide (p1 < 0)))] 7 ?_ (fun key => OW.sub (R := [(0, .slice a_0 p0.length c_0), (1, .int .i64 p1), (4, .int .i64 0), (5, .int .i64 0), (6, .bool false), (7, .int .i64 i12), (8, .int .i64 i13), (10, .int .i64 i13), (11, .bool (decide (i13 < 5))), (14, .int .i64 p1), (15, .bool (decide (p1 < 0))), (16, .bool (decide (p1 < 0)))]) ?_ ⟨rfl, rfl, rfl, rfl, rfl, rfl, rfl, rfl, rfl, rfl, rfl, rfl, trivial⟩)
      · refine ow_nil ?_
        refine x_qs ?_
        refine c_if rfl (fun hb => ?_) (fun hb => ?_)
        · have H := of_if_t hb H
          refine c_seq ?_
          refine c_reg ?_
          refine ow_batch [.p, .p, .p] rfl ?_
          refine ow_nil ?_
          refine x_qs ?_
          refine c_ret ?_
          refine x_qs_ret ?_
          refine x_qb_ret ?_
          refine x_qs_ret ?_
          refine x_ql_ret ?_
          refine x_qb_ret ?_
          refine x_qs_ret ?_
          exact x_ret3 rfl rfl rfl rfl fun w' hw' => of_some H ▸ ⟨rfl, hw'.ext⟩
        · have H := of_if_f hb H
          refine c_skip ?_
          refine x_qs ?_
          refine c_seq ?_
          refine c_reg ?_
          refine ow_batch [.p, .p, .p, .p] rfl ?_
          obtain ⟨e27, h28, H⟩ := of_bind H
          refine ow_ixV (xs := p0) (j := IntKind.i64.wrap (p1 + i13)) rfl rfl rfl rfl rfl sl22 ty5 rfl (fun w1 hw1 => rds_bor g0 w1 hw1) (fun w1 hw1 => rds_bor g0 w1 hw1) h28 (fun hA29 => ?_)
          refine ow_r rfl (dstOk_lt rfl) (ry_load1 rfl rfl ty5 hA29) ?_
          refine ow_batch [.cv 5 3 .i64 us5 in3, .p] rfl ?_
          refine ow_nil ?_
          refine x_qs ?_
          refine c_seq ?_
          refine c_reg ?_
          refine ow_batch [.p, .p, .p, .p, .p] rfl ?_
          obtain ⟨x30, h31, H⟩ := of_bind H
          refine ow_r rfl (dstOk_lt rfl) (ry_shl rfl rfl rfl h31) ?_
          refine ow_batch [.p, .p] rfl ?_
          refine ow_nil ?_
          refine x_qs ?_
          refine c_seq ?_
          refine c_reg ?_
          refine ow_batch [.p, .p] rfl ?_
          refine ow_nil ?_
          refine x_qs ?_
          refine c_if rfl (fun hb => ?_) (fun hb => ?_)
          · have H := of_if_t hb H
            refine c_seq ?_
            refine c_seq ?_
            refine c_reg ?_
            refine ow_batch [.p, .p, .p] rfl ?_
            refine ow_cut [(45, .bool ((decide (i13 > 0)) && ((IntKind.i64.wrap e27) == 0))), (0, .slice a_0 p0.length c_0), (1, .int .i64 p1), (4, .int .i64 0), (5, .int .i64 0), (6, .bool false), (7, .int .i64 (ibits .or .i64 i12 x30)), (8, .int .i64 i13), (9, .int .i64 (IntKind.i64.wrap e27)), (10, .int .i64 i13), (11, .bool (decide (i13 < 5))), (14, .int .i64 p1), (15, .bool (decide (p1 < 0))), (16, .bool (decide (p1 < 0))), (23, .bool ((decide (p1 < 0)) || (decide (p1 ≥ (IntKind.i64.wrap ((p0.length : Int) - i13)))))), (24, .slice a_0 p0.length c_0), (25, .int .i64 p1), (26, .int .i64 i13), (27, .int .i64 (IntKind.i64.wrap (p1 + i13))), (29, .int .u8 e27), (30, .int .i64 (IntKind.i64.wrap e27)), (31, .int .i64 i12), (32, .int .i64 (IntKind.i64.wrap e27)), (33, .int .i64 (Int.tmod (IntKind.i64.wrap e27) 128)), (34, .int .i64 i13), (35, .int .i64 (IntKind.i64.wrap (7 * i13))), (36, .int .i64 x30), (37, .int .i64 (ibits .or .i64 i12 x30)), (38, .int .i64 (IntKind.i64.wrap e27)), (39, .bool (decide ((IntKind.i64.wrap e27) < 128))), (40, .int .i64 i13), (41, .bool (decide (i13 > 0))), (42, .bool (decide (i13 > 0)))] 3 ?_ (fun key => OW.sub (R := [(0, .slice a_0 p0.length c_0), (1, .int .i64 p1), (4, .int .i64 0), (5, .int .i64 0), (6, .bool false), (7, .int .i64 (ibits .or .i64 i12 x30)), (8, .int .i64 i13), (9, .int .i64 (IntKind.i64.wrap e27)), (10, .int .i64 i13), (11, .bool (decide (i13 < 5))), (14, .int .i64 p1), (15, .bool (decide (p1 < 0))), (16, .bool (decide (p1 < 0))), (23, .bool ((decide (p1 < 0)) || (decide (p1 ≥ (IntKind.i64.wrap ((p0.length : Int) - i13)))))), (24, .slice a_0 p0.length c_0), (25, .int .i64 p1), (26, .int .i64 i13), (27, .int .i64 (IntKind.i64.wrap (p1 + i13))), (29, .int .u8 e27), (30, .int .i64 (IntKind.i64.wrap e27)), (31, .int .i64 i12), (32, .int .i64 (IntKind.i64.wrap e27)), (33, .int .i64 (Int.tmod (IntKind.i64.wrap e27) 128)), (34, .int .i64 i13), (35, .int .i64 (IntKind.i64.wrap (7 * i13))), (36, .int .i64 x30), (37, .int .i64 (ibits .or .i64 i12 x30)), (38, .int .i64 (IntKind.i64.wrap e27)), (39, .bool (decide ((IntKind.i64.wrap e27) < 128))), (40, .int .i64 i13), (41, .bool (decide (i13 > 0))), (42, .bool (decide (i13 > 0)))]) ?_ ⟨rfl, rfl, rfl, rfl, rfl, rfl, rfl, rfl, rfl, rfl, rfl, rfl, rfl, rfl, rfl, rfl, rfl, rfl, rfl, rfl, rfl, rfl, rfl, rfl, rfl, rfl, rfl, rfl, rfl, rfl, rfl, rfl, trivial⟩)
            · refine ow_batch [.p] rfl ?_
              refine ow_cut [(49, .bool (((decide (i13 > 0)) && ((IntKind.i64.wrap e27) == 0)) || (decide ((ibits .or .i64 i12 x30) > 2147483647)))), (0, .slice a_0 p0.length c_0), (1, .int .i64 p1), (4, .int .i64 0), (5, .int .i64 0), (6, .bool false), (7, .int .i64 (ibits .or .i64 i12 x30)), (8, .int .i64 i13), (9, .int .i64 (IntKind.i64.wrap e27)), (10, .int .i64 i13), (11, .bool (decide (i13 < 5))), (14, .int .i64 p1), (15, .bool (decide (p1 < 0))), (16, .bool (decide (p1 < 0))), (23, .bool ((decide (p1 < 0)) || (decide (p1 ≥ (IntKind.i64.wrap ((p0.length : Int) - i13)))))), (24, .slice a_0 p0.length c_0), (25, .int .i64 p1), (26, .int .i64 i13), (27, .int .i64 (IntKind.i64.wrap (p1 + i13))), (29, .int .u8 e27), (30, .int .i64 (IntKind.i64.wrap e27)), (31, .int .i64 i12), (32, .int .i64 (IntKind.i64.wrap e27)), (33, .int .i64 (Int.tmod (IntKind.i64.wrap e27) 128)), (34, .int .i64 i13), (35, .int .i64 (IntKind.i64.wrap (7 * i13))), (36, .int .i64 x30), (37, .int .i64 (ibits .or .i64 i12 x30)), (38, .int .i64 (IntKind.i64.wrap e27)), (39, .bool (decide ((IntKind.i64.wrap e27) < 128))), (40, .int .i64 i13), (41, .bool (decide (i13 > 0))), (42, .bool (decide (i13 > 0))), (45, .bool ((decide (i13 > 0)) && ((IntKind.i64.wrap e27) == 0))), (46, .bool ((decide (i13 > 0)) && ((IntKind.i64.wrap e27) == 0)))] 3 ?_ (fun key => OW.sub (R := [(0, .slice a_0 p0.length c_0), (1, .int .i64 p1), (4, .int .i64 0), (5, .int .i64 0), (6, .bool false), (7, .int .i64 (ibits .or .i64 i12 x30)), (8, .int .i64 i13), (9, .int .i64 (IntKind.i64.wrap e27)), (10, .int .i64 i13), (11, .bool (decide (i13 < 5))), (14, .int .i64 p1), (15, .bool (decide (p1 < 0))), (16, .bool (decide (p1 < 0))), (23, .bool ((decide (p1 < 0)) || (decide (p1 ≥ (IntKind.i64.wrap ((p0.length : Int) - i13)))))), (24, .slice a_0 p0.length c_0), (25, .int .i64 p1), (26, .int .i64 i13), (27, .int .i64 (IntKind.i64.wrap (p1 + i13))), (29, .int .u8 e27), (30, .int .i64 (IntKind.i64.wrap e27)), (31, .int .i64 i12), (32, .int .i64 (IntKind.i64.wrap e27)), (33, .int .i64 (Int.tmod (IntKind.i64.wrap e27) 128)), (34, .int .i64 i13), (35, .int .i64 (IntKind.i64.wrap (7 * i13))), (36, .int .i64 x30), (37, .int .i64 (ibits .or .i64 i12 x30)), (38, .int .i64 (IntKind.i64.wrap e27)), (39, .bool (decide ((IntKind.i64.wrap e27) < 128))), (40, .int .i64 i13), (41, .bool (decide (i13 > 0))), (42, .bool (decide (i13 > 0))), (45, .bool ((decide (i13 > 0)) && ((IntKind.i64.wrap e27) == 0))), (46, .bool ((decide (i13 > 0)) && ((IntKind.i64.wrap e27) == 0)))]) ?_ ⟨rfl, rfl, rfl, rfl, rfl, rfl, rfl, rfl, rfl, rfl, rfl, rfl, rfl, rfl, rfl, rfl, rfl, rfl, rfl, rfl, rfl, rfl, rfl, rfl, rfl, rfl, rfl, rfl, rfl, rfl, rfl, rfl, rfl, rfl, trivial⟩)
              · refine ow_nil ?_
                refine x_qs ?_
                refine c_if rfl (fun hb => ?_) (fun hb => ?_)
                · have H := of_if_t hb H
                  refine c_seq ?_
                  refine c_reg ?_
                  refine ow_batch [.p, .p, .p] rfl ?_
                  refine ow_nil ?_
                  refine x_qs ?_
                  refine c_ret ?_
                  refine x_qs_ret ?_
                  refine x_qb_ret ?_
                  refine x_qs_ret ?_
                  refine x_ql_ret ?_
                  refine x_qb_ret ?_
                  refine x_qs_ret ?_
                  exact x_ret3 rfl rfl rfl rfl fun w' hw' => of_some H ▸ ⟨rfl, hw'.ext⟩
                · have H := of_if_f hb H
                  refine c_skip ?_
                  refine x_qs ?_
                  refine c_seq ?_
                  refine c_reg ?_
                  refine ow_batch [.p, .p, .p, .p, .p, .p, .p, .p] rfl ?_
                  refine ow_nil ?_
                  refine x_qs ?_
                  refine c_ret ?_
                  refine x_qb_ret ?_
                  refine x_qs_ret ?_
                  refine x_ql_ret ?_
                  refine x_qb_ret ?_
                  refine x_qs_ret ?_
                  exact x_ret3 rfl rfl rfl rfl fun w' hw' => of_some H ▸ ⟨rfl, hw'.ext⟩
              · generalize ((decide (i13 > 0)) && ((IntKind.i64.wrap e27) == 0)) = t35 at key ⊢
                cases t35
                · refine ow_batch [.p, .p] rfl ?_
                  refine ow_batch [.p] rfl ?_
                  exact OW.sub key ⟨rfl, rfl, rfl, rfl, rfl, rfl, rfl, rfl, rfl, rfl, rfl, rfl, rfl, rfl, rfl, rfl, rfl, rfl, rfl, rfl, rfl, rfl, rfl, rfl, rfl, rfl, rfl, rfl, rfl, rfl, rfl, rfl, rfl, rfl, rfl, trivial⟩
                · refine ow_batch [.p, .p, .p] rfl ?_
                  exact OW.sub key ⟨rfl, rfl, rfl, rfl, rfl, rfl, rfl, rfl, rfl, rfl, rfl, rfl, rfl, rfl, rfl, rfl, rfl, rfl, rfl, rfl, rfl, rfl, rfl, rfl, rfl, rfl, rfl, rfl, rfl, rfl, rfl, rfl, rfl, rfl, rfl, trivial⟩
            · generalize (decide (i13 > 0)) = t33 at key ⊢
              cases t33
              · refine ow_batch [.p, .p, .p] rfl ?_
                exact OW.sub key ⟨rfl, rfl, rfl, rfl, rfl, rfl, rfl, rfl, rfl, rfl, rfl, rfl, rfl, rfl, rfl, rfl, rfl, rfl, rfl, rfl, rfl, rfl, rfl, rfl, rfl, rfl, rfl, rfl, rfl, rfl, rfl, rfl, rfl, trivial⟩
              · refine ow_batch [.p, .p] rfl ?_
                refine ow_batch [.p] rfl ?_
                exact OW.sub key ⟨rfl, rfl, rfl, rfl, rfl, rfl, rfl, rfl, rfl, rfl, rfl, rfl, rfl, rfl, rfl, rfl, rfl, rfl, rfl, rfl, rfl, rfl, rfl, rfl, rfl, rfl, rfl, rfl, rfl, rfl, rfl, rfl, rfl, trivial⟩
          · have H := of_if_f hb H
            refine c_skip ?_
            refine x_qb ?_
            refine x_qs ?_
            refine c_reg ?_
            refine ow_batch [.p, .p, .p] rfl ?_
            refine ow_nil ?_
            exact x_ql (RW.at (ihk1 (ibits .or .i64 i12 x30) (IntKind.i64.wrap (i13 + 1)) (H)) (fun _ h => St.keep [] rfl h) ⟨rfl, rfl, rfl, rfl, rfl, rfl, rfl,  trivial⟩)
      · generalize (decide (p1 < 0)) = t26 at key ⊢
        cases t26
        · refine ow_batch [.p, .p, .lenS 22 5 sl22, .p, .p, .p] rfl ?_
          refine ow_batch [.p] rfl ?_
          exact OW.sub key ⟨rfl, rfl, rfl, rfl, rfl, rfl, rfl, rfl, rfl, rfl, rfl, rfl, rfl, trivial⟩
        · refine ow_batch [.p, .p, .p, .p, .p, .p, .p] rfl ?_
          exact OW.sub key ⟨rfl, rfl, rfl, rfl, rfl, rfl, rfl, rfl, rfl, rfl, rfl, rfl, rfl, trivial⟩
    · have H := of_if_f hb H
      refine c_exit ?_
      refine x_qs_exit ?_
      refine x_ql_exit ?_
      refine x_qb_here ?_
      refine x_qs ?_
      refine c_seq ?_
      refine c_reg ?_
      refine ow_batch [.p, .p, .p] rfl ?_
      refine ow_nil ?_
      refine x_qs ?_
      refine c_ret ?_
      exact x_ret3 rfl rfl rfl rfl fun w' hw' => of_some H ▸ ⟨rfl, hw'.ext⟩

theorem impl_GetNum_ok (w : World) {p0 : List Int} {p1 : Int} {v0 : Value} {r : Int × Int × Bool} (H : impl_GetNum p0 p1 = some r) (g0 : (eList (eVal (Value.int .u8) (fun _ => rfl)) 5).rd w [] p0 [v0]) :
    Calls Try.prog 38 #[v0, .int .i64 p1] w (fun en w' => en = .returned (.tuple #[.int .i64 r.1, .int .i64 r.2.1, .bool r.2.2]) ∧ Ext [] w w') := by
  obtain ⟨a_0, c_0, rfl⟩ := rd_sl g0
  unfold impl_GetNum at H
  refine f_enter (vs := [.slice a_0 p0.length c_0, .int .i64 p1]) Try.func38 rfl Try.ntmps38 rfl (St.init w []) ?_
  refine c_seq ?_
  refine c_reg ?_
  refine ow_batch [.p, .p, .p] rfl ?_
  refine ow_nil ?_
  refine x_qs ?_
  refine c_seq ?_
  refine c_seq ?_
  refine c_reg ?_
  refine ow_batch [.p, .p] rfl ?_
  refine ow_nil ?_
  refine x_qs ?_
  refine c_if rfl (fun hb => ?_) (fun hb => ?_)
  · have H := of_if_t hb H
    refine c_seq ?_
    refine c_reg ?_
    refine ow_batch [.p, .p, .p] rfl ?_
    refine ow_nil ?_
    refine x_qs ?_
    refine c_ret ?_
    refine x_qs_ret ?_
    exact x_ret3 rfl rfl rfl rfl fun w' hw' => of_some H ▸ ⟨rfl, hw'.ext⟩
  · have H := of_if_f hb H
    refine c_skip ?_
    refine x_qs ?_
    refine c_seq ?_
    refine c_reg ?_
    refine ow_batch [.p] rfl ?_
    refine ow_nil ?_
    refine x_qs ?_
    refine c_seq ?_
    refine c_seq ?_
    refine c_reg ?_
    refine ow_batch [.p] rfl ?_
    refine ow_nil ?_
    refine x_qs ?_
    refine c_block ?_
    refine CW.at (loopI2 (fun (i14 : Int) (i15 : Int) => St w [] []) (fun (i14 : Int) (i15 : Int) => [(0, .slice a_0 p0.length c_0), (1, .int .i64 p1), (4, .int .i64 0), (5, .int .i64 0), (6, .bool false), (7, .int .i64 i14), (8, .int .i64 i15)]) (fun kk => fun (i14 : Int) (i15 : Int) => impl_GetNum_L1 p1 p0 kk i14 i15 = some r) (fun _ _ H => ?_) (fun k1 ihk1 i14 i15 H => ?_) Fuel (0) (0) (H)) (fun _ h => St.keep [] rfl h) ⟨rfl, rfl, rfl, rfl, rfl, rfl, rfl,  trivial⟩
    · unfold impl_GetNum_L1 at H
      exact absurd H (by simp)
    · unfold impl_GetNum_L1 at H
      refine c_seq ?_
      refine c_seq ?_
      refine c_reg ?_
      refine ow_batch [.p, .p, .p] rfl ?_
      refine ow_cut [(19, .bool ((decide (i15 < 5)) && (decide ((IntKind.i64.wrap (p1 + i15)) ≥ 0)))), (0, .slice a_0 p0.length c_0), (1, .int .i64 p1), (4, .int .i64 0), (5, .int .i64 0), (6, .bool false), (7, .int .i64 i14), (8, .int .i64 i15), (12, .int .i64 i15), (13, .bool (decide (i15 < 5))), (14, .bool (decide (i15 < 5)))] 5 ?_ (fun key => OW.sub (R := [(0, .slice a_0 p0.length c_0), (1, .int .i64 p1), (4, .int .i64 0), (5, .int .i64 0), (6, .bool false), (7, .int .i64 i14), (8, .int .i64 i15), (12, .int .i64 i15), (13, .bool (decide (i15 < 5))), (14, .bool (decide (i15 < 5)))]) ?_ ⟨rfl, rfl, rfl, rfl, rfl, rfl, rfl, rfl, rfl, rfl, trivial⟩)
      · refine ow_batch [.p] rfl ?_
        refine ow_cut [(27, .bool (((decide (i15 < 5)) && (decide ((IntKind.i64.wrap (p1 + i15)) ≥ 0))) && (decide ((IntKind.i64.wrap (p1 + i15)) < (p0.length : Int))))), (0, .slice a_0 p0.length c_0), (1, .int .i64 p1), (4, .int .i64 0), (5, .int .i64 0), (6, .bool false), (7, .int .i64 i14), (8, .int .i64 i15), (12, .int .i64 i15), (13, .bool (decide (i15 < 5))), (14, .bool (decide (i15 < 5))), (19, .bool ((decide (i15 < 5)) && (decide ((IntKind.i64.wrap (p1 + i15)) ≥ 0)))), (20, .bool ((decide (i15 < 5)) && (decide ((IntKind.i64.wrap (p1 + i15)) ≥ 0))))] 7 ?_ (fun key => OW.sub (R := [(0, .slice a_0 p0.length c_0), (1, .int .i64 p1), (4, .int .i64 0), (5, .int .i64 0), (6, .bool false), (7, .int .i64 i14), (8, .int .i64 i15), (12, .int .i64 i15), (13, .bool (decide (i15 < 5))), (14, .bool (decide (i15 < 5))), (19, .bool ((decide (i15 < 5)) && (decide ((IntKind.i64.wrap (p1 + i15)) ≥ 0)))), (20, .bool ((decide (i15 < 5)) && (decide ((IntKind.i64.wrap (p1 + i15)) ≥ 0))))]) ?_ ⟨rfl, rfl, rfl, rfl, rfl, rfl, rfl, rfl, rfl, rfl, rfl, rfl, trivial⟩)
        · refine ow_nil ?_
          refine x_qs ?_
          refine c_if rfl (fun hb => ?_) (fun hb => ?_)
          · have H := of_if_t hb H
            refine c_skip ?_
            refine x_qs ?_
            refine c_seq ?_
            refine c_block ?_
            refine c_seq ?_
            refine c_reg ?_
            refine ow_batch [.p, .p, .p, .p] rfl ?_
            obtain ⟨e33, h34, H⟩ := of_bind H
            refine ow_ixV (xs := p0) (j := IntKind.i64.wrap (p1 + i15)) rfl rfl rfl rfl rfl sl22 ty5 rfl (fun w1 hw1 => rds_bor g0 w1 hw1) (fun w1 hw1 => rds_bor g0 w1 hw1) h34 (fun hA35 => ?_)
            refine ow_r rfl (dstOk_lt rfl) (ry_load1 rfl rfl ty5 hA35) ?_
            refine ow_batch [.cv 5 3 .i64 us5 in3, .p] rfl ?_
            refine ow_nil ?_
            refine x_qs ?_
            refine c_seq ?_
            refine c_reg ?_
            refine ow_batch [.p, .p, .p, .p, .p] rfl ?_
            obtain ⟨x36, h37, H⟩ := of_bind H
            refine ow_r rfl (dstOk_lt rfl) (ry_shl rfl rfl rfl h37) ?_
            refine ow_batch [.p, .p] rfl ?_
            refine ow_nil ?_
            refine x_qs ?_
            refine c_seq ?_
            refine c_seq ?_
            refine c_reg ?_
            refine ow_batch [.p, .p] rfl ?_
            refine ow_nil ?_
            refine x_qs ?_
            refine c_if rfl (fun hb => ?_) (fun hb => ?_)
            · have H := of_if_t hb H
              refine c_exit ?_
              refine x_qs_exit ?_
              refine x_qb_here ?_
              refine x_qs ?_
              refine c_reg ?_
              refine ow_batch [.p, .p, .p] rfl ?_
              refine ow_nil ?_
              exact x_ql (RW.at (ihk1 (ibits .or .i64 i14 x36) (IntKind.i64.wrap (i15 + 1)) (H)) (fun _ h => St.keep [] rfl h) ⟨rfl, rfl, rfl, rfl, rfl, rfl, rfl,  trivial⟩)
            · have H := of_if_f hb H
              refine c_skip ?_
              refine x_qs ?_
              refine c_seq ?_
              refine c_seq ?_
              refine c_reg ?_
              refine ow_batch [.p, .p, .p] rfl ?_
              refine ow_cut [(51, .bool (((IntKind.i64.wrap e33) == 0) && (decide (i15 > 0)))), (0, .slice a_0 p0.length c_0), (1, .int .i64 p1), (4, .int .i64 0), (5, .int .i64 0), (6, .bool false), (7, .int .i64 (ibits .or .i64 i14 x36)), (8, .int .i64 i15), (9, .int .i64 (IntKind.i64.wrap e33)), (12, .int .i64 i15), (13, .bool (decide (i15 < 5))), (14, .bool (decide (i15 < 5))), (19, .bool ((decide (i15 < 5)) && (decide ((IntKind.i64.wrap (p1 + i15)) ≥ 0)))), (20, .bool ((decide (i15 < 5)) && (decide ((IntKind.i64.wrap (p1 + i15)) ≥ 0)))), (27, .bool (((decide (i15 < 5)) && (decide ((IntKind.i64.wrap (p1 + i15)) ≥ 0))) && (decide ((IntKind.i64.wrap (p1 + i15)) < (p0.length : Int))))), (30, .slice a_0 p0.length c_0), (31, .int .i64 p1), (32, .int .i64 i15), (33, .int .i64 (IntKind.i64.wrap (p1 + i15))), (35, .int .u8 e33), (36, .int .i64 (IntKind.i64.wrap e33)), (37, .int .i64 i14), (38, .int .i64 (IntKind.i64.wrap e33)), (39, .int .i64 (ibits .and .i64 (IntKind.i64.wrap e33) 127)), (40, .int .i64 i15), (41, .int .i64 (IntKind.i64.wrap (7 * i15))), (42, .int .i64 x36), (43, .int .i64 (ibits .or .i64 i14 x36)), (44, .int .i64 (IntKind.i64.wrap e33)), (45, .bool (decide ((IntKind.i64.wrap e33) ≥ 128))), (46, .int .i64 (IntKind.i64.wrap e33)), (47, .bool ((IntKind.i64.wrap e33) == 0)), (48, .bool ((IntKind.i64.wrap e33) == 0))] 3 ?_ (fun key => OW.sub (R := [(0, .slice a_0 p0.length c_0), (1, .int .i64 p1), (4, .int .i64 0), (5, .int .i64 0), (6, .bool false), (7, .int .i64 (ibits .or .i64 i14 x36)), (8, .int .i64 i15), (9, .int .i64 (IntKind.i64.wrap e33)), (12, .int .i64 i15), (13, .bool (decide (i15 < 5))), (14, .bool (decide (i15 < 5))), (19, .bool ((decide (i15 < 5)) && (decide ((IntKind.i64.wrap (p1 + i15)) ≥ 0)))), (20, .bool ((decide (i15 < 5)) && (decide ((IntKind.i64.wrap (p1 + i15)) ≥ 0)))), (27, .bool (((decide (i15 < 5)) && (decide ((IntKind.i64.wrap (p1 + i15)) ≥ 0))) && (decide ((IntKind.i64.wrap (p1 + i15)) < (p0.length : Int))))), (30, .slice a_0 p0.length c_0), (31, .int .i64 p1), (32, .int .i64 i15), (33, .int .i64 (IntKind.i64.wrap (p1 + i15))), (35, .int .u8 e33), (36, .int .i64 (IntKind.i64.wrap e33)), (37, .int .i64 i14), (38, .int .i64 (IntKind.i64.wrap e33)), (39, .int .i64 (ibits .and .i64 (IntKind.i64.wrap e33) 127)), (40, .int .i64 i15), (41, .int .i64 (IntKind.i64.wrap (7 * i15))), (42, .int .i64 x36), (43, .int .i64 (ibits .or .i64 i14 x36)), (44, .int .i64 (IntKind.i64.wrap e33)), (45, .bool (decide ((IntKind.i64.wrap e33) ≥ 128))), (46, .int .i64 (IntKind.i64.wrap e33)), (47, .bool ((IntKind.i64.wrap e33) == 0)), (48, .bool ((IntKind.i64.wrap e33) == 0))]) ?_ ⟨rfl, rfl, rfl, rfl, rfl, rfl, rfl, rfl, rfl, rfl, rfl, rfl, rfl, rfl, rfl, rfl, rfl, rfl, rfl, rfl, rfl, rfl, rfl, rfl, rfl, rfl, rfl, rfl, rfl, rfl, rfl, rfl, trivial⟩)
              · refine ow_batch [.p] rfl ?_
                refine ow_cut [(55, .bool ((((IntKind.i64.wrap e33) == 0) && (decide (i15 > 0))) || (decide ((ibits .or .i64 i14 x36) > 2147483647)))), (0, .slice a_0 p0.length c_0), (1, .int .i64 p1), (4, .int .i64 0), (5, .int .i64 0), (6, .bool false), (7, .int .i64 (ibits .or .i64 i14 x36)), (8, .int .i64 i15), (9, .int .i64 (IntKind.i64.wrap e33)), (12, .int .i64 i15), (13, .bool (decide (i15 < 5))), (14, .bool (decide (i15 < 5))), (19, .bool ((decide (i15 < 5)) && (decide ((IntKind.i64.wrap (p1 + i15)) ≥ 0)))), (20, .bool ((decide (i15 < 5)) && (decide ((IntKind.i64.wrap (p1 + i15)) ≥ 0)))), (27, .bool (((decide (i15 < 5)) && (decide ((IntKind.i64.wrap (p1 + i15)) ≥ 0))) && (decide ((IntKind.i64.wrap (p1 + i15)) < (p0.length : Int))))), (30, .slice a_0 p0.length c_0), (31, .int .i64 p1), (32, .int .i64 i15), (33, .int .i64 (IntKind.i64.wrap (p1 + i15))), (35, .int .u8 e33), (36, .int .i64 (IntKind.i64.wrap e33)), (37, .int .i64 i14), (38, .int .i64 (IntKind.i64.wrap e33)), (39, .int .i64 (ibits .and .i64 (IntKind.i64.wrap e33) 127)), (40, .int .i64 i15), (41, .int .i64 (IntKind.i64.wrap (7 * i15))), (42, .int .i64 x36), (43, .int .i64 (ibits .or .i64 i14 x36)), (44, .int .i64 (IntKind.i64.wrap e33)), (45, .bool (decide ((IntKind.i64.wrap e33) ≥ 128))), (46, .int .i64 (IntKind.i64.wrap e33)), (47, .bool ((IntKind.i64.wrap e33) == 0)), (48, .bool ((IntKind.i64.wrap e33) == 0)), (51, .bool (((IntKind.i64.wrap e33) == 0) && (decide (i15 > 0)))), (52, .bool (((IntKind.i64.wrap e33) == 0) && (decide (i15 > 0))))] 3 ?_ (fun key => OW.sub (R := [(0, .slice a_0 p0.length c_0), (1, .int .i64 p1), (4, .int .i64 0), (5, .int .i64 0), (6, .bool false), (7, .int .i64 (ibits .or .i64 i14 x36)), (8, .int .i64 i15), (9, .int .i64 (IntKind.i64.wrap e33)), (12, .int .i64 i15), (13, .bool (decide (i15 < 5))), (14, .bool (decide (i15 < 5))), (19, .bool ((decide (i15 < 5)) && (decide ((IntKind.i64.wrap (p1 + i15)) ≥ 0)))), (20, .bool ((decide (i15 < 5)) && (decide ((IntKind.i64.wrap (p1 + i15)) ≥ 0)))), (27, .bool (((decide (i15 < 5)) && (decide ((IntKind.i64.wrap (p1 + i15)) ≥ 0))) && (decide ((IntKind.i64.wrap (p1 + i15)) < (p0.length : Int))))), (30, .slice a_0 p0.length c_0), (31, .int .i64 p1), (32, .int .i64 i15), (33, .int .i64 (IntKind.i64.wrap (p1 + i15))), (35, .int .u8 e33), (36, .int .i64 (IntKind.i64.wrap e33)), (37, .int .i64 i14), (38, .int .i64 (IntKind.i64.wrap e33)), (39, .int .i64 (ibits .and .i64 (IntKind.i64.wrap e33) 127)), (40, .int .i64 i15), (41, .int .i64 (IntKind.i64.wrap (7 * i15))), (42, .int .i64 x36), (43, .int .i64 (ibits .or .i64 i14 x36)), (44, .int .i64 (IntKind.i64.wrap e33)), (45, .bool (decide ((IntKind.i64.wrap e33) ≥ 128))), (46, .int .i64 (IntKind.i64.wrap e33)), (47, .bool ((IntKind.i64.wrap e33) == 0)), (48, .bool ((IntKind.i64.wrap e33) == 0)), (51, .bool (((IntKind.i64.wrap e33) == 0) && (decide (i15 > 0)))), (52, .bool (((IntKind.i64.wrap e33) == 0) && (decide (i15 > 0))))]) ?_ ⟨rfl, rfl, rfl, rfl, rfl, rfl, rfl, rfl, rfl, rfl, rfl, rfl, rfl, rfl, rfl, rfl, rfl, rfl, rfl, rfl, rfl, rfl, rfl, rfl, rfl, rfl, rfl, rfl, rfl, rfl, rfl, rfl, rfl, rfl, trivial⟩)
                · refine ow_nil ?_
                  refine x_qs ?_
                  refine c_if rfl (fun hb => ?_) (fun hb => ?_)
                  · have H := of_if_t hb H
                    refine c_seq ?_
                    refine c_reg ?_
                    refine ow_batch [.p, .p, .p] rfl ?_
                    refine ow_nil ?_
                    refine x_qs ?_
                    refine c_ret ?_
                    refine x_qs_ret ?_
                    refine x_qb_ret ?_
                    refine x_qs_ret ?_
                    refine x_ql_ret ?_
                    refine x_qb_ret ?_
                    refine x_qs_ret ?_
                    exact x_ret3 rfl rfl rfl rfl fun w' hw' => of_some H ▸ ⟨rfl, hw'.ext⟩
                  · have H := of_if_f hb H
                    refine c_skip ?_
                    refine x_qs ?_
                    refine c_seq ?_
                    refine c_reg ?_
                    refine ow_batch [.p, .p, .p, .p, .p, .p, .p, .p] rfl ?_
                    refine ow_nil ?_
                    refine x_qs ?_
                    refine c_ret ?_
                    refine x_qb_ret ?_
                    refine x_qs_ret ?_
                    refine x_ql_ret ?_
                    refine x_qb_ret ?_
                    refine x_qs_ret ?_
                    exact x_ret3 rfl rfl rfl rfl fun w' hw' => of_some H ▸ ⟨rfl, hw'.ext⟩
                · generalize (((IntKind.i64.wrap e33) == 0) && (decide (i15 > 0))) = t41 at key ⊢
                  cases t41
                  · refine ow_batch [.p, .p] rfl ?_
                    refine ow_batch [.p] rfl ?_
                    exact OW.sub key ⟨rfl, rfl, rfl, rfl, rfl, rfl, rfl, rfl, rfl, rfl, rfl, rfl, rfl, rfl, rfl, rfl, rfl, rfl, rfl, rfl, rfl, rfl, rfl, rfl, rfl, rfl, rfl, rfl, rfl, rfl, rfl, rfl, rfl, rfl, rfl, trivial⟩
                  · refine ow_batch [.p, .p, .p] rfl ?_
                    exact OW.sub key ⟨rfl, rfl, rfl, rfl, rfl, rfl, rfl, rfl, rfl, rfl, rfl, rfl, rfl, rfl, rfl, rfl, rfl, rfl, rfl, rfl, rfl, rfl, rfl, rfl, rfl, rfl, rfl, rfl, rfl, rfl, rfl, rfl, rfl, rfl, rfl, trivial⟩
              · generalize ((IntKind.i64.wrap e33) == 0) = t39 at key ⊢
                cases t39
                · refine ow_batch [.p, .p, .p] rfl ?_
                  exact OW.sub key ⟨rfl, rfl, rfl, rfl, rfl, rfl, rfl, rfl, rfl, rfl, rfl, rfl, rfl, rfl, rfl, rfl, rfl, rfl, rfl, rfl, rfl, rfl, rfl, rfl, rfl, rfl, rfl, rfl, rfl, rfl, rfl, rfl, rfl, trivial⟩
                · refine ow_batch [.p, .p] rfl ?_
                  refine ow_batch [.p] rfl ?_
                  exact OW.sub key ⟨rfl, rfl, rfl, rfl, rfl, rfl, rfl, rfl, rfl, rfl, rfl, rfl, rfl, rfl, rfl, rfl, rfl, rfl, rfl, rfl, rfl, rfl, rfl, rfl, rfl, rfl, rfl, rfl, rfl, rfl, rfl, rfl, rfl, trivial⟩
          · have H := of_if_f hb H
            refine c_exit ?_
            refine x_qs_exit ?_
            refine x_ql_exit ?_
            refine x_qb_here ?_
            refine x_qs ?_
            refine c_seq ?_
            refine c_reg ?_
            refine ow_batch [.p, .p, .p] rfl ?_
            refine ow_nil ?_
            refine x_qs ?_
            refine c_ret ?_
            exact x_ret3 rfl rfl rfl rfl fun w' hw' => of_some H ▸ ⟨rfl, hw'.ext⟩
        · generalize ((decide (i15 < 5)) && (decide ((IntKind.i64.wrap (p1 + i15)) ≥ 0))) = t32 at key ⊢
          cases t32
          · refine ow_batch [.p, .p, .p, .p, .p, .p, .p] rfl ?_
            exact OW.sub key ⟨rfl, rfl, rfl, rfl, rfl, rfl, rfl, rfl, rfl, rfl, rfl, rfl, rfl, trivial⟩
          · refine ow_batch [.p, .p, .p, .p, .lenS 22 5 sl22, .p] rfl ?_
            refine ow_batch [.p] rfl ?_
            exact OW.sub key ⟨rfl, rfl, rfl, rfl, rfl, rfl, rfl, rfl, rfl, rfl, rfl, rfl, rfl, trivial⟩
      · generalize (decide (i15 < 5)) = t30 at key ⊢
        cases t30
        · refine ow_batch [.p, .p, .p, .p, .p] rfl ?_
          exact OW.sub key ⟨rfl, rfl, rfl, rfl, rfl, rfl, rfl, rfl, rfl, rfl, rfl, trivial⟩
        · refine ow_batch [.p, .p, .p, .p] rfl ?_
          refine ow_batch [.p] rfl ?_
          exact OW.sub key ⟨rfl, rfl, rfl, rfl, rfl, rfl, rfl, rfl, rfl, rfl, rfl, trivial⟩

theorem spec_GetInt_ok (w : World) {p0 : List Int} {p1 : Int} {v0 : Value} {r : Int × Int × Bool} (H : spec_GetInt p0 p1 = some r) (g0 : (eList (eVal (Value.int .u8) (fun _ => rfl)) 5).rd w [] p0 [v0]) :
    Calls Try.prog 25 #[v0, .int .i64 p1] w (fun en w' => en = .returned (.tuple #[.int .i64 r.1, .int .i64 r.2.1, .bool r.2.2]) ∧ Ext [] w w') := by
  obtain ⟨a_0, c_0, rfl⟩ := rd_sl g0
  unfold spec_GetInt at H
  refine f_enter (vs := [.slice a_0 p0.length c_0, .int .i64 p1]) Try.func25 rfl Try.ntmps25 rfl (St.init w []) ?_
  refine c_seq ?_
  refine c_reg ?_
  refine ow_batch [.p, .p, .p] rfl ?_
  refine ow_nil ?_
  refine x_qs ?_
  refine c_seq ?_
  refine c_reg ?_
  refine ow_batch [.p, .p] rfl ?_
  obtain ⟨y1, h2, H⟩ := of_bind H
  refine ow_q rfl rfl (dstOk_lt rfl) (qy_call rfl fn37 rfl (fun w1 hw1 => spec_GetNum_ok w1 h2 ((fun w1 hw1 => rds_bor g0 w1 hw1) w1 hw1))) (fun _ _ => trivial) ?_
  refine ow_batch [.p, .p, .p, .p, .p, .p, .p] rfl ?_
  refine ow_nil ?_
  refine x_qs ?_
  refine c_seq ?_
  refine c_seq ?_
  refine c_reg ?_
  refine ow_batch [.p, .p] rfl ?_
  refine ow_nil ?_
  refine x_qs ?_
  refine c_if rfl (fun hb => ?_) (fun hb => ?_)
  · have H := of_if_t hb H
    refine c_seq ?_
    refine c_reg ?_
    refine ow_batch [.p, .p, .p] rfl ?_
    refine ow_nil ?_
    refine x_qs ?_
    refine c_ret ?_
    refine x_qs_ret ?_
    exact x_ret3 rfl rfl rfl rfl fun w' hw' => of_some H ▸ ⟨rfl, hw'.ext⟩
  · have H := of_if_f hb H
    refine c_skip ?_
    refine x_qs ?_
    refine c_seq ?_
    refine c_reg ?_
    refine ow_batch [.p, .p, .p] rfl ?_
    refine ow_nil ?_
    refine x_qs ?_
    refine c_join1 (fun (i3 : Int) => St w [] []) (fun (i3 : Int) => [(4, .int .i64 0), (5, .int .i64 0), (6, .bool false), (8, .int .i64 y1.2.1), (10, .int .i64 i3)]) (fun (i3 : Int) => spec_GetInt_J1 y1 i3 = some r) (fun i3 H => ?_) (fun J1 => ?_)
    · unfold spec_GetInt_J1 at H
      refine c_seq ?_
      refine c_seq ?_
      refine c_reg ?_
      refine ow_batch [.p] rfl ?_
      obtain ⟨y4, h5, H⟩ := of_bind H
      refine ow_q rfl rfl (dstOk_lt rfl) (qy_call rfl fn28 rfl (fun w1 hw1 => spec_l1In_ok w1 h5 )) (fun _ _ => trivial) ?_
      refine ow_batch [.p] rfl ?_
      refine ow_nil ?_
      refine x_qs ?_
      refine c_if rfl (fun hb => ?_) (fun hb => ?_)
      · have H := of_if_t hb H
        refine c_seq ?_
        refine c_reg ?_
        refine ow_batch [.p, .p, .p] rfl ?_
        refine ow_nil ?_
        refine x_qs ?_
        refine c_ret ?_
        refine x_qs_ret ?_
        exact x_ret3 rfl rfl rfl rfl fun w' hw' => of_some H ▸ ⟨rfl, hw'.ext⟩
      · have H := of_if_f hb H
        refine c_skip ?_
        refine x_qs ?_
        refine c_seq ?_
        refine c_reg ?_
        refine ow_batch [.p, .p, .p, .p, .p] rfl ?_
        refine ow_nil ?_
        refine x_qs ?_
        refine c_ret ?_
        exact x_ret3 rfl rfl rfl rfl fun w' hw' => of_some H ▸ ⟨rfl, hw'.ext⟩
    · refine c_seq ?_
      refine c_reg ?_
      refine ow_batch [.p, .p, .p] rfl ?_
      refine ow_nil ?_
      refine x_qs ?_
      refine c_if rfl (fun hb => ?_) (fun hb => ?_)
      · have H := of_if_t hb H
        refine c_reg ?_
        refine ow_batch [.p, .p, .p, .p, .p] rfl ?_
        refine ow_nil ?_
        exact XW.at (J1 (IntKind.i64.wrap ((IntKind.i64.wrap (0 - (IntKind.i64.wrap (Int.tdiv y1.1 2)))) - 1)) (H)) (fun _ h => St.keep [] rfl h) ⟨rfl, rfl, rfl, rfl, rfl,  trivial⟩
      · have H := of_if_f hb H
        refine c_skip ?_
        exact XW.at (J1 (IntKind.i64.wrap (Int.tdiv y1.1 2)) (H)) (fun _ h => St.keep [] rfl h) ⟨rfl, rfl, rfl, rfl, rfl,  trivial⟩

theorem impl_GetInt_ok (w : World) {p0 : List Int} {p1 : Int} {v0 : Value} {r : Int × Int × Bool} (H : impl_GetInt p0 p1 = some r) (g0 : (eList (eVal (Value.int .u8) (fun _ => rfl)) 5).rd w [] p0 [v0]) :
    Calls Try.prog 26 #[v0, .int .i64 p1] w (fun en w' => en = .returned (.tuple #[.int .i64 r.1, .int .i64 r.2.1, .bool r.2.2]) ∧ Ext [] w w') := by
  obtain ⟨a_0, c_0, rfl⟩ := rd_sl g0
  unfold impl_GetInt at H
  refine f_enter (vs := [.slice a_0 p0.length c_0, .int .i64 p1]) Try.func26 rfl Try.ntmps26 rfl (St.init w []) ?_
  refine c_seq ?_
  refine c_reg ?_
  refine ow_batch [.p, .p, .p] rfl ?_
  refine ow_nil ?_
  refine x_qs ?_
  refine c_seq ?_
  refine c_reg ?_
  refine ow_batch [.p, .p] rfl ?_
  obtain ⟨y1, h2, H⟩ := of_bind H
  refine ow_q rfl rfl (dstOk_lt rfl) (qy_call rfl fn38 rfl (fun w1 hw1 => impl_GetNum_ok w1 h2 ((fun w1 hw1 => rds_bor g0 w1 hw1) w1 hw1))) (fun _ _ => trivial) ?_
  refine ow_batch [.p, .p, .p, .p, .p, .p, .p] rfl ?_
  refine ow_nil ?_
  refine x_qs ?_
  refine c_seq ?_
  refine c_reg ?_
  refine ow_batch [.p, .p, .p] rfl ?_
  refine ow_nil ?_
  refine x_qs ?_
  refine c_join1 (fun (i3 : Int) => St w [] []) (fun (i3 : Int) => [(4, .int .i64 0), (5, .int .i64 0), (6, .bool false), (8, .int .i64 y1.2.1), (9, .bool y1.2.2), (10, .int .i64 i3)]) (fun (i3 : Int) => impl_GetInt_J1 y1 i3 = some r) (fun i3 H => ?_) (fun J1 => ?_)
  · unfold impl_GetInt_J1 at H
    refine c_seq ?_
    refine c_seq ?_
    refine c_reg ?_
    refine ow_batch [.p, .p, .p] rfl ?_
    obtain ⟨u4, hu8, H⟩ := of_bind H
    refine ow_cut [(32, .bool u4), (4, .int .i64 0), (5, .int .i64 0), (6, .bool false), (8, .int .i64 y1.2.1), (10, .int .i64 i3)] 4 ?_ (fun key => OW.sub (R := [(4, .int .i64 0), (5, .int .i64 0), (6, .bool false), (8, .int .i64 y1.2.1), (10, .int .i64 i3), (28, .bool (!y1.2.2))]) ?_ ⟨rfl, rfl, rfl, rfl, rfl, rfl, trivial⟩)
    · refine ow_nil ?_
      refine x_qs ?_
      refine c_if rfl (fun hb => ?_) (fun hb => ?_)
      · have H := of_if_t hb H
        refine c_seq ?_
        refine c_reg ?_
        refine ow_batch [.p, .p, .p] rfl ?_
        refine ow_nil ?_
        refine x_qs ?_
        refine c_ret ?_
        refine x_qs_ret ?_
        exact x_ret3 rfl rfl rfl rfl fun w' hw' => of_some H ▸ ⟨rfl, hw'.ext⟩
      · have H := of_if_f hb H
        refine c_skip ?_
        refine x_qs ?_
        refine c_seq ?_
        refine c_reg ?_
        refine ow_batch [.p, .p, .p, .p, .p] rfl ?_
        refine ow_nil ?_
        refine x_qs ?_
        refine c_ret ?_
        exact x_ret3 rfl rfl rfl rfl fun w' hw' => of_some H ▸ ⟨rfl, hw'.ext⟩
    · clear H
      have H := hu8
      clear hu8
      generalize (!y1.2.2) = t7 at H ⊢
      cases t7
      · have H := of_if_f rfl H
        refine ow_batch [.p] rfl ?_
        obtain ⟨y5, h6, H⟩ := of_bind H
        refine ow_q rfl rfl (dstOk_lt rfl) (qy_call rfl fn30 rfl (fun w1 hw1 => impl_within_ok w1 h6 )) (fun _ _ => trivial) ?_
        refine ow_batch [.p] rfl ?_
        refine ow_batch [.p] rfl ?_
        obtain rfl := of_some H
        exact OW.sub key ⟨rfl, rfl, rfl, rfl, rfl, rfl, trivial⟩
      · have H := of_if_t rfl H
        refine ow_batch [.p, .p, .p, .p] rfl ?_
        obtain rfl := of_some H
        exact OW.sub key ⟨rfl, rfl, rfl, rfl, rfl, rfl, trivial⟩
  · refine c_seq ?_
    refine c_reg ?_
    refine ow_batch [.p, .p, .p] rfl ?_
    refine ow_nil ?_
    refine x_qs ?_
    refine c_if rfl (fun hb => ?_) (fun hb => ?_)
    · have H := of_if_t hb H
      refine c_reg ?_
      refine ow_batch [.p, .p, .p, .p] rfl ?_
      refine ow_nil ?_
      exact XW.at (J1 (IntKind.i64.wrap ((IntKind.i64.wrap (0 - (IntKind.i64.wrap (Int.tdiv y1.1 2)))) - 1)) (H)) (fun _ h => St.keep [] rfl h) ⟨rfl, rfl, rfl, rfl, rfl, rfl,  trivial⟩
    · have H := of_if_f hb H
      refine c_skip ?_
      exact XW.at (J1 (IntKind.i64.wrap (Int.tdiv y1.1 2)) (H)) (fun _ h => St.keep [] rfl h) ⟨rfl, rfl, rfl, rfl, rfl, rfl,  trivial⟩

theorem laws_FnExactGetInt_ok (w : World) {p0 : List Int} {p1 : Int} {v0 : Value} {r : Bool} (H : laws_FnExactGetInt p0 p1 = some r) (g0 : (eList (eVal (Value.int .u8) (fun _ => rfl)) 5).rd w [] p0 [v0]) :
    Calls Try.prog 8 #[v0, .int .i64 p1] w (fun en w' => en = .returned (.bool r) ∧ Ext [] w w') := by
  obtain ⟨a_0, c_0, rfl⟩ := rd_sl g0
  unfold laws_FnExactGetInt at H
  refine f_enter (vs := [.slice a_0 p0.length c_0, .int .i64 p1]) Try.func8 rfl Try.ntmps8 rfl (St.init w []) ?_
  refine c_seq ?_
  refine c_reg ?_
  refine ow_batch [.p] rfl ?_
  refine ow_nil ?_
  refine x_qs ?_
  refine c_seq ?_
  refine c_seq ?_
  refine c_reg ?_
  refine ow_batch [.p, .lenS 22 5 sl22, .p] rfl ?_
  refine ow_nil ?_
  refine x_qs ?_
  refine c_if rfl (fun hb => ?_) (fun hb => ?_)
  · have H := of_if_t hb H
    refine c_seq ?_
    refine c_reg ?_
    refine ow_batch [.p] rfl ?_
    refine ow_nil ?_
    refine x_qs ?_
    refine c_ret ?_
    refine x_qs_ret ?_
    exact x_ret1 rfl rfl fun w' hw' => ⟨by rw [of_some H], hw'.ext⟩
  · have H := of_if_f hb H
    refine c_skip ?_
    refine x_qs ?_
    refine c_seq ?_
    refine c_reg ?_
    refine ow_batch [.p] rfl ?_
    obtain ⟨y1, h2, H⟩ := of_bind H
    refine ow_callL rfl fn10 rfl rfl rfl rfl (fun w1 hw1 => laws_toByteS_ok w1 h2 ((fun w1 hw1 => rds_bor g0 w1 hw1) w1 hw1)) (fun _ _ _ => kp) (fun a3 c4 F5 => ?_)
    refine ow_batch [.p] rfl ?_
    obtain ⟨y6, h7, H⟩ := of_bind H
    refine ow_q rfl rfl (dstOk_lt rfl) (qy_call rfl fn25 rfl (fun w1 hw1 => spec_GetInt_ok w1 h7 ((fun w1 hw1 => rds_own (r := 0) rfl w1 hw1) w1 hw1))) (fun _ _ => trivial) ?_
    refine ow_batch [.p, .p, .p, .p, .p, .p, .p] rfl ?_
    refine ow_nil ?_
    refine x_qs ?_
    refine c_seq ?_
    refine c_reg ?_
    refine ow_batch [.p] rfl ?_
    obtain ⟨y8, h9, H⟩ := of_bind H
    refine ow_callL rfl fn10 rfl rfl rfl rfl (fun w1 hw1 => laws_toByteS_ok w1 h9 ((fun w1 hw1 => rds_bor g0 w1 hw1) w1 hw1)) (fun _ _ _ => kp) (fun a10 c11 F12 => ?_)
    refine ow_batch [.p] rfl ?_
    refine ow_nil ?_
    refine x_qs ?_
    refine c_seq ?_
    refine c_reg ?_
    refine ow_batch [.p, .p] rfl ?_
    obtain ⟨y13, h14, H⟩ := of_bind H
    refine ow_q rfl rfl (dstOk_lt rfl) (qy_call rfl fn26 rfl (fun w1 hw1 => impl_GetInt_ok w1 h14 ((fun w1 hw1 => rds_own (r := 1) rfl w1 hw1) w1 hw1))) (fun _ _ => trivial) ?_
    refine ow_batch [.p, .p, .p, .p, .p, .p, .p] rfl ?_
    refine ow_nil ?_
    refine x_qs ?_
    refine c_seq ?_
    refine c_seq ?_
    refine c_reg ?_
    refine ow_batch [.p, .p, .p, .p] rfl ?_
    refine ow_cut [(39, .bool ((y13.1 != y6.1) || (y13.2.1 != y6.2.1))), (0, .slice a_0 p0.length c_0), (4, .bool false), (7, .bool y6.2.2), (8, .slice a10 y8.length c11), (11, .bool y13.2.2)] 4 ?_ (fun key => OW.sub (R := [(0, .slice a_0 p0.length c_0), (4, .bool false), (6, .int .i64 y6.2.1), (7, .bool y6.2.2), (8, .slice a10 y8.length c11), (10, .int .i64 y13.2.1), (11, .bool y13.2.2), (35, .bool (y13.1 != y6.1))]) ?_ ⟨rfl, rfl, rfl, rfl, rfl, rfl, rfl, rfl, trivial⟩)
    · refine ow_batch [.p] rfl ?_
      refine ow_cut [(44, .bool (((y13.1 != y6.1) || (y13.2.1 != y6.2.1)) || (y13.2.2 != y6.2.2))), (0, .slice a_0 p0.length c_0), (4, .bool false), (8, .slice a10 y8.length c11)] 4 ?_ (fun key => OW.sub (R := [(0, .slice a_0 p0.length c_0), (4, .bool false), (7, .bool y6.2.2), (8, .slice a10 y8.length c11), (11, .bool y13.2.2), (40, .bool ((y13.1 != y6.1) || (y13.2.1 != y6.2.1)))]) ?_ ⟨rfl, rfl, rfl, rfl, rfl, rfl, trivial⟩)
      · refine ow_nil ?_
        refine x_qs ?_
        refine c_if rfl (fun hb => ?_) (fun hb => ?_)
        · have H := of_if_t hb H
          refine c_seq ?_
          refine c_reg ?_
          refine ow_batch [.p] rfl ?_
          refine ow_nil ?_
          refine x_qs ?_
          refine c_ret ?_
          refine x_qs_ret ?_
          exact x_ret1 rfl rfl fun w' hw' => ⟨by rw [of_some H], hw'.ext⟩
        · have H := of_if_f hb H
          refine c_skip ?_
          refine x_qs ?_
          refine c_seq ?_
          refine c_seq ?_
          refine c_reg ?_
          refine ow_batch [.p, .p] rfl ?_
          obtain ⟨y19, h20, H⟩ := of_bind H
          refine ow_callL rfl fn10 rfl rfl rfl rfl (fun w1 hw1 => laws_toByteS_ok w1 h20 ((fun w1 hw1 => rds_bor g0 w1 hw1) w1 hw1)) (fun _ _ _ => kp) (fun a21 c22 F23 => ?_)
          obtain ⟨y24, h25, H⟩ := of_bind H
          refine ow_q rfl rfl (dstOk_lt rfl) (qy_call rfl fn12 rfl (fun w1 hw1 => laws_eqByteS_ok w1 h25 ((fun w1 hw1 => rds_own (r := 1) rfl w1 hw1) w1 hw1) ((fun w1 hw1 => rds_own (r := 2) rfl w1 hw1) w1 hw1))) (fun _ _ => trivial) ?_
          refine ow_batch [.p] rfl ?_
          refine ow_nil ?_
          refine x_qs ?_
          refine c_if rfl (fun hb => ?_) (fun hb => ?_)
          · have H := of_if_t hb H
            refine c_seq ?_
            refine c_reg ?_
            refine ow_batch [.p] rfl ?_
            refine ow_nil ?_
            refine x_qs ?_
            refine c_ret ?_
            refine x_qs_ret ?_
            exact x_ret1 rfl rfl fun w' hw' => ⟨by rw [of_some H], hw'.ext⟩
          · have H := of_if_f hb H
            refine c_skip ?_
            refine x_qs ?_
            refine c_seq ?_
            refine c_reg ?_
            refine ow_batch [.p] rfl ?_
            refine ow_nil ?_
            refine x_qs ?_
            refine c_ret ?_
            exact x_ret1 rfl rfl fun w' hw' => ⟨by rw [of_some H], hw'.ext⟩
      · generalize ((y13.1 != y6.1) || (y13.2.1 != y6.2.1)) = t18 at key ⊢
        cases t18
        · refine ow_batch [.p, .p] rfl ?_
          refine ow_r rfl (dstOk_lt rfl) (ry_bneq rfl rfl rfl bl4) ?_
          refine ow_batch [.p] rfl ?_
          exact OW.sub key ⟨rfl, rfl, rfl, rfl, trivial⟩
        · refine ow_batch [.p, .p, .p, .p] rfl ?_
          exact OW.sub key ⟨rfl, rfl, rfl, rfl, trivial⟩
    · generalize (y13.1 != y6.1) = t16 at key ⊢
      cases t16
      · refine ow_batch [.p, .p, .p] rfl ?_
        refine ow_batch [.p] rfl ?_
        exact OW.sub key ⟨rfl, rfl, rfl, rfl, rfl, rfl, trivial⟩
      · refine ow_batch [.p, .p, .p, .p] rfl ?_
        exact OW.sub key ⟨rfl, rfl, rfl, rfl, rfl, rfl, trivial⟩

theorem lib_stringslite_IndexByte_ok (w : World) {p0 : List UInt8} {p1 : Int} {r : Int} (H : lib_stringslite_IndexByte p0 p1 = some r)  :
    Calls Try.prog 41 #[vS p0, .int .u8 p1] w (fun en w' => en = .returned (.int .i64 r) ∧ Ext [] w w') := by
  unfold lib_stringslite_IndexByte at H
  refine f_enter (vs := [vS p0, .int .u8 p1]) Try.func41 rfl Try.ntmps41 rfl (St.init w []) ?_
  refine c_seq ?_
  refine c_reg ?_
  refine ow_batch [.p] rfl ?_
  refine ow_nil ?_
  refine x_qs ?_
  refine c_seq ?_
  refine c_reg ?_
  refine ow_batch [.p, .p] rfl ?_
  refine ow_r rfl (dstOk_lt rfl) (ry_ixb rfl ixb42 rfl rfl) ?_
  refine ow_batch [.p] rfl ?_
  refine ow_nil ?_
  refine x_qs ?_
  refine c_ret ?_
  exact x_ret1 rfl rfl fun w' hw' => ⟨by rw [of_some H], hw'.ext⟩

theorem lib_strings_IndexByte_ok (w : World) {p0 : List UInt8} {p1 : Int} {r : Int} (H : lib_strings_IndexByte p0 p1 = some r)  :
    Calls Try.prog 36 #[vS p0, .int .u8 p1] w (fun en w' => en = .returned (.int .i64 r) ∧ Ext [] w w') := by
  unfold lib_strings_IndexByte at H
  refine f_enter (vs := [vS p0, .int .u8 p1]) Try.func36 rfl Try.ntmps36 rfl (St.init w []) ?_
  refine c_seq ?_
  refine c_reg ?_
  refine ow_batch [.p] rfl ?_
  refine ow_nil ?_
  refine x_qs ?_
  refine c_seq ?_
  refine c_reg ?_
  refine ow_batch [.p, .p] rfl ?_
  obtain ⟨y1, h2, H⟩ := of_bind H
  refine ow_q rfl rfl (dstOk_lt rfl) (qy_call rfl fn41 rfl (fun w1 hw1 => lib_stringslite_IndexByte_ok w1 h2 )) (fun _ _ => trivial) ?_
  refine ow_batch [.p] rfl ?_
  refine ow_nil ?_
  refine x_qs ?_
  refine c_ret ?_
  exact x_ret1 rfl rfl fun w' hw' => ⟨by rw [of_some H], hw'.ext⟩

theorem spec_HexOf_ok (w : World) {p0 : List UInt8} {r : (List Int) × Bool} (H : spec_HexOf p0 = some r)  :
    Calls Try.prog 23 #[vS p0] w (RetK (fun vv => .tuple #[vv, .bool r.2]) (eList (eVal (Value.int .u8) (fun _ => rfl)) 5) r.1 w) := by
  unfold spec_HexOf at H
  refine f_enter (vs := [vS p0]) Try.func23 rfl Try.ntmps23 rfl (St.init w []) ?_
  refine c_seq ?_
  refine c_reg ?_
  refine ow_batch [.p, .p] rfl ?_
  refine ow_nil ?_
  refine x_qs ?_
  refine c_seq ?_
  refine c_reg ?_
  refine ow_blit0 (e := eVal (Value.int .u8) (fun _ => rfl)) rfl rfl rfl rfl sl22 ty5 (fun _ => kp) (fun b1 => ?_)
  refine ow_batch [.p] rfl ?_
  refine ow_nil ?_
  refine x_qs ?_
  refine c_seq ?_
  refine c_seq ?_
  refine c_reg ?_
  refine ow_batch [.p, .lenT 9 st9, .p, .p] rfl ?_
  refine ow_nil ?_
  refine x_qs ?_
  refine c_if rfl (fun hb => ?_) (fun hb => ?_)
  · have H := of_if_t hb H
    refine c_seq ?_
    refine c_reg ?_
    refine ow_batch [.p, .p, .p] rfl ?_
    refine ow_nil ?_
    refine x_qs ?_
    refine c_ret ?_
    refine x_qs_ret ?_
    exact x_ret2 rfl rfl rfl fun w' hw' => of_some H ▸ ret_ownK (k := (fun vv => .tuple #[vv, .bool false])) (i := 0) hw' rfl
  · have H := of_if_f hb H
    refine c_skip ?_
    refine x_qs ?_
    refine c_seq ?_
    refine c_seq ?_
    refine c_reg ?_
    refine ow_batch [.p] rfl ?_
    refine ow_nil ?_
    refine x_qs ?_
    refine c_block ?_
    refine CW.at (loopI5 (fun (l19 : List Int) (a20 : Option Addr) (c21 : Nat) (F22 : List Nat) (i23 : Int) => St w [] [Res.own (eList (eVal (Value.int .u8) (fun _ => rfl)) 5) F22 l19 [.slice a20 l19.length c21]]) (fun (l19 : List Int) (a20 : Option Addr) (c21 : Nat) (F22 : List Nat) (i23 : Int) => [(0, vS p0), (2, .slice none 0 0), (3, .bool false), (4, .slice a20 l19.length c21), (5, .int .i64 i23)]) (fun kk => fun (l19 : List Int) (a20 : Option Addr) (c21 : Nat) (F22 : List Nat) (i23 : Int) => spec_HexOf_L1 p0 kk l19 i23 = some r) (fun _ _ _ _ _ H => ?_) (fun k1 ihk1 l19 a20 c21 F22 i23 H => ?_) Fuel (([] : List Int)) (some ⟨b1, 0, none⟩) (0) ([b1]) (0) (H)) (fun _ h => St.keep [true] rfl h) ⟨rfl, rfl, rfl, rfl, rfl,  trivial⟩
    · unfold spec_HexOf_L1 at H
      exact absurd H (by simp)
    · unfold spec_HexOf_L1 at H
      refine c_seq ?_
      refine c_seq ?_
      refine c_reg ?_
      refine ow_batch [.p, .p, .lenT 9 st9, .p] rfl ?_
      refine ow_nil ?_
      refine x_qs ?_
      refine c_if rfl (fun hb => ?_) (fun hb => ?_)
      · have H := of_if_t hb H
        refine c_skip ?_
        refine x_qs ?_
        refine c_seq ?_
        refine c_block ?_
        refine c_seq ?_
        refine c_reg ?_
        refine ow_batch [.p, .p] rfl ?_
        obtain ⟨b41, h42, H⟩ := of_bind H
        refine ow_r rfl (dstOk_lt rfl) (ry_sidx (s := p0) rfl rfl rfl st9 h42) ?_
        obtain ⟨y43, h44, H⟩ := of_bind H
        refine ow_q rfl rfl (dstOk_lt rfl) (qy_call rfl fn35 rfl (fun w1 hw1 => spec_l32Half_ok w1 h44 )) (fun _ _ => trivial) ?_
        refine ow_batch [.p] rfl ?_
        refine ow_nil ?_
        refine x_qs ?_
        refine c_seq ?_
        refine c_reg ?_
        refine ow_batch [.p, .p, .p] rfl ?_
        obtain ⟨b45, h46, H⟩ := of_bind H
        refine ow_r rfl (dstOk_lt rfl) (ry_sidx (s := p0) rfl rfl rfl st9 h46) ?_
        obtain ⟨y47, h48, H⟩ := of_bind H
        refine ow_q rfl rfl (dstOk_lt rfl) (qy_call rfl fn35 rfl (fun w1 hw1 => spec_l32Half_ok w1 h48 )) (fun _ _ => trivial) ?_
        refine ow_batch [.p] rfl ?_
        refine ow_nil ?_
        refine x_qs ?_
        refine c_seq ?_
        refine c_seq ?_
        refine c_reg ?_
        refine ow_batch [.p, .p, .p] rfl ?_
        refine ow_cut [(34, .bool ((decide (y43 < 0)) || (decide (y47 < 0)))), (0, vS p0), (2, .slice none 0 0), (3, .bool false), (4, .slice a20 l19.length c21), (5, .int .i64 i23), (6, .int .i64 y43), (7, .int .i64 y47), (14, .int .i64 i23), (15, vS p0), (16, .int .i64 (p0.length : Int)), (17, .bool (decide (i23 < (p0.length : Int)))), (20, vS p0), (21, .int .i64 i23), (22, .int .u8 (b41.toNat : Int)), (23, .int .i64 y43), (24, vS p0), (25, .int .i64 i23), (26, .int .i64 (IntKind.i64.wrap (i23 + 1))), (27, .int .u8 (b45.toNat : Int)), (28, .int .i64 y47), (29, .int .i64 y43), (30, .bool (decide (y43 < 0))), (31, .bool (decide (y43 < 0)))] 3 ?_ (fun key => OW.sub (R := [(0, vS p0), (2, .slice none 0 0), (3, .bool false), (4, .slice a20 l19.length c21), (5, .int .i64 i23), (6, .int .i64 y43), (7, .int .i64 y47), (14, .int .i64 i23), (15, vS p0), (16, .int .i64 (p0.length : Int)), (17, .bool (decide (i23 < (p0.length : Int)))), (20, vS p0), (21, .int .i64 i23), (22, .int .u8 (b41.toNat : Int)), (23, .int .i64 y43), (24, vS p0), (25, .int .i64 i23), (26, .int .i64 (IntKind.i64.wrap (i23 + 1))), (27, .int .u8 (b45.toNat : Int)), (28, .int .i64 y47), (29, .int .i64 y43), (30, .bool (decide (y43 < 0))), (31, .bool (decide (y43 < 0)))]) ?_ ⟨rfl, rfl, rfl, rfl, rfl, rfl, rfl, rfl, rfl, rfl, rfl, rfl, rfl, rfl, rfl, rfl, rfl, rfl, rfl, rfl, rfl, rfl, rfl, trivial⟩)
        · refine ow_nil ?_
          refine x_qs ?_
          refine c_if rfl (fun hb => ?_) (fun hb => ?_)
          · have H := of_if_t hb H
            refine c_seq ?_
            refine c_reg ?_
            refine ow_blit0 (e := eVal (Value.int .u8) (fun _ => rfl)) rfl rfl rfl rfl sl22 ty5 (fun _ => kp) (fun b51 => ?_)
            refine ow_batch [.p, .p] rfl ?_
            refine ow_nil ?_
            refine x_qs ?_
            refine c_ret ?_
            refine x_qs_ret ?_
            refine x_qb_ret ?_
            refine x_qs_ret ?_
            refine x_ql_ret ?_
            refine x_qb_ret ?_
            refine x_qs_ret ?_
            exact x_ret2 rfl rfl rfl fun w' hw' => of_some H ▸ ret_ownK (k := (fun vv => .tuple #[vv, .bool false])) (i := 1) hw' rfl
          · have H := of_if_f hb H
            refine c_skip ?_
            refine x_qs ?_
            refine c_reg ?_
            refine ow_batch [.p, .p, .p, .p, .p, .cv 3 5 .u8 us3 in5] rfl ?_
            refine ow_blit (val := Value.int .u8) (h1 := fun _ => rfl) [IntKind.u8.wrap (IntKind.i64.wrap ((IntKind.i64.wrap (16 * y43)) + y47))] [(0, [.int .u8 (IntKind.u8.wrap (IntKind.i64.wrap ((IntKind.i64.wrap (16 * y43)) + y47)))])] rfl rfl rfl rfl rfl sl22 ty5 rfl rfl rfl ⟨rfl, rfl, Nat.le_of_ble_eq_true rfl,  trivial⟩ rfl rfl (fun _ => kp) (fun b52 => ?_)
            obtain ⟨l53, h54, H⟩ := of_bind H
            refine ow_appR (r := 0) rfl rfl rfl rfl rfl rfl sl22 ty5 rfl rfl rfl (fun w1 hw1 => rds_own (r := 1) rfl w1 hw1) h54 (fun _ _ _ => kp) (fun a55 c56 F57 => ?_)
            refine ow_batch [.p] rfl ?_
            refine ow_nil ?_
            refine x_qb ?_
            refine x_qs ?_
            refine c_reg ?_
            refine ow_batch [.p, .p, .p] rfl ?_
            refine ow_nil ?_
            exact x_ql (RW.at (ihk1 (l53) (a55) (c56) (F57) (IntKind.i64.wrap (i23 + 2)) (H)) (fun _ h => St.keep [true, false] rfl h) ⟨rfl, rfl, rfl, rfl, rfl,  trivial⟩)
        · generalize (decide (y43 < 0)) = t50 at key ⊢
          cases t50
          · refine ow_batch [.p, .p] rfl ?_
            refine ow_batch [.p] rfl ?_
            exact OW.sub key ⟨rfl, rfl, rfl, rfl, rfl, rfl, rfl, rfl, rfl, rfl, rfl, rfl, rfl, rfl, rfl, rfl, rfl, rfl, rfl, rfl, rfl, rfl, rfl, rfl, trivial⟩
          · refine ow_batch [.p, .p, .p] rfl ?_
            exact OW.sub key ⟨rfl, rfl, rfl, rfl, rfl, rfl, rfl, rfl, rfl, rfl, rfl, rfl, rfl, rfl, rfl, rfl, rfl, rfl, rfl, rfl, rfl, rfl, rfl, rfl, trivial⟩
      · have H := of_if_f hb H
        refine c_exit ?_
        refine x_qs_exit ?_
        refine x_ql_exit ?_
        refine x_qb_here ?_
        refine x_qs ?_
        refine c_seq ?_
        refine c_reg ?_
        refine ow_batch [.p, .p, .p] rfl ?_
        refine ow_nil ?_
        refine x_qs ?_
        refine c_ret ?_
        exact x_ret2 rfl rfl rfl fun w' hw' => of_some H ▸ ret_ownK (k := (fun vv => .tuple #[vv, .bool true])) (i := 0) hw' rfl

theorem impl_HexOf_ok (w : World) {p0 : List UInt8} {r : (List Int) × Bool} (H : impl_HexOf p0 = some r)  :
    Calls Try.prog 24 #[vS p0] w (RetK (fun vv => .tuple #[vv, .bool r.2]) (eList (eVal (Value.int .u8) (fun _ => rfl)) 5) r.1 w) := by
  unfold impl_HexOf at H
  refine f_enter (vs := [vS p0]) Try.func24 rfl Try.ntmps24 rfl (St.init w []) ?_
  refine c_seq ?_
  refine c_reg ?_
  refine ow_batch [.p, .p] rfl ?_
  refine ow_nil ?_
  refine x_qs ?_
  refine c_seq ?_
  refine c_seq ?_
  refine c_reg ?_
  refine ow_batch [.p, .lenT 9 st9, .p, .p] rfl ?_
  refine ow_nil ?_
  refine x_qs ?_
  refine c_if rfl (fun hb => ?_) (fun hb => ?_)
  · have H := of_if_t hb H
    refine c_seq ?_
    refine c_reg ?_
    refine ow_batch [.p, .p] rfl ?_
    refine ow_nil ?_
    refine x_qs ?_
    refine c_ret ?_
    refine x_qs_ret ?_
    exact x_ret2 rfl rfl rfl fun w' hw' => of_some H ▸ ret_nilK (k := (fun vv => .tuple #[vv, .bool false])) hw'
  · have H := of_if_f hb H
    refine c_skip ?_
    refine x_qs ?_
    refine c_seq ?_
    refine c_reg ?_
    refine ow_blit0 (e := eVal (Value.int .u8) (fun _ => rfl)) rfl rfl rfl rfl sl22 ty5 (fun _ => kp) (fun b1 => ?_)
    refine ow_batch [.p] rfl ?_
    refine ow_nil ?_
    refine x_qs ?_
    refine c_seq ?_
    refine c_seq ?_
    refine c_reg ?_
    refine ow_batch [.p] rfl ?_
    refine ow_nil ?_
    refine x_qs ?_
    refine c_block ?_
    refine CW.at (loopI5 (fun (l18 : List Int) (a19 : Option Addr) (c20 : Nat) (F21 : List Nat) (i22 : Int) => St w [] [Res.own (eList (eVal (Value.int .u8) (fun _ => rfl)) 5) F21 l18 [.slice a19 l18.length c20]]) (fun (l18 : List Int) (a19 : Option Addr) (c20 : Nat) (F21 : List Nat) (i22 : Int) => [(0, vS p0), (2, .slice none 0 0), (3, .bool false), (4, .slice a19 l18.length c20), (5, .int .i64 i22)]) (fun kk => fun (l18 : List Int) (a19 : Option Addr) (c20 : Nat) (F21 : List Nat) (i22 : Int) => impl_HexOf_L1 p0 kk l18 i22 = some r) (fun _ _ _ _ _ H => ?_) (fun k1 ihk1 l18 a19 c20 F21 i22 H => ?_) Fuel (([] : List Int)) (some ⟨b1, 0, none⟩) (0) ([b1]) (0) (H)) (fun _ h => St.keep [true] rfl h) ⟨rfl, rfl, rfl, rfl, rfl,  trivial⟩
    · unfold impl_HexOf_L1 at H
      exact absurd H (by simp)
    · unfold impl_HexOf_L1 at H
      refine c_seq ?_
      refine c_seq ?_
      refine c_reg ?_
      refine ow_batch [.p, .p, .lenT 9 st9, .p] rfl ?_
      refine ow_nil ?_
      refine x_qs ?_
      refine c_if rfl (fun hb => ?_) (fun hb => ?_)
      · have H := of_if_t hb H
        refine c_skip ?_
        refine x_qs ?_
        refine c_seq ?_
        refine c_block ?_
        refine c_seq ?_
        refine c_regQ mixed (by kernel_rfl) ?_
        refine ow_batch [.p, .p] rfl ?_
        obtain ⟨b39, h40, H⟩ := of_bind H
        refine ow_r rfl (dstOk_lt rfl) (ry_sidx (s := p0) rfl rfl rfl st9 h40) ?_
        obtain ⟨y41, h42, H⟩ := of_bind H
        refine ow_q rfl rfl (dstOk_lt rfl) (qy_call rfl fn36 rfl (fun w1 hw1 => lib_strings_IndexByte_ok w1 h42 )) (fun _ _ => trivial) ?_
        refine ow_batch [.p, .p, .p] rfl ?_
        obtain ⟨b43, h44, H⟩ := of_bind H
        refine ow_r rfl (dstOk_lt rfl) (ry_sidx (s := p0) rfl rfl rfl st9 h44) ?_
        obtain ⟨y45, h46, H⟩ := of_bind H
        refine ow_q rfl rfl (dstOk_lt rfl) (qy_call rfl fn36 rfl (fun w1 hw1 => lib_strings_IndexByte_ok w1 h46 )) (fun _ _ => trivial) ?_
        refine ow_batch [.p, .p] rfl ?_
        refine ow_nilQ ?_
        refine x_qs ?_
        refine c_seq ?_
        refine c_seq ?_
        refine c_reg ?_
        refine ow_batch [.p, .p, .p] rfl ?_
        refine ow_cut [(33, .bool ((decide (y41 < 0)) || (decide (y45 < 0)))), (0, vS p0), (2, .slice none 0 0), (3, .bool false), (4, .slice a19 l18.length c20), (5, .int .i64 i22), (6, .int .i64 y41), (7, .int .i64 y45), (13, .int .i64 i22), (14, vS p0), (15, .int .i64 (p0.length : Int)), (16, .bool (decide (i22 < (p0.length : Int)))), (19, vS p0), (20, .int .i64 i22), (21, .int .u8 (b39.toNat : Int)), (22, .int .i64 y41), (23, vS p0), (24, .int .i64 i22), (25, .int .i64 (IntKind.i64.wrap (i22 + 1))), (26, .int .u8 (b43.toNat : Int)), (27, .int .i64 y45), (28, .int .i64 y41), (29, .bool (decide (y41 < 0))), (30, .bool (decide (y41 < 0)))] 3 ?_ (fun key => OW.sub (R := [(0, vS p0), (2, .slice none 0 0), (3, .bool false), (4, .slice a19 l18.length c20), (5, .int .i64 i22), (6, .int .i64 y41), (7, .int .i64 y45), (13, .int .i64 i22), (14, vS p0), (15, .int .i64 (p0.length : Int)), (16, .bool (decide (i22 < (p0.length : Int)))), (19, vS p0), (20, .int .i64 i22), (21, .int .u8 (b39.toNat : Int)), (22, .int .i64 y41), (23, vS p0), (24, .int .i64 i22), (25, .int .i64 (IntKind.i64.wrap (i22 + 1))), (26, .int .u8 (b43.toNat : Int)), (27, .int .i64 y45), (28, .int .i64 y41), (29, .bool (decide (y41 < 0))), (30, .bool (decide (y41 < 0)))]) ?_ ⟨rfl, rfl, rfl, rfl, rfl, rfl, rfl, rfl, rfl, rfl, rfl, rfl, rfl, rfl, rfl, rfl, rfl, rfl, rfl, rfl, rfl, rfl, rfl, trivial⟩)
        · refine ow_nil ?_
          refine x_qs ?_
          refine c_if rfl (fun hb => ?_) (fun hb => ?_)
          · have H := of_if_t hb H
            refine c_seq ?_
            refine c_reg ?_
            refine ow_batch [.p, .p] rfl ?_
            refine ow_nil ?_
            refine x_qs ?_
            refine c_ret ?_
            refine x_qs_ret ?_
            refine x_qb_ret ?_
            refine x_qs_ret ?_
            refine x_ql_ret ?_
            refine x_qb_ret ?_
            refine x_qs_ret ?_
            exact x_ret2 rfl rfl rfl fun w' hw' => of_some H ▸ ret_nilK (k := (fun vv => .tuple #[vv, .bool false])) hw'
          · have H := of_if_f hb H
            refine c_skip ?_
            refine x_qs ?_
            refine c_reg ?_
            refine ow_batch [.p, .p, .p, .p, .p, .cv 3 5 .u8 us3 in5] rfl ?_
            refine ow_blit (val := Value.int .u8) (h1 := fun _ => rfl) [IntKind.u8.wrap (ibits .or .i64 (ishl .i64 y41 4) y45)] [(0, [.int .u8 (IntKind.u8.wrap (ibits .or .i64 (ishl .i64 y41 4) y45))])] rfl rfl rfl rfl rfl sl22 ty5 rfl rfl rfl ⟨rfl, rfl, Nat.le_of_ble_eq_true rfl,  trivial⟩ rfl rfl (fun _ => kp) (fun b49 => ?_)
            obtain ⟨l50, h51, H⟩ := of_bind H
            refine ow_appR (r := 0) rfl rfl rfl rfl rfl rfl sl22 ty5 rfl rfl rfl (fun w1 hw1 => rds_own (r := 1) rfl w1 hw1) h51 (fun _ _ _ => kp) (fun a52 c53 F54 => ?_)
            refine ow_batch [.p] rfl ?_
            refine ow_nil ?_
            refine x_qb ?_
            refine x_qs ?_
            refine c_reg ?_
            refine ow_batch [.p, .p, .p] rfl ?_
            refine ow_nil ?_
            exact x_ql (RW.at (ihk1 (l50) (a52) (c53) (F54) (IntKind.i64.wrap (i22 + 2)) (H)) (fun _ h => St.keep [true, false] rfl h) ⟨rfl, rfl, rfl, rfl, rfl,  trivial⟩)
        · generalize (decide (y41 < 0)) = t48 at key ⊢
          cases t48
          · refine ow_batch [.p, .p] rfl ?_
            refine ow_batch [.p] rfl ?_
            exact OW.sub key ⟨rfl, rfl, rfl, rfl, rfl, rfl, rfl, rfl, rfl, rfl, rfl, rfl, rfl, rfl, rfl, rfl, rfl, rfl, rfl, rfl, rfl, rfl, rfl, rfl, trivial⟩
          · refine ow_batch [.p, .p, .p] rfl ?_
            exact OW.sub key ⟨rfl, rfl, rfl, rfl, rfl, rfl, rfl, rfl, rfl, rfl, rfl, rfl, rfl, rfl, rfl, rfl, rfl, rfl, rfl, rfl, rfl, rfl, rfl, rfl, trivial⟩
      · have H := of_if_f hb H
        refine c_exit ?_
        refine x_qs_exit ?_
        refine x_ql_exit ?_
        refine x_qb_here ?_
        refine x_qs ?_
        refine c_seq ?_
        refine c_reg ?_
        refine ow_batch [.p, .p, .p] rfl ?_
        refine ow_nil ?_
        refine x_qs ?_
        refine c_ret ?_
        exact x_ret2 rfl rfl rfl fun w' hw' => of_some H ▸ ret_ownK (k := (fun vv => .tuple #[vv, .bool true])) (i := 0) hw' rfl

theorem laws_FnExactHexOf_ok (w : World) {p0 : List UInt8} {r : Bool} (H : laws_FnExactHexOf p0 = some r)  :
    Calls Try.prog 7 #[vS p0] w (fun en w' => en = .returned (.bool r) ∧ Ext [] w w') := by
  unfold laws_FnExactHexOf at H
  refine f_enter (vs := [vS p0]) Try.func7 rfl Try.ntmps7 rfl (St.init w []) ?_
  refine c_seq ?_
  refine c_reg ?_
  refine ow_batch [.p] rfl ?_
  refine ow_nil ?_
  refine x_qs ?_
  refine c_seq ?_
  refine c_seq ?_
  refine c_reg ?_
  refine ow_batch [.p, .lenT 9 st9, .p] rfl ?_
  refine ow_nil ?_
  refine x_qs ?_
  refine c_if rfl (fun hb => ?_) (fun hb => ?_)
  · have H := of_if_t hb H
    refine c_seq ?_
    refine c_reg ?_
    refine ow_batch [.p] rfl ?_
    refine ow_nil ?_
    refine x_qs ?_
    refine c_ret ?_
    refine x_qs_ret ?_
    exact x_ret1 rfl rfl fun w' hw' => ⟨by rw [of_some H], hw'.ext⟩
  · have H := of_if_f hb H
    refine c_skip ?_
    refine x_qs ?_
    refine c_seq ?_
    refine c_reg ?_
    refine ow_batch [.p] rfl ?_
    obtain ⟨y1, h2, H⟩ := of_bind H
    refine ow_callK (fun vv => .tuple #[vv, .bool y1.2]) rfl fn23 rfl rfl rfl rfl (fun w1 hw1 => spec_HexOf_ok w1 h2 ) (fun _ _ _ => kp) (fun a3 c4 F5 => ?_)
    refine ow_batch [.p, .p, .p, .p, .p] rfl ?_
    refine ow_nil ?_
    refine x_qs ?_
    refine c_seq ?_
    refine c_reg ?_
    refine ow_batch [.p] rfl ?_
    obtain ⟨y6, h7, H⟩ := of_bind H
    refine ow_callK (fun vv => .tuple #[vv, .bool y6.2]) rfl fn24 rfl rfl rfl rfl (fun w1 hw1 => impl_HexOf_ok w1 h7 ) (fun _ _ _ => kp) (fun a8 c9 F10 => ?_)
    refine ow_batch [.p, .p, .p, .p, .p] rfl ?_
    refine ow_nil ?_
    refine x_qs ?_
    refine c_seq ?_
    refine c_seq ?_
    refine c_reg ?_
    refine ow_batch [.p, .p] rfl ?_
    obtain ⟨y11, h12, H⟩ := of_bind H
    refine ow_q rfl rfl (dstOk_lt rfl) (qy_call rfl fn12 rfl (fun w1 hw1 => laws_eqByteS_ok w1 h12 ((fun w1 hw1 => rds_own (r := 1) rfl w1 hw1) w1 hw1) ((fun w1 hw1 => rds_own (r := 0) rfl w1 hw1) w1 hw1))) (fun _ _ => trivial) ?_
    refine ow_batch [.p, .p] rfl ?_
    refine ow_cut [(32, .bool ((!y11) || (y6.2 != y1.2))), (0, vS p0), (2, .bool false), (3, .slice a3 y1.1.length c4), (4, .bool y1.2), (5, .slice a8 y6.1.length c9)] 4 ?_ (fun key => OW.sub (R := [(0, vS p0), (2, .bool false), (3, .slice a3 y1.1.length c4), (4, .bool y1.2), (5, .slice a8 y6.1.length c9), (6, .bool y6.2), (28, .bool (!y11))]) ?_ ⟨rfl, rfl, rfl, rfl, rfl, rfl, rfl, trivial⟩)
    · refine ow_nil ?_
      refine x_qs ?_
      refine c_if rfl (fun hb => ?_) (fun hb => ?_)
      · have H := of_if_t hb H
        refine c_seq ?_
        refine c_reg ?_
        refine ow_batch [.p] rfl ?_
        refine ow_nil ?_
        refine x_qs ?_
        refine c_ret ?_
        refine x_qs_ret ?_
        exact x_ret1 rfl rfl fun w' hw' => ⟨by rw [of_some H], hw'.ext⟩
      · have H := of_if_f hb H
        refine c_skip ?_
        refine x_qs ?_
        refine c_seq ?_
        refine c_reg ?_
        refine ow_batch [.p] rfl ?_
        refine ow_nil ?_
        refine x_qs ?_
        refine c_seq ?_
        refine c_reg ?_
        refine ow_batch [.p, .p] rfl ?_
        obtain ⟨y15, h16, H⟩ := of_bind H
        refine ow_callM (i := 1) rfl fn17 rfl rfl rfl rfl rfl (fun w1 hw1 go gn => laws_markByteS_ok w1 h16 go gn) kp ?_
        refine ow_batch [.p] rfl ?_
        refine ow_nil ?_
        refine x_qs ?_
        refine c_seq ?_
        refine c_reg ?_
        refine ow_batch [.p] rfl ?_
        refine ow_nil ?_
        refine x_qs ?_
        refine c_seq ?_
        refine c_reg ?_
        refine ow_batch [.p, .p] rfl ?_
        obtain ⟨y17, h18, H⟩ := of_bind H
        refine ow_q rfl rfl (dstOk_lt rfl) (qy_call rfl fn18 rfl (fun w1 hw1 => laws_heldByteS_ok w1 h18 ((fun w1 hw1 => rds_own (r := 1) rfl w1 hw1) w1 hw1))) (fun _ _ => trivial) ?_
        refine ow_batch [.p] rfl ?_
        refine ow_nil ?_
        refine x_qs ?_
        refine c_seq ?_
        refine c_seq ?_
        refine c_reg ?_
        refine ow_batch [.p, .p] rfl ?_
        refine ow_nil ?_
        refine x_qs ?_
        refine c_if rfl (fun hb => ?_) (fun hb => ?_)
        · have H := of_if_t hb H
          refine c_seq ?_
          refine c_reg ?_
          refine ow_batch [.p] rfl ?_
          refine ow_nil ?_
          refine x_qs ?_
          refine c_ret ?_
          refine x_qs_ret ?_
          exact x_ret1 rfl rfl fun w' hw' => ⟨by rw [of_some H], hw'.ext⟩
        · have H := of_if_f hb H
          refine c_skip ?_
          refine x_qs ?_
          refine c_seq ?_
          refine c_seq ?_
          refine c_reg ?_
          refine ow_batch [.p, .p, .p] rfl ?_
          refine ow_nil ?_
          refine x_qs ?_
          refine c_if rfl (fun hb => ?_) (fun hb => ?_)
          · have H := of_if_t hb H
            refine c_seq ?_
            refine c_reg ?_
            refine ow_batch [.p] rfl ?_
            refine ow_nil ?_
            refine x_qs ?_
            refine c_ret ?_
            refine x_qs_ret ?_
            exact x_ret1 rfl rfl fun w' hw' => ⟨by rw [of_some H], hw'.ext⟩
          · have H := of_if_f hb H
            refine c_skip ?_
            refine x_qs ?_
            refine c_seq ?_
            refine c_reg ?_
            refine ow_batch [.p] rfl ?_
            obtain ⟨y19, h20, H⟩ := of_bind H
            refine ow_callK (fun vv => .tuple #[vv, .bool y19.2]) rfl fn24 rfl rfl rfl rfl (fun w1 hw1 => impl_HexOf_ok w1 h20 ) (fun _ _ _ => kp) (fun a21 c22 F23 => ?_)
            refine ow_batch [.p, .p, .p, .p, .p] rfl ?_
            refine ow_nil ?_
            refine x_qs ?_
            refine c_seq ?_
            refine c_seq ?_
            refine c_reg ?_
            refine ow_batch [.p, .p] rfl ?_
            obtain ⟨y24, h25, H⟩ := of_bind H
            refine ow_q rfl rfl (dstOk_lt rfl) (qy_call rfl fn12 rfl (fun w1 hw1 => laws_eqByteS_ok w1 h25 ((fun w1 hw1 => rds_own (r := 2) rfl w1 hw1) w1 hw1) ((fun w1 hw1 => rds_own (r := 0) rfl w1 hw1) w1 hw1))) (fun _ _ => trivial) ?_
            refine ow_batch [.p, .p] rfl ?_
            refine ow_cut [(57, .bool ((!y24) || (y19.2 != y1.2))), (2, .bool false), (5, .slice a8 y6.1.length c9), (7, .int .i64 y15.1), (8, .int .i64 y17)] 4 ?_ (fun key => OW.sub (R := [(2, .bool false), (4, .bool y1.2), (5, .slice a8 y6.1.length c9), (7, .int .i64 y15.1), (8, .int .i64 y17), (10, .bool y19.2), (53, .bool (!y24))]) ?_ ⟨rfl, rfl, rfl, rfl, rfl, rfl, rfl, trivial⟩)
            · refine ow_nil ?_
              refine x_qs ?_
              refine c_if rfl (fun hb => ?_) (fun hb => ?_)
              · have H := of_if_t hb H
                refine c_seq ?_
                refine c_reg ?_
                refine ow_batch [.p] rfl ?_
                refine ow_nil ?_
                refine x_qs ?_
                refine c_ret ?_
                refine x_qs_ret ?_
                exact x_ret1 rfl rfl fun w' hw' => ⟨by rw [of_some H], hw'.ext⟩
              · have H := of_if_f hb H
                refine c_skip ?_
                refine x_qs ?_
                refine c_seq ?_
                refine c_reg ?_
                refine ow_batch [.p] rfl ?_
                refine ow_nil ?_
                refine x_qs ?_
                refine c_seq ?_
                refine c_reg ?_
                refine ow_batch [.p, .p] rfl ?_
                obtain ⟨y28, h29, H⟩ := of_bind H
                refine ow_q rfl rfl (dstOk_lt rfl) (qy_call rfl fn18 rfl (fun w1 hw1 => laws_heldByteS_ok w1 h29 ((fun w1 hw1 => rds_own (r := 1) rfl w1 hw1) w1 hw1))) (fun _ _ => trivial) ?_
                refine ow_batch [.p] rfl ?_
                refine ow_nil ?_
                refine x_qs ?_
                refine c_seq ?_
                refine c_seq ?_
                refine c_reg ?_
                refine ow_batch [.p, .p] rfl ?_
                refine ow_nil ?_
                refine x_qs ?_
                refine c_if rfl (fun hb => ?_) (fun hb => ?_)
                · have H := of_if_t hb H
                  refine c_seq ?_
                  refine c_reg ?_
                  refine ow_batch [.p] rfl ?_
                  refine ow_nil ?_
                  refine x_qs ?_
                  refine c_ret ?_
                  refine x_qs_ret ?_
                  exact x_ret1 rfl rfl fun w' hw' => ⟨by rw [of_some H], hw'.ext⟩
                · have H := of_if_f hb H
                  refine c_skip ?_
                  refine x_qs ?_
                  refine c_seq ?_
                  refine c_seq ?_
                  refine c_reg ?_
                  refine ow_batch [.p, .p, .p] rfl ?_
                  refine ow_nil ?_
                  refine x_qs ?_
                  refine c_if rfl (fun hb => ?_) (fun hb => ?_)
                  · have H := of_if_t hb H
                    refine c_seq ?_
                    refine c_reg ?_
                    refine ow_batch [.p] rfl ?_
                    refine ow_nil ?_
                    refine x_qs ?_
                    refine c_ret ?_
                    refine x_qs_ret ?_
                    exact x_ret1 rfl rfl fun w' hw' => ⟨by rw [of_some H], hw'.ext⟩
                  · have H := of_if_f hb H
                    refine c_skip ?_
                    refine x_qs ?_
                    refine c_seq ?_
                    refine c_reg ?_
                    refine ow_batch [.p] rfl ?_
                    refine ow_nil ?_
                    refine x_qs ?_
                    refine c_ret ?_
                    exact x_ret1 rfl rfl fun w' hw' => ⟨by rw [of_some H], hw'.ext⟩
            · generalize (!y24) = t27 at key ⊢
              cases t27
              · refine ow_batch [.p, .p] rfl ?_
                refine ow_r rfl (dstOk_lt rfl) (ry_bneq rfl rfl rfl bl4) ?_
                refine ow_batch [.p] rfl ?_
                exact OW.sub key ⟨rfl, rfl, rfl, rfl, rfl, trivial⟩
              · refine ow_batch [.p, .p, .p, .p] rfl ?_
                exact OW.sub key ⟨rfl, rfl, rfl, rfl, rfl, trivial⟩
    · generalize (!y11) = t14 at key ⊢
      cases t14
      · refine ow_batch [.p, .p] rfl ?_
        refine ow_r rfl (dstOk_lt rfl) (ry_bneq rfl rfl rfl bl4) ?_
        refine ow_batch [.p] rfl ?_
        exact OW.sub key ⟨rfl, rfl, rfl, rfl, rfl, rfl, trivial⟩
      · refine ow_batch [.p, .p, .p, .p] rfl ?_
        exact OW.sub key ⟨rfl, rfl, rfl, rfl, rfl, rfl, trivial⟩

end Go.Vk
