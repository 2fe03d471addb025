/- The code does what the functions of data say. Printed by program. -/

import Derived.Test.YtgpfgjlmjodcaaaRF

import Derived.Test.YtgpfgjlmjodcaaaChecked

namespace Go.Vk

open Go.Proofs Go.RowKit



theorem sl22 : isSl Try.prog 22 3 := isSl_of (by kernel_rfl)

theorem ty3 : isTy Try.prog 3 false 1 8 [.int .i64 0] := isTy_of (by kernel_rfl)

theorem fn11 : isFn Try.prog 11 := ⟨Try.f11, Try.func11, rfl, by decide⟩

theorem fn80 : isFn Try.prog 80 := ⟨Try.f80, Try.func80, rfl, by decide⟩

theorem sl23 : isSl Try.prog 23 5 := isSl_of (by kernel_rfl)

theorem ty5 : isTy Try.prog 5 false 1 1 [.int .u8 0] := isTy_of (by kernel_rfl)

theorem us3 : (Try.prog.underlying 3).isSome = true := by kernel_rfl

theorem in5 : isInt Try.prog 5 .u8 := isInt_of (by kernel_rfl)

theorem fn81 : isFn Try.prog 81 := ⟨Try.f81, Try.func81, rfl, by decide⟩

theorem fn46 : isFn Try.prog 46 := ⟨Try.f46, Try.func46, rfl, by decide⟩

theorem fn47 : isFn Try.prog 47 := ⟨Try.f47, Try.func47, rfl, by decide⟩

theorem fn10 : isFn Try.prog 10 := ⟨Try.f10, Try.func10, rfl, by decide⟩

theorem fn77 : isFn Try.prog 77 := ⟨Try.f77, Try.func77, rfl, by decide⟩

theorem fn78 : isFn Try.prog 78 := ⟨Try.f78, Try.func78, rfl, by decide⟩

theorem fn43 : isFn Try.prog 43 := ⟨Try.f43, Try.func43, rfl, by decide⟩

theorem fa69_1 : isFa Try.prog 69 1 1 := isFa_of (by kernel_rfl)

theorem ty4 : isTy Try.prog 4 false 1 1 [.bool false] := isTy_of (by kernel_rfl)

theorem fa69_0 : isFa Try.prog 69 0 0 := isFa_of (by kernel_rfl)

theorem ty23 : isTy Try.prog 23 false 1 24 [.slice none 0 0] := isTy_of (by kernel_rfl)

theorem fn82 : isFn Try.prog 82 := ⟨Try.f82, Try.func82, rfl, by decide⟩

theorem fn48 : isFn Try.prog 48 := ⟨Try.f48, Try.func48, rfl, by decide⟩

theorem ty69 : isTy Try.prog 69 true 2 32 [.slice none 0 0, .bool false] := isTy_of (by kernel_rfl)

theorem fs69 : isFs Try.prog 69 [(0, 1), (1, 1)] := isFs_of (by kernel_rfl)

theorem fn49 : isFn Try.prog 49 := ⟨Try.f49, Try.func49, rfl, by decide⟩

theorem mixed : Try.prog.follows .mixedOrders = true := by kernel_rfl

theorem fn14 : isFn Try.prog 14 := ⟨Try.f14, Try.func14, rfl, by decide⟩

theorem fn15 : isFn Try.prog 15 := ⟨Try.f15, Try.func15, rfl, by decide⟩

theorem fn13 : isFn Try.prog 13 := ⟨Try.f13, Try.func13, rfl, by decide⟩

theorem fn16 : isFn Try.prog 16 := ⟨Try.f16, Try.func16, rfl, by decide⟩

theorem fn17 : isFn Try.prog 17 := ⟨Try.f17, Try.func17, rfl, by decide⟩

theorem fn12 : isFn Try.prog 12 := ⟨Try.f12, Try.func12, rfl, by decide⟩

set_option maxHeartbeats 4000000 in
set_option maxRecDepth 100000 in
theorem laws_toIntS_ok (w : World) {M0 : List Nat} {p0 : List Int} {a_0 : Option Addr} {n_0 c_0 : Nat} {r : List Int} (H : laws_toIntS p0 = some r) (HS : St w M0 [] w) (g0 : (eList (eVal (Value.int .i64) (fun _ => rfl)) 3).rd w M0 p0 [.slice a_0 n_0 c_0]) :
    Calls Try.prog 11 #[.slice a_0 n_0 c_0] w (fun en w' => ∃ v, en = .returned v ∧ ∃ (a0 : Option Addr), ∃ (n0 : Nat), ∃ (c0 : Nat), ∃ (F0 : List Nat), v = .slice a0 n0 c0 ∧ St w M0 [Res.own (eList (eVal (Value.int .i64) (fun _ => rfl)) 3) F0 r [.slice a0 n0 c0]] w') := by
  obtain rfl := rd_n g0
  unfold laws_toIntS at H
  refine f_enter (vs := [.slice a_0 p0.length c_0]) Try.func11 rfl Try.ntmps11 rfl (HS) ?_
  refine c_seq ?_
  refine c_reg ?_
  refine ow_batch [.p] rfl ?_
  refine ow_nil ?_
  refine x_qs ?_
  refine c_seq ?_
  refine c_reg ?_
  refine ow_batch [.p, .lenS 22 3 sl22] rfl ?_
  obtain ⟨l1, h2, H⟩ := of_bind H
  refine ow_make (e := eVal (Value.int .i64) (fun _ => rfl)) (zero := (0 : Int)) rfl rfl rfl rfl rfl rfl sl22 ty3 rfl rfl rfl rfl (fun _ => ⟨rfl, rfl⟩) h2 (fun _ => kp) (fun b3 => ?_)
  refine ow_batch [.p] rfl ?_
  refine ow_nil ?_
  refine x_qs ?_
  refine c_seq ?_
  refine c_seq ?_
  refine c_reg ?_
  refine ow_batch [.p] rfl ?_
  refine ow_nil ?_
  refine x_qs ?_
  refine c_block ?_
  refine CW.at (loopI2 (fun (l10 : List Int) (i11 : Int) => St w M0 [Res.own (eList (eVal (Value.int .i64) (fun _ => rfl)) 3) [b3] l10 [.slice (some ⟨b3, 0, none⟩) l1.length l1.length]]) (fun (l10 : List Int) (i11 : Int) => [(0, .slice a_0 p0.length c_0), (3, .slice (some ⟨b3, 0, none⟩) l1.length l1.length), (4, .int .i64 i11)]) (fun kk => fun (l10 : List Int) (i11 : Int) => laws_toIntS_L1 p0 kk l10 i11 = some r) (fun _ _ H => ?_) (fun k1 ihk1 l10 i11 H => ?_) Fuel (l1) (0) (H)) (fun _ h => St.sel [0] rfl rfl h) ⟨rfl, rfl, rfl,  trivial⟩
  · unfold laws_toIntS_L1 at H
    exact absurd H (by simp)
  · unfold laws_toIntS_L1 at H
    refine c_seq ?_
    refine c_seq ?_
    refine c_reg ?_
    refine ow_batch [.p, .p, .lenS 22 3 sl22, .p] rfl ?_
    refine ow_nil ?_
    refine x_qs ?_
    refine c_if rfl (fun hb => ?_) (fun hb => ?_)
    · have H := of_if_t hb H
      refine c_skip ?_
      refine x_qs ?_
      refine c_seq ?_
      refine c_block ?_
      refine c_reg ?_
      refine ow_batch [.p, .p, .p, .p] rfl ?_
      obtain ⟨e18, h19, H⟩ := of_bind H
      refine ow_ixE (e := eVal (Value.int .i64) (fun _ => rfl)) (xs := p0) (j := i11) rfl rfl rfl rfl rfl sl22 ty3 rfl (fun w1 hw1 => rds_bor g0 w1 hw1) h19 (by rw [Nat.mul_one]) ?_
      refine ow_r rfl (dstOk_lt rfl) (ry_load1 rfl rfl ty3 (at_elV (fun w1 hw1 => rds_bor g0 w1 hw1) h19)) ?_
      obtain ⟨e20, h21, H⟩ := of_bind H
      refine ow_ixE (e := eVal (Value.int .i64) (fun _ => rfl)) (xs := l10) (j := i11) rfl rfl rfl rfl rfl sl22 ty3 rfl (fun w1 hw1 => rds_own (r := 0) rfl w1 hw1) h21 (by rw [Nat.mul_one]) ?_
      refine ow_storeV (i := 0) (j := i11) rfl rfl rfl rfl rfl rfl ty3 rfl h21 (fun _ => rfl) kp ?_
      refine ow_nil ?_
      refine x_qb ?_
      refine x_qs ?_
      refine c_reg ?_
      refine ow_batch [.p, .p, .p] rfl ?_
      refine ow_nil ?_
      exact x_ql (RW.at (ihk1 ((l10.set i11.toNat e18)) (IntKind.i64.wrap (i11 + 1)) (H)) (fun _ h => St.sel [0] rfl rfl h) ⟨rfl, rfl, rfl, trivial⟩)
    · have H := of_if_f hb H
      refine c_exit ?_
      refine x_qs_exit ?_
      refine x_ql_exit ?_
      refine x_qb_here ?_
      refine x_qs ?_
      refine c_seq ?_
      refine c_reg ?_
      refine ow_batch [.p, .p] rfl ?_
      refine ow_nil ?_
      refine x_qs ?_
      refine c_ret ?_
      exact x_retR (rs := [.tmp 2]) (vs := [.slice (some ⟨b3, 0, none⟩) l1.length l1.length]) rfl ⟨rfl, trivial⟩ (fun w' hw' => by
          obtain rfl := of_some H
          exact ⟨_, rfl, (some ⟨b3, 0, none⟩), l1.length, l1.length, [b3], rfl, hw'.sel [0] rfl rfl⟩)

set_option maxHeartbeats 4000000 in
set_option maxRecDepth 100000 in
theorem spec_l1In_ok (w : World) {p0 : Int} {p1 : Int} {p2 : Int}  {r : Bool} (H : spec_l1In p0 p1 p2 = some r)   :
    Calls Try.prog 80 #[.int .i64 p0, .int .i64 p1, .int .i64 p2] w (fun en w' => en = .returned (.bool r) ∧ Ext [] w w') := by
  unfold spec_l1In at H
  refine f_enter (vs := [.int .i64 p0, .int .i64 p1, .int .i64 p2]) Try.func80 rfl Try.ntmps80 rfl (St.init w []) ?_
  refine c_seq ?_
  refine c_reg ?_
  refine ow_batch [.p] rfl ?_
  refine ow_nil ?_
  refine x_qs ?_
  refine c_seq ?_
  refine c_reg ?_
  refine ow_batch [.p, .p, .p, .p] rfl ?_
  refine ow_cut [(14, .bool ((decide (p0 ≥ p1)) && (decide (p0 ≤ p2)))), (6, .bool false)] 4 ?_ (fun key => OW.sub (R := [(0, .int .i64 p0), (2, .int .i64 p2), (6, .bool false), (10, .bool (decide (p0 ≥ p1)))]) ?_ ⟨rfl, rfl, rfl, rfl, trivial⟩)
  · refine ow_batch [.p] rfl ?_
    refine ow_nil ?_
    refine x_qs ?_
    refine c_ret ?_
    exact x_retR (rs := [.tmp 6]) (vs := [.bool ((decide (p0 ≥ p1)) && (decide (p0 ≤ p2)))]) rfl ⟨rfl, trivial⟩ (fun w' hw' => by
        obtain rfl := of_some H
        exact ⟨rfl, hw'.ext⟩)
  · generalize (decide (p0 ≥ p1)) = t2 at key ⊢
    cases t2
    · refine ow_batch [.p, .p, .p, .p] rfl ?_
      exact OW.sub key ⟨rfl, rfl, trivial⟩
    · refine ow_batch [.p, .p, .p] rfl ?_
      refine ow_batch [.p] rfl ?_
      exact OW.sub key ⟨rfl, rfl, trivial⟩

set_option maxHeartbeats 4000000 in
set_option maxRecDepth 100000 in
theorem spec_l27Fits_ok (w : World) {p0 : List Int} {a_0 : Option Addr} {n_0 c_0 : Nat} {r : Bool} (H : spec_l27Fits p0 = some r)  (g0 : (eList (eVal (Value.int .i64) (fun _ => rfl)) 3).rd w [] p0 [.slice a_0 n_0 c_0]) :
    Calls Try.prog 46 #[.slice a_0 n_0 c_0] w (fun en w' => en = .returned (.bool r) ∧ Ext [] w w') := by
  obtain rfl := rd_n g0
  unfold spec_l27Fits at H
  refine f_enter (vs := [.slice a_0 p0.length c_0]) Try.func46 rfl Try.ntmps46 rfl (St.init w []) ?_
  refine c_seq ?_
  refine c_reg ?_
  refine ow_batch [.p] rfl ?_
  refine ow_nil ?_
  refine x_qs ?_
  refine c_seq ?_
  refine c_seq ?_
  refine c_reg ?_
  refine ow_batch [.p] rfl ?_
  refine ow_nil ?_
  refine x_qs ?_
  refine c_block ?_
  refine CW.at (loopI1 (fun (i6 : Int) => St w [] []) (fun (i6 : Int) => [(0, .slice a_0 p0.length c_0), (3, .int .i64 i6)]) (fun kk => fun (i6 : Int) => spec_l27Fits_L1 p0 kk i6 = some r) (fun _ H => ?_) (fun k1 ihk1 i6 H => ?_) Fuel (0) (H)) (fun _ h => St.sel [] rfl rfl h) ⟨rfl, rfl,  trivial⟩
  · unfold spec_l27Fits_L1 at H
    exact absurd H (by simp)
  · unfold spec_l27Fits_L1 at H
    refine c_seq ?_
    refine c_seq ?_
    refine c_reg ?_
    refine ow_batch [.p, .p, .lenS 22 3 sl22, .p] rfl ?_
    refine ow_nil ?_
    refine x_qs ?_
    refine c_if rfl (fun hb => ?_) (fun hb => ?_)
    · have H := of_if_t hb H
      refine c_skip ?_
      refine x_qs ?_
      refine c_seq ?_
      refine c_block ?_
      refine c_seq ?_
      refine c_reg ?_
      refine ow_batch [.p, .p] rfl ?_
      obtain ⟨e12, h13, H⟩ := of_bind H
      refine ow_ixE (e := eVal (Value.int .i64) (fun _ => rfl)) (xs := p0) (j := i6) rfl rfl rfl rfl rfl sl22 ty3 rfl (fun w1 hw1 => rds_bor g0 w1 hw1) h13 (by rw [Nat.mul_one]) ?_
      refine ow_r rfl (dstOk_lt rfl) (ry_load1 rfl rfl ty3 (at_elV (fun w1 hw1 => rds_bor g0 w1 hw1) h13)) ?_
      obtain ⟨y14, h15, H⟩ := of_bind H
      refine ow_q rfl rfl (dstOk_lt rfl) (qy_call rfl fn80 rfl (fun w1 hw1 => spec_l1In_ok w1  h15)) (fun _ _ => trivial) ?_
      refine ow_batch [.p] rfl ?_
      refine ow_nil ?_
      refine x_qs ?_
      refine c_if rfl (fun hb => ?_) (fun hb => ?_)
      · have H := of_if_t hb H
        refine c_seq ?_
        refine c_reg ?_
        refine ow_batch [.p] rfl ?_
        refine ow_nil ?_
        refine x_qs ?_
        refine c_ret ?_
        refine x_qb_ret ?_
        refine x_qs_ret ?_
        refine x_ql_ret ?_
        refine x_qb_ret ?_
        refine x_qs_ret ?_
        exact x_retR (rs := [.tmp 2]) (vs := [.bool false]) rfl ⟨rfl, trivial⟩ (fun w' hw' => by
            obtain rfl := of_some H
            exact ⟨rfl, hw'.ext⟩)
      · have H := of_if_f hb H
        refine c_skip ?_
        refine x_qb ?_
        refine x_qs ?_
        refine c_reg ?_
        refine ow_batch [.p, .p, .p] rfl ?_
        refine ow_nil ?_
        exact x_ql (RW.at (ihk1 (IntKind.i64.wrap (i6 + 1)) (H)) (fun _ h => St.sel [] rfl rfl h) ⟨rfl, rfl, trivial⟩)
    · have H := of_if_f hb H
      refine c_exit ?_
      refine x_qs_exit ?_
      refine x_ql_exit ?_
      refine x_qb_here ?_
      refine x_qs ?_
      refine c_seq ?_
      refine c_reg ?_
      refine ow_batch [.p] rfl ?_
      refine ow_nil ?_
      refine x_qs ?_
      refine c_ret ?_
      exact x_retR (rs := [.tmp 2]) (vs := [.bool true]) rfl ⟨rfl, trivial⟩ (fun w' hw' => by
          obtain rfl := of_some H
          exact ⟨rfl, hw'.ext⟩)

set_option maxHeartbeats 4000000 in
set_option maxRecDepth 100000 in
theorem spec_PutNum_ok (w : World) {M0 : List Nat} {p0 : Int}  {r : List Int} (H : spec_PutNum p0 = some r) (HS : St w M0 [] w)  :
    Calls Try.prog 81 #[.int .i64 p0] w (fun en w' => ∃ v, en = .returned v ∧ ∃ (a0 : Option Addr), ∃ (n0 : Nat), ∃ (c0 : Nat), ∃ (F0 : List Nat), v = .slice a0 n0 c0 ∧ St w M0 [Res.own (eList (eVal (Value.int .u8) (fun _ => rfl)) 5) F0 r [.slice a0 n0 c0]] w') := by
  unfold spec_PutNum at H
  refine f_enter (vs := [.int .i64 p0]) Try.func81 rfl Try.ntmps81 rfl (HS) ?_
  refine c_seq ?_
  refine c_reg ?_
  refine ow_batch [.p] rfl ?_
  refine ow_nil ?_
  refine x_qs ?_
  refine c_seq ?_
  refine c_reg ?_
  refine ow_blit0 (e := eVal (Value.int .u8) (fun _ => rfl)) rfl rfl rfl rfl sl23 ty5 (fun _ => kp) (fun b1 => ?_)
  refine ow_batch [.p] rfl ?_
  refine ow_nil ?_
  refine x_qs ?_
  refine c_seq ?_
  refine c_seq ?_
  refine c_reg ?_
  refine ow_batch [.p] rfl ?_
  obtain ⟨y2, h3, H⟩ := of_bind H
  refine ow_q rfl rfl (dstOk_lt rfl) (qy_call rfl fn80 rfl (fun w1 hw1 => spec_l1In_ok w1  h3)) (fun _ _ => trivial) ?_
  refine ow_batch [.p] rfl ?_
  refine ow_nil ?_
  refine x_qs ?_
  refine c_if rfl (fun hb => ?_) (fun hb => ?_)
  · have H := of_if_t hb H
    refine c_seq ?_
    refine c_reg ?_
    refine ow_batch [.p, .p] rfl ?_
    refine ow_nil ?_
    refine x_qs ?_
    refine c_ret ?_
    refine x_qs_ret ?_
    exact x_retR (rs := [.tmp 2]) (vs := [.slice (some ⟨b1, 0, none⟩) 0 0]) rfl ⟨rfl, trivial⟩ (fun w' hw' => by
        obtain rfl := of_some H
        exact ⟨_, rfl, (some ⟨b1, 0, none⟩), 0, 0, [b1], rfl, hw'.sel [0] rfl rfl⟩)
  · have H := of_if_f hb H
    refine c_skip ?_
    refine x_qs ?_
    refine c_seq ?_
    refine c_block ?_
    refine CW.at (loopI5 (fun (i16 : Int) (l17 : List Int) (a18 : Option Addr) (c19 : Nat) (F20 : List Nat) => St w M0 [Res.own (eList (eVal (Value.int .u8) (fun _ => rfl)) 5) F20 l17 [.slice a18 l17.length c19]]) (fun (i16 : Int) (l17 : List Int) (a18 : Option Addr) (c19 : Nat) (F20 : List Nat) => [(0, .int .i64 i16), (3, .slice a18 l17.length c19)]) (fun kk => fun (i16 : Int) (l17 : List Int) (a18 : Option Addr) (c19 : Nat) (F20 : List Nat) => spec_PutNum_L1 kk i16 l17 = some r) (fun _ _ _ _ _ H => ?_) (fun k1 ihk1 i16 l17 a18 c19 F20 H => ?_) Fuel (p0) (([] : List Int)) ((some ⟨b1, 0, none⟩)) (0) ([b1]) (H)) (fun _ h => St.sel [0] rfl rfl h) ⟨rfl, rfl,  trivial⟩
    · unfold spec_PutNum_L1 at H
      exact absurd H (by simp)
    · unfold spec_PutNum_L1 at H
      refine c_seq ?_
      refine c_seq ?_
      refine c_reg ?_
      refine ow_batch [.p, .p] rfl ?_
      refine ow_nil ?_
      refine x_qs ?_
      refine c_if rfl (fun hb => ?_) (fun hb => ?_)
      · have H := of_if_t hb H
        refine c_skip ?_
        refine x_qs ?_
        refine c_block ?_
        refine c_seq ?_
        refine c_reg ?_
        refine ow_batch [.p, .p, .p, .p, .cv 3 5 .u8 us3 in5] rfl ?_
        refine ow_blit (val := Value.int .u8) (h1 := fun _ => rfl) [IntKind.u8.wrap (IntKind.i64.wrap ((Int.tmod i16 128) + 128))] [(0, [.int .u8 (IntKind.u8.wrap (IntKind.i64.wrap ((Int.tmod i16 128) + 128)))])] rfl rfl rfl rfl rfl sl23 ty5 rfl rfl rfl ⟨rfl, rfl, Nat.le_of_ble_eq_true rfl,  trivial⟩ rfl rfl (fun _ => kp) (fun b33 => ?_)
        obtain ⟨l34, h35, H⟩ := of_bind H
        refine ow_appR (r := 0) (ys := ([IntKind.u8.wrap (IntKind.i64.wrap ((Int.tmod i16 128) + 128))] : List Int)) rfl rfl rfl rfl rfl rfl sl23 ty5 rfl rfl rfl (fun w1 hw1 => rds_own (r := 1) rfl w1 hw1) h35 (fun _ _ _ => kp) (fun a36 c37 F38 => ?_)
        refine ow_fact rfl (fun w1 hw1 => own_nn (i := 0) hw1 rfl (app_ne h35)) (fun hz39 => ?_)
        refine ow_batch [.p] rfl ?_
        refine ow_nil ?_
        refine x_qs ?_
        refine c_reg ?_
        refine ow_batch [.p, .p, .p] rfl ?_
        refine ow_nil ?_
        refine x_qb ?_
        exact x_ql (RW.at (ihk1 (IntKind.i64.wrap (Int.tdiv i16 128)) (l34) (a36) (c37) (F38) (H)) (fun _ h => St.sel [0] rfl rfl h) ⟨rfl, rfl, trivial⟩)
      · have H := of_if_f hb H
        refine c_exit ?_
        refine x_qs_exit ?_
        refine x_ql_exit ?_
        refine x_qb_here ?_
        refine x_qs ?_
        refine c_seq ?_
        refine c_reg ?_
        refine ow_batch [.p, .p, .cv 3 5 .u8 us3 in5] rfl ?_
        refine ow_blit (val := Value.int .u8) (h1 := fun _ => rfl) [IntKind.u8.wrap i16] [(0, [.int .u8 (IntKind.u8.wrap i16)])] rfl rfl rfl rfl rfl sl23 ty5 rfl rfl rfl ⟨rfl, rfl, Nat.le_of_ble_eq_true rfl,  trivial⟩ rfl rfl (fun _ => kp) (fun b40 => ?_)
        obtain ⟨l41, h42, H⟩ := of_bind H
        refine ow_appR (r := 0) (ys := ([IntKind.u8.wrap i16] : List Int)) rfl rfl rfl rfl rfl rfl sl23 ty5 rfl rfl rfl (fun w1 hw1 => rds_own (r := 1) rfl w1 hw1) h42 (fun _ _ _ => kp) (fun a43 c44 F45 => ?_)
        refine ow_fact rfl (fun w1 hw1 => own_nn (i := 0) hw1 rfl (app_ne h42)) (fun hz46 => ?_)
        refine ow_batch [.p] rfl ?_
        refine ow_nil ?_
        refine x_qs ?_
        refine c_ret ?_
        exact x_retR (rs := [.tmp 2]) (vs := [.slice a43 l41.length c44]) rfl ⟨rfl, trivial⟩ (fun w' hw' => by
            obtain rfl := of_some H
            exact ⟨_, rfl, a43, l41.length, c44, F45, rfl, hw'.sel [0] rfl rfl⟩)

set_option maxHeartbeats 4000000 in
set_option maxRecDepth 100000 in
theorem spec_PutInt_ok (w : World) {M0 : List Nat} {p0 : Int}  {r : List Int} (H : spec_PutInt p0 = some r) (HS : St w M0 [] w)  :
    Calls Try.prog 47 #[.int .i64 p0] w (fun en w' => ∃ v, en = .returned v ∧ ∃ (a0 : Option Addr), ∃ (n0 : Nat), ∃ (c0 : Nat), ∃ (F0 : List Nat), v = .slice a0 n0 c0 ∧ St w M0 [Res.own (eList (eVal (Value.int .u8) (fun _ => rfl)) 5) F0 r [.slice a0 n0 c0]] w') := by
  unfold spec_PutInt at H
  refine f_enter (vs := [.int .i64 p0]) Try.func47 rfl Try.ntmps47 rfl (HS) ?_
  refine c_seq ?_
  refine c_reg ?_
  refine ow_batch [.p] rfl ?_
  refine ow_nil ?_
  refine x_qs ?_
  refine c_seq ?_
  refine c_seq ?_
  refine c_reg ?_
  refine ow_batch [.p] rfl ?_
  obtain ⟨y1, h2, H⟩ := of_bind H
  refine ow_q rfl rfl (dstOk_lt rfl) (qy_call rfl fn80 rfl (fun w1 hw1 => spec_l1In_ok w1  h2)) (fun _ _ => trivial) ?_
  refine ow_batch [.p] rfl ?_
  refine ow_nil ?_
  refine x_qs ?_
  refine c_if rfl (fun hb => ?_) (fun hb => ?_)
  · have H := of_if_t hb H
    refine c_seq ?_
    refine c_reg ?_
    refine ow_blit0 (e := eVal (Value.int .u8) (fun _ => rfl)) rfl rfl rfl rfl sl23 ty5 (fun _ => kp) (fun b3 => ?_)
    refine ow_batch [.p] rfl ?_
    refine ow_nil ?_
    refine x_qs ?_
    refine c_ret ?_
    refine x_qs_ret ?_
    exact x_retR (rs := [.tmp 2]) (vs := [.slice (some ⟨b3, 0, none⟩) 0 0]) rfl ⟨rfl, trivial⟩ (fun w' hw' => by
        obtain rfl := of_some H
        exact ⟨_, rfl, (some ⟨b3, 0, none⟩), 0, 0, [b3], rfl, hw'.sel [0] rfl rfl⟩)
  · have H := of_if_f hb H
    refine c_skip ?_
    refine x_qs ?_
    refine c_seq ?_
    refine c_seq ?_
    refine c_reg ?_
    refine ow_batch [.p, .p] rfl ?_
    refine ow_nil ?_
    refine x_qs ?_
    refine c_if rfl (fun hb => ?_) (fun hb => ?_)
    · have H := of_if_t hb H
      refine c_seq ?_
      refine c_reg ?_
      refine ow_batch [.p, .p, .p, .p] rfl ?_
      obtain ⟨y4, h5, H⟩ := of_bind H
      refine ow_callS rfl fn81 rfl rfl rfl rfl (fun w1 hw1 => spec_PutNum_ok w1  h5 (hw1.carve [] rfl rfl)) (fun v6 w1 w2 hw1 hR8 => ?_)
      obtain ⟨a9, n10, c11, F12, rfl, hS7⟩ := hR8
      obtain rfl := own_nS (i := 0) hS7 rfl
      refine ⟨St w M0 [_], hw1.comp [] rfl rfl hS7, fun _ _ => trivial, ?_⟩
      refine ow_batch [.p] rfl ?_
      refine ow_nil ?_
      refine x_qs ?_
      refine c_ret ?_
      refine x_qs_ret ?_
      exact x_retR (rs := [.tmp 2]) (vs := [.slice a9 y4.length c11]) rfl ⟨rfl, trivial⟩ (fun w' hw' => by
          obtain rfl := of_some H
          exact ⟨_, rfl, a9, y4.length, c11, F12, rfl, hw'.sel [0] rfl rfl⟩)
    · have H := of_if_f hb H
      refine c_skip ?_
      refine x_qs ?_
      refine c_seq ?_
      refine c_reg ?_
      refine ow_batch [.p, .p] rfl ?_
      obtain ⟨y13, h14, H⟩ := of_bind H
      refine ow_callS rfl fn81 rfl rfl rfl rfl (fun w1 hw1 => spec_PutNum_ok w1  h14 (hw1.carve [] rfl rfl)) (fun v15 w1 w2 hw1 hR17 => ?_)
      obtain ⟨a18, n19, c20, F21, rfl, hS16⟩ := hR17
      obtain rfl := own_nS (i := 0) hS16 rfl
      refine ⟨St w M0 [_], hw1.comp [] rfl rfl hS16, fun _ _ => trivial, ?_⟩
      refine ow_batch [.p] rfl ?_
      refine ow_nil ?_
      refine x_qs ?_
      refine c_ret ?_
      exact x_retR (rs := [.tmp 2]) (vs := [.slice a18 y13.length c20]) rfl ⟨rfl, trivial⟩ (fun w' hw' => by
          obtain rfl := of_some H
          exact ⟨_, rfl, a18, y13.length, c20, F21, rfl, hw'.sel [0] rfl rfl⟩)

set_option maxHeartbeats 4000000 in
set_option maxRecDepth 100000 in
theorem spec_PutInts_ok (w : World) {M0 : List Nat} {p0 : List Int} {a_0 : Option Addr} {n_0 c_0 : Nat} {r : List Int} (H : spec_PutInts p0 = some r) (HS : St w M0 [] w) (g0 : (eList (eVal (Value.int .i64) (fun _ => rfl)) 3).rd w M0 p0 [.slice a_0 n_0 c_0]) :
    Calls Try.prog 10 #[.slice a_0 n_0 c_0] w (fun en w' => ∃ v, en = .returned v ∧ ∃ (a0 : Option Addr), ∃ (n0 : Nat), ∃ (c0 : Nat), ∃ (F0 : List Nat), v = .slice a0 n0 c0 ∧ St w M0 [Res.own (eList (eVal (Value.int .u8) (fun _ => rfl)) 5) F0 r [.slice a0 n0 c0]] w') := by
  obtain rfl := rd_n g0
  unfold spec_PutInts at H
  refine f_enter (vs := [.slice a_0 p0.length c_0]) Try.func10 rfl Try.ntmps10 rfl (HS) ?_
  refine c_seq ?_
  refine c_reg ?_
  refine ow_batch [.p] rfl ?_
  refine ow_nil ?_
  refine x_qs ?_
  refine c_seq ?_
  refine c_seq ?_
  refine c_reg ?_
  refine ow_batch [.p] rfl ?_
  obtain ⟨y1, h2, H⟩ := of_bind H
  refine ow_q rfl rfl (dstOk_lt rfl) (qy_call rfl fn46 rfl (fun w1 hw1 => spec_l27Fits_ok w1  h2 (rds_bor g0 w1 hw1))) (fun _ _ => trivial) ?_
  refine ow_batch [.p] rfl ?_
  refine ow_nil ?_
  refine x_qs ?_
  refine c_if rfl (fun hb => ?_) (fun hb => ?_)
  · have H := of_if_t hb H
    refine c_seq ?_
    refine c_reg ?_
    refine ow_blit0 (e := eVal (Value.int .u8) (fun _ => rfl)) rfl rfl rfl rfl sl23 ty5 (fun _ => kp) (fun b3 => ?_)
    refine ow_batch [.p] rfl ?_
    refine ow_nil ?_
    refine x_qs ?_
    refine c_ret ?_
    refine x_qs_ret ?_
    exact x_retR (rs := [.tmp 2]) (vs := [.slice (some ⟨b3, 0, none⟩) 0 0]) rfl ⟨rfl, trivial⟩ (fun w' hw' => by
        obtain rfl := of_some H
        exact ⟨_, rfl, (some ⟨b3, 0, none⟩), 0, 0, [b3], rfl, hw'.sel [0] rfl rfl⟩)
  · have H := of_if_f hb H
    refine c_skip ?_
    refine x_qs ?_
    refine c_seq ?_
    refine c_reg ?_
    refine ow_batch [.p, .lenS 22 3 sl22] rfl ?_
    obtain ⟨y4, h5, H⟩ := of_bind H
    refine ow_callS rfl fn47 rfl rfl rfl rfl (fun w1 hw1 => spec_PutInt_ok w1  h5 (hw1.carve [] rfl rfl)) (fun v6 w1 w2 hw1 hR8 => ?_)
    obtain ⟨a9, n10, c11, F12, rfl, hS7⟩ := hR8
    obtain rfl := own_nS (i := 0) hS7 rfl
    refine ⟨St w M0 [_], hw1.comp [] rfl rfl hS7, fun _ _ => trivial, ?_⟩
    refine ow_batch [.p] rfl ?_
    refine ow_nil ?_
    refine x_qs ?_
    refine c_seq ?_
    refine c_seq ?_
    refine c_reg ?_
    refine ow_batch [.p] rfl ?_
    refine ow_nil ?_
    refine x_qs ?_
    refine c_block ?_
    refine CW.at (loopI5 (fun (l34 : List Int) (a35 : Option Addr) (c36 : Nat) (F37 : List Nat) (i38 : Int) => St w M0 [Res.own (eList (eVal (Value.int .u8) (fun _ => rfl)) 5) F37 l34 [.slice a35 l34.length c36]]) (fun (l34 : List Int) (a35 : Option Addr) (c36 : Nat) (F37 : List Nat) (i38 : Int) => [(0, .slice a_0 p0.length c_0), (3, .slice a35 l34.length c36), (4, .int .i64 i38)]) (fun kk => fun (l34 : List Int) (a35 : Option Addr) (c36 : Nat) (F37 : List Nat) (i38 : Int) => spec_PutInts_L1 p0 kk l34 i38 = some r) (fun _ _ _ _ _ H => ?_) (fun k1 ihk1 l34 a35 c36 F37 i38 H => ?_) Fuel (y4) (a9) (c11) (F12) (0) (H)) (fun _ h => St.sel [0] rfl rfl h) ⟨rfl, rfl, rfl,  trivial⟩
    · unfold spec_PutInts_L1 at H
      exact absurd H (by simp)
    · unfold spec_PutInts_L1 at H
      refine c_seq ?_
      refine c_seq ?_
      refine c_reg ?_
      refine ow_batch [.p, .p, .lenS 22 3 sl22, .p] rfl ?_
      refine ow_nil ?_
      refine x_qs ?_
      refine c_if rfl (fun hb => ?_) (fun hb => ?_)
      · have H := of_if_t hb H
        refine c_skip ?_
        refine x_qs ?_
        refine c_seq ?_
        refine c_block ?_
        refine c_reg ?_
        refine ow_batch [.p, .p, .p] rfl ?_
        obtain ⟨e60, h61, H⟩ := of_bind H
        refine ow_ixE (e := eVal (Value.int .i64) (fun _ => rfl)) (xs := p0) (j := i38) rfl rfl rfl rfl rfl sl22 ty3 rfl (fun w1 hw1 => rds_bor g0 w1 hw1) h61 (by rw [Nat.mul_one]) ?_
        refine ow_r rfl (dstOk_lt rfl) (ry_load1 rfl rfl ty3 (at_elV (fun w1 hw1 => rds_bor g0 w1 hw1) h61)) ?_
        obtain ⟨y62, h63, H⟩ := of_bind H
        refine ow_callS rfl fn47 rfl rfl rfl rfl (fun w1 hw1 => spec_PutInt_ok w1  h63 (hw1.carve [] rfl rfl)) (fun v64 w1 w2 hw1 hR66 => ?_)
        obtain ⟨a67, n68, c69, F70, rfl, hS65⟩ := hR66
        obtain rfl := own_nS (i := 0) hS65 rfl
        refine ⟨St w M0 [_, _], hw1.comp [] rfl rfl hS65, fun _ _ => trivial, ?_⟩
        obtain ⟨l71, h72, H⟩ := of_bind H
        refine ow_appR (r := 0) (ys := y62) rfl rfl rfl rfl rfl rfl sl23 ty5 rfl rfl rfl (fun w1 hw1 => rds_own (r := 1) rfl w1 hw1) h72 (fun _ _ _ => kp) (fun a73 c74 F75 => ?_)
        refine ow_batch [.p] rfl ?_
        refine ow_nil ?_
        refine x_qb ?_
        refine x_qs ?_
        refine c_reg ?_
        refine ow_batch [.p, .p, .p] rfl ?_
        refine ow_nil ?_
        exact x_ql (RW.at (ihk1 (l71) (a73) (c74) (F75) (IntKind.i64.wrap (i38 + 1)) (H)) (fun _ h => St.sel [0] rfl rfl h) ⟨rfl, rfl, rfl, trivial⟩)
      · have H := of_if_f hb H
        refine c_exit ?_
        refine x_qs_exit ?_
        refine x_ql_exit ?_
        refine x_qb_here ?_
        refine x_qs ?_
        refine c_seq ?_
        refine c_reg ?_
        refine ow_batch [.p, .p] rfl ?_
        refine ow_nil ?_
        refine x_qs ?_
        refine c_ret ?_
        exact x_retR (rs := [.tmp 2]) (vs := [.slice a35 l34.length c36]) rfl ⟨rfl, trivial⟩ (fun w' hw' => by
            obtain rfl := of_some H
            exact ⟨_, rfl, a35, l34.length, c36, F37, rfl, hw'.sel [0] rfl rfl⟩)

set_option maxHeartbeats 4000000 in
set_option maxRecDepth 100000 in
theorem impl_within_ok (w : World) {p0 : Int} {p1 : Int} {p2 : Int}  {r : Bool} (H : impl_within p0 p1 p2 = some r)   :
    Calls Try.prog 77 #[.int .i64 p0, .int .i64 p1, .int .i64 p2] w (fun en w' => en = .returned (.bool r) ∧ Ext [] w w') := by
  unfold impl_within at H
  refine f_enter (vs := [.int .i64 p0, .int .i64 p1, .int .i64 p2]) Try.func77 rfl Try.ntmps77 rfl (St.init w []) ?_
  refine c_seq ?_
  refine c_reg ?_
  refine ow_batch [.p] rfl ?_
  refine ow_nil ?_
  refine x_qs ?_
  refine c_seq ?_
  refine c_reg ?_
  refine ow_batch [.p, .p, .p, .p] rfl ?_
  refine ow_cut [(14, .bool ((decide (p0 ≥ p1)) && (decide (p0 ≤ p2)))), (6, .bool false)] 4 ?_ (fun key => OW.sub (R := [(0, .int .i64 p0), (2, .int .i64 p2), (6, .bool false), (10, .bool (decide (p0 ≥ p1)))]) ?_ ⟨rfl, rfl, rfl, rfl, trivial⟩)
  · refine ow_batch [.p] rfl ?_
    refine ow_nil ?_
    refine x_qs ?_
    refine c_ret ?_
    exact x_retR (rs := [.tmp 6]) (vs := [.bool ((decide (p0 ≥ p1)) && (decide (p0 ≤ p2)))]) rfl ⟨rfl, trivial⟩ (fun w' hw' => by
        obtain rfl := of_some H
        exact ⟨rfl, hw'.ext⟩)
  · generalize (decide (p0 ≥ p1)) = t2 at key ⊢
    cases t2
    · refine ow_batch [.p, .p, .p, .p] rfl ?_
      exact OW.sub key ⟨rfl, rfl, trivial⟩
    · refine ow_batch [.p, .p, .p] rfl ?_
      refine ow_batch [.p] rfl ?_
      exact OW.sub key ⟨rfl, rfl, trivial⟩

set_option maxHeartbeats 4000000 in
set_option maxRecDepth 100000 in
theorem impl_PutNum_ok (w : World) {M0 : List Nat} {p0 : Int}  {r : (List Int) × Bool} (H : impl_PutNum p0 = some r) (HS : St w M0 [] w)  :
    Calls Try.prog 78 #[.int .i64 p0] w (fun en w' => ∃ v, en = .returned v ∧ ∃ (a0 : Option Addr), ∃ (n0 : Nat), ∃ (c0 : Nat), ∃ (F0 : List Nat), v = .slice a0 n0 c0 ∧ a0.isNone = r.2 ∧ St w M0 [Res.own (eList (eVal (Value.int .u8) (fun _ => rfl)) 5) F0 r.1 [.slice a0 n0 c0]] w') := by
  unfold impl_PutNum at H
  refine f_enter (vs := [.int .i64 p0]) Try.func78 rfl Try.ntmps78 rfl (HS) ?_
  refine c_seq ?_
  refine c_reg ?_
  refine ow_batch [.p] rfl ?_
  refine ow_nil ?_
  refine x_qs ?_
  refine c_seq ?_
  refine c_seq ?_
  refine c_reg ?_
  refine ow_batch [.p] rfl ?_
  obtain ⟨y1, h2, H⟩ := of_bind H
  refine ow_q rfl rfl (dstOk_lt rfl) (qy_call rfl fn77 rfl (fun w1 hw1 => impl_within_ok w1  h2)) (fun _ _ => trivial) ?_
  refine ow_batch [.p] rfl ?_
  refine ow_nil ?_
  refine x_qs ?_
  refine c_if rfl (fun hb => ?_) (fun hb => ?_)
  · have H := of_if_t hb H
    refine c_seq ?_
    refine c_reg ?_
    refine ow_batch [.p] rfl ?_
    refine ow_nil ?_
    refine x_qs ?_
    refine c_ret ?_
    refine x_qs_ret ?_
    refine xw_st (fun _ h => St.pushNil (e := eVal (Value.int .u8) (fun _ => rfl)) (T := 5) h) ?_
    exact x_retR (rs := [.tmp 2]) (vs := [.slice none 0 0]) rfl ⟨rfl, trivial⟩ (fun w' hw' => by
        obtain rfl := of_some H
        exact ⟨_, rfl, none, 0, 0, [], rfl, rfl, hw'.sel [0] rfl rfl⟩)
  · have H := of_if_f hb H
    refine c_skip ?_
    refine x_qs ?_
    refine c_seq ?_
    refine c_reg ?_
    refine ow_blit0 (e := eVal (Value.int .u8) (fun _ => rfl)) rfl rfl rfl rfl sl23 ty5 (fun _ => kp) (fun b3 => ?_)
    refine ow_batch [.p] rfl ?_
    refine ow_nil ?_
    refine x_qs ?_
    refine c_seq ?_
    refine c_block ?_
    refine CW.at (loopI5 (fun (i16 : Int) (l17 : List Int) (a18 : Option Addr) (c19 : Nat) (F20 : List Nat) => St w M0 [Res.own (eList (eVal (Value.int .u8) (fun _ => rfl)) 5) F20 l17 [.slice a18 l17.length c19]]) (fun (i16 : Int) (l17 : List Int) (a18 : Option Addr) (c19 : Nat) (F20 : List Nat) => [(0, .int .i64 i16), (3, .slice a18 l17.length c19)]) (fun kk => fun (i16 : Int) (l17 : List Int) (a18 : Option Addr) (c19 : Nat) (F20 : List Nat) => impl_PutNum_L1 kk i16 l17 = some r) (fun _ _ _ _ _ H => ?_) (fun k1 ihk1 i16 l17 a18 c19 F20 H => ?_) Fuel (p0) (([] : List Int)) ((some ⟨b3, 0, none⟩)) (0) ([b3]) (H)) (fun _ h => St.sel [0] rfl rfl h) ⟨rfl, rfl,  trivial⟩
    · unfold impl_PutNum_L1 at H
      exact absurd H (by simp)
    · unfold impl_PutNum_L1 at H
      refine c_seq ?_
      refine c_seq ?_
      refine c_reg ?_
      refine ow_batch [.p, .p] rfl ?_
      refine ow_nil ?_
      refine x_qs ?_
      refine c_if rfl (fun hb => ?_) (fun hb => ?_)
      · have H := of_if_t hb H
        refine c_skip ?_
        refine x_qs ?_
        refine c_block ?_
        refine c_seq ?_
        refine c_reg ?_
        refine ow_batch [.p, .p, .p, .p, .cv 3 5 .u8 us3 in5] rfl ?_
        refine ow_blit (val := Value.int .u8) (h1 := fun _ => rfl) [IntKind.u8.wrap (ibits .or .i64 (ibits .and .i64 i16 127) 128)] [(0, [.int .u8 (IntKind.u8.wrap (ibits .or .i64 (ibits .and .i64 i16 127) 128))])] rfl rfl rfl rfl rfl sl23 ty5 rfl rfl rfl ⟨rfl, rfl, Nat.le_of_ble_eq_true rfl,  trivial⟩ rfl rfl (fun _ => kp) (fun b33 => ?_)
        obtain ⟨l34, h35, H⟩ := of_bind H
        refine ow_appR (r := 0) (ys := ([IntKind.u8.wrap (ibits .or .i64 (ibits .and .i64 i16 127) 128)] : List Int)) rfl rfl rfl rfl rfl rfl sl23 ty5 rfl rfl rfl (fun w1 hw1 => rds_own (r := 1) rfl w1 hw1) h35 (fun _ _ _ => kp) (fun a36 c37 F38 => ?_)
        refine ow_fact rfl (fun w1 hw1 => own_nn (i := 0) hw1 rfl (app_ne h35)) (fun hz39 => ?_)
        refine ow_batch [.p] rfl ?_
        refine ow_nil ?_
        refine x_qs ?_
        refine c_reg ?_
        refine ow_batch [.p, .p, .p] rfl ?_
        refine ow_nil ?_
        refine x_qb ?_
        exact x_ql (RW.at (ihk1 (ishr .i64 i16 7) (l34) (a36) (c37) (F38) (H)) (fun _ h => St.sel [0] rfl rfl h) ⟨rfl, rfl, trivial⟩)
      · have H := of_if_f hb H
        refine c_exit ?_
        refine x_qs_exit ?_
        refine x_ql_exit ?_
        refine x_qb_here ?_
        refine x_qs ?_
        refine c_seq ?_
        refine c_reg ?_
        refine ow_batch [.p, .p, .cv 3 5 .u8 us3 in5] rfl ?_
        refine ow_blit (val := Value.int .u8) (h1 := fun _ => rfl) [IntKind.u8.wrap i16] [(0, [.int .u8 (IntKind.u8.wrap i16)])] rfl rfl rfl rfl rfl sl23 ty5 rfl rfl rfl ⟨rfl, rfl, Nat.le_of_ble_eq_true rfl,  trivial⟩ rfl rfl (fun _ => kp) (fun b40 => ?_)
        obtain ⟨l41, h42, H⟩ := of_bind H
        refine ow_appR (r := 0) (ys := ([IntKind.u8.wrap i16] : List Int)) rfl rfl rfl rfl rfl rfl sl23 ty5 rfl rfl rfl (fun w1 hw1 => rds_own (r := 1) rfl w1 hw1) h42 (fun _ _ _ => kp) (fun a43 c44 F45 => ?_)
        refine ow_fact rfl (fun w1 hw1 => own_nn (i := 0) hw1 rfl (app_ne h42)) (fun hz46 => ?_)
        refine ow_batch [.p] rfl ?_
        refine ow_nil ?_
        refine x_qs ?_
        refine c_ret ?_
        exact x_retR (rs := [.tmp 2]) (vs := [.slice a43 l41.length c44]) rfl ⟨rfl, trivial⟩ (fun w' hw' => by
            obtain rfl := of_some H
            exact ⟨_, rfl, a43, l41.length, c44, F45, rfl, hz46, hw'.sel [0] rfl rfl⟩)

set_option maxHeartbeats 4000000 in
set_option maxRecDepth 100000 in
theorem impl_PutInt_ok (w : World) {M0 : List Nat} {p0 : Int}  {r : (List Int) × Bool} (H : impl_PutInt p0 = some r) (HS : St w M0 [] w)  :
    Calls Try.prog 43 #[.int .i64 p0] w (fun en w' => ∃ v, en = .returned v ∧ ∃ (a0 : Option Addr), ∃ (n0 : Nat), ∃ (c0 : Nat), ∃ (F0 : List Nat), v = .slice a0 n0 c0 ∧ a0.isNone = r.2 ∧ St w M0 [Res.own (eList (eVal (Value.int .u8) (fun _ => rfl)) 5) F0 r.1 [.slice a0 n0 c0]] w') := by
  unfold impl_PutInt at H
  refine f_enter (vs := [.int .i64 p0]) Try.func43 rfl Try.ntmps43 rfl (HS) ?_
  refine c_seq ?_
  refine c_reg ?_
  refine ow_batch [.p] rfl ?_
  refine ow_nil ?_
  refine x_qs ?_
  refine c_seq ?_
  refine c_block ?_
  refine c_seq ?_
  refine c_reg ?_
  refine ow_batch [.p] rfl ?_
  obtain ⟨y1, h2, H⟩ := of_bind H
  refine ow_q rfl rfl (dstOk_lt rfl) (qy_call rfl fn77 rfl (fun w1 hw1 => impl_within_ok w1  h2)) (fun _ _ => trivial) ?_
  refine ow_batch [.p, .p] rfl ?_
  refine ow_nil ?_
  refine x_qs ?_
  refine c_if rfl (fun hb => ?_) (fun hb => ?_)
  · have H := of_if_t hb H
    refine c_seq ?_
    refine c_reg ?_
    refine ow_batch [.p] rfl ?_
    refine ow_nil ?_
    refine x_qs ?_
    refine c_ret ?_
    refine x_qb_ret ?_
    refine x_qs_ret ?_
    refine xw_st (fun _ h => St.pushNil (e := eVal (Value.int .u8) (fun _ => rfl)) (T := 5) h) ?_
    exact x_retR (rs := [.tmp 2]) (vs := [.slice none 0 0]) rfl ⟨rfl, trivial⟩ (fun w' hw' => by
        obtain rfl := of_some H
        exact ⟨_, rfl, none, 0, 0, [], rfl, rfl, hw'.sel [0] rfl rfl⟩)
  · have H := of_if_f hb H
    refine c_seq ?_
    refine c_reg ?_
    refine ow_batch [.p, .p, .p] rfl ?_
    refine ow_nil ?_
    refine x_qs ?_
    refine c_if rfl (fun hb => ?_) (fun hb => ?_)
    · have H := of_if_t hb H
      refine c_seq ?_
      refine c_reg ?_
      refine ow_batch [.p, .p, .p] rfl ?_
      obtain ⟨y3, h4, H⟩ := of_bind H
      refine ow_callS rfl fn78 rfl rfl rfl rfl (fun w1 hw1 => impl_PutNum_ok w1  h4 (hw1.carve [] rfl rfl)) (fun v5 w1 w2 hw1 hR7 => ?_)
      obtain ⟨a8, n9, c10, F11, rfl, hz12, hS6⟩ := hR7
      obtain rfl := own_nS (i := 0) hS6 rfl
      refine ⟨St w M0 [_], hw1.comp [] rfl rfl hS6, fun _ _ => trivial, ?_⟩
      refine ow_batch [.p] rfl ?_
      refine ow_nil ?_
      refine x_qs ?_
      refine c_ret ?_
      refine x_qb_ret ?_
      refine x_qs_ret ?_
      exact x_retR (rs := [.tmp 2]) (vs := [.slice a8 y3.1.length c10]) rfl ⟨rfl, trivial⟩ (fun w' hw' => by
          obtain rfl := of_some H
          exact ⟨_, rfl, a8, y3.1.length, c10, F11, rfl, hz12, hw'.sel [0] rfl rfl⟩)
    · have H := of_if_f hb H
      refine c_skip ?_
      refine x_qb ?_
      refine x_qs ?_
      refine c_seq ?_
      refine c_reg ?_
      refine ow_batch [.p, .p] rfl ?_
      obtain ⟨y13, h14, H⟩ := of_bind H
      refine ow_callS rfl fn78 rfl rfl rfl rfl (fun w1 hw1 => impl_PutNum_ok w1  h14 (hw1.carve [] rfl rfl)) (fun v15 w1 w2 hw1 hR17 => ?_)
      obtain ⟨a18, n19, c20, F21, rfl, hz22, hS16⟩ := hR17
      obtain rfl := own_nS (i := 0) hS16 rfl
      refine ⟨St w M0 [_], hw1.comp [] rfl rfl hS16, fun _ _ => trivial, ?_⟩
      refine ow_batch [.p] rfl ?_
      refine ow_nil ?_
      refine x_qs ?_
      refine c_ret ?_
      exact x_retR (rs := [.tmp 2]) (vs := [.slice a18 y13.1.length c20]) rfl ⟨rfl, trivial⟩ (fun w' hw' => by
          obtain rfl := of_some H
          exact ⟨_, rfl, a18, y13.1.length, c20, F21, rfl, hz22, hw'.sel [0] rfl rfl⟩)

set_option maxHeartbeats 4000000 in
set_option maxRecDepth 100000 in
theorem impl_writer_ints_ok (w : World) {M0 : List Nat} {p0 : Timpl_writer} {p1 : List Int} {b_0 : Nat} {a_0_1 : Option Addr} {n_0_1 c_0_1 : Nat} {F_0_1 : List Nat} {a_1 : Option Addr} {n_1 c_1 : Nat} {r : Timpl_writer} (H : impl_writer_ints p0 p1 = some r) (HS : St w M0 [Res.box b_0 69 [.slice a_0_1 n_0_1 c_0_1, .bool p0.bad_], Res.own (eList (eVal (Value.int .u8) (fun _ => rfl)) 5) F_0_1 p0.out_ [.slice a_0_1 n_0_1 c_0_1]] w) (g1 : (eList (eVal (Value.int .i64) (fun _ => rfl)) 3).rd w M0 p1 [.slice a_1 n_1 c_1]) :
    Calls Try.prog 82 #[.pointer (some ⟨b_0, 0, none⟩), .slice a_1 n_1 c_1] w (fun en w' => ∃ v, en = .returned v ∧ ∃ (a0 : Option Addr), ∃ (n0 : Nat), ∃ (c0 : Nat), ∃ (F0 : List Nat), v = .tuple #[] ∧ St w M0 [Res.box b_0 69 [.slice a0 n0 c0, .bool r.bad_], Res.own (eList (eVal (Value.int .u8) (fun _ => rfl)) 5) F0 r.out_ [.slice a0 n0 c0]] w') := by
  obtain rfl := own_nS (i := 1) HS rfl
  obtain rfl := rd_n g1
  unfold impl_writer_ints at H
  refine f_enter (vs := [.pointer (some ⟨b_0, 0, none⟩), .slice a_1 p1.length c_1]) Try.func82 rfl Try.ntmps82 rfl (HS) ?_
  refine c_seq ?_
  refine c_reg ?_
  refine ow_batch [.p, .lenS 22 3 sl22, .p] rfl ?_
  refine ow_nil ?_
  refine x_qs ?_
  refine c_block ?_
  refine CW.at (loopI6 (fun (l26 : List Int) (a27 : Option Addr) (c28 : Nat) (F29 : List Nat) (q30 : Bool) (i31 : Int) => St w M0 [Res.box b_0 69 [.slice a27 l26.length c28, .bool q30], Res.own (eList (eVal (Value.int .u8) (fun _ => rfl)) 5) F29 l26 [.slice a27 l26.length c28]]) (fun (l26 : List Int) (a27 : Option Addr) (c28 : Nat) (F29 : List Nat) (q30 : Bool) (i31 : Int) => [(0, .pointer (some ⟨b_0, 0, none⟩)), (7, .slice a_1 p1.length c_1), (8, .int .i64 (p1.length : Int)), (9, .int .i64 i31)]) (fun kk => fun (l26 : List Int) (a27 : Option Addr) (c28 : Nat) (F29 : List Nat) (q30 : Bool) (i31 : Int) => impl_writer_ints_L1 p1 kk l26 q30 i31 = some r) (fun _ _ _ _ _ _ H => ?_) (fun k1 ihk1 l26 a27 c28 F29 q30 i31 H => ?_) Fuel (p0.out_) (a_0_1) (c_0_1) (F_0_1) (p0.bad_) (0) (H)) (fun _ h => St.sel [0, 1] rfl rfl h) ⟨rfl, rfl, rfl, rfl,  trivial⟩
  · unfold impl_writer_ints_L1 at H
    exact absurd H (by simp)
  · unfold impl_writer_ints_L1 at H
    refine c_seq ?_
    refine c_reg ?_
    refine ow_batch [.p] rfl ?_
    refine ow_nil ?_
    refine x_qs ?_
    refine c_seq ?_
    refine c_if rfl (fun hb => ?_) (fun hb => ?_)
    · have H := of_if_t hb H
      refine c_skip ?_
      refine x_qs ?_
      refine c_seq ?_
      refine c_block ?_
      refine c_seq ?_
      refine c_reg ?_
      obtain ⟨e57, h58, H⟩ := of_bind H
      refine ow_ixE (e := eVal (Value.int .i64) (fun _ => rfl)) (xs := p1) (j := i31) rfl rfl rfl rfl rfl sl22 ty3 rfl (fun w1 hw1 => rds_bor g1 w1 hw1) h58 (by rw [Nat.mul_one]) ?_
      refine ow_r rfl (dstOk_lt rfl) (ry_load1 rfl rfl ty3 (at_elV (fun w1 hw1 => rds_bor g1 w1 hw1) h58)) ?_
      refine ow_batch [.p] rfl ?_
      refine ow_nil ?_
      refine x_qs ?_
      refine c_seq ?_
      refine c_reg ?_
      refine ow_batch [.p] rfl ?_
      obtain ⟨y59, h60, H⟩ := of_bind H
      refine ow_callS rfl fn43 rfl rfl rfl rfl (fun w1 hw1 => impl_PutInt_ok w1  h60 (hw1.carve [] rfl rfl)) (fun v61 w1 w2 hw1 hR63 => ?_)
      obtain ⟨a64, n65, c66, F67, rfl, hz68, hS62⟩ := hR63
      obtain rfl := own_nS (i := 0) hS62 rfl
      refine ⟨St w M0 [_, _, _], hw1.comp [] rfl rfl hS62, fun _ _ => trivial, ?_⟩
      refine ow_batch [.p] rfl ?_
      refine ow_nil ?_
      refine x_qs ?_
      refine c_seq ?_
      refine c_reg ?_
      refine ow_batch [.p, .p, .p, .fa 69 1 1 fa69_1] rfl ?_
      refine ow_r rfl (dstOk_lt rfl) (ry_box1 (off := 1) rfl rfl ty4 (boxIn (i := 0) rfl) rfl) ?_
      refine ow_batch [.p] rfl ?_
      refine ow_cut [(23, .bool (q30 || y59.2)), (0, .pointer (some ⟨b_0, 0, none⟩)), (6, .slice a64 y59.1.length c66), (7, .slice a_1 p1.length c_1), (8, .int .i64 (p1.length : Int)), (9, .int .i64 i31), (15, .pointer (some ⟨b_0, 0, none⟩))] 3 ?_ (fun key => OW.sub (R := [(0, .pointer (some ⟨b_0, 0, none⟩)), (6, .slice a64 y59.1.length c66), (7, .slice a_1 p1.length c_1), (8, .int .i64 (p1.length : Int)), (9, .int .i64 i31), (15, .pointer (some ⟨b_0, 0, none⟩)), (20, .bool q30)]) ?_ ⟨rfl, rfl, rfl, rfl, rfl, rfl, rfl, trivial⟩)
      · refine ow_batch [.p, .fa 69 1 1 fa69_1] rfl ?_
        refine ow_storeC (off := 1) [.bool (q30 || y59.2)] [_, _] (i := 0) rfl rfl rfl rfl rfl rfl ty4 rfl rfl (by intro u hu; simp only [List.mem_cons, List.not_mem_nil, or_false] at hu; rcases hu with rfl <;> rfl) rfl rfl rfl kp ?_
        refine ow_nil ?_
        refine x_qs ?_
        refine c_reg ?_
        refine ow_batch [.p, .p, .p, .fa 69 0 0 fa69_0] rfl ?_
        refine ow_r rfl (dstOk_lt rfl) (ry_box1 (off := 0) rfl rfl ty23 (boxIn (i := 0) rfl) rfl) ?_
        refine ow_batch [.p] rfl ?_
        obtain ⟨l71, h72, H⟩ := of_bind H
        refine ow_appR (r := 1) (ys := y59.1) rfl rfl rfl rfl rfl rfl sl23 ty5 rfl rfl rfl (fun w1 hw1 => rds_own (r := 2) rfl w1 hw1) h72 (fun _ _ _ => kp) (fun a73 c74 F75 => ?_)
        refine ow_batch [.p, .fa 69 0 0 fa69_0] rfl ?_
        refine ow_storeC (off := 0) [.slice a73 l71.length c74] [_, _] (i := 0) rfl rfl rfl rfl rfl rfl ty23 rfl rfl (by intro u hu; simp only [List.mem_cons, List.not_mem_nil, or_false] at hu; rcases hu with rfl <;> rfl) rfl rfl rfl kp ?_
        refine ow_nil ?_
        refine x_qb ?_
        refine x_qs ?_
        refine c_reg ?_
        refine ow_batch [.p, .p] rfl ?_
        refine ow_nil ?_
        exact x_ql (RW.at (ihk1 (l71) (a73) (c74) (F75) ((q30 || y59.2)) (IntKind.i64.wrap (i31 + 1)) (H)) (fun _ h => St.sel [0, 1] rfl rfl h) ⟨rfl, rfl, rfl, rfl, trivial⟩)
      · generalize q30 = t70 at key ⊢
        cases t70
        · refine ow_batch [.p] rfl ?_
          refine ow_r rfl (dstOk_lt rfl) (ry_nilB rfl rfl sl23 hz68) ?_
          refine ow_batch [.p] rfl ?_
          exact OW.sub key ⟨rfl, rfl, rfl, rfl, rfl, rfl, rfl, trivial⟩
        · refine ow_batch [.p, .p, .p] rfl ?_
          exact OW.sub key ⟨rfl, rfl, rfl, rfl, rfl, rfl, rfl, trivial⟩
    · have H := of_if_f hb H
      refine c_exit ?_
      refine x_qs_exit ?_
      refine x_ql_exit ?_
      refine x_qb_here ?_
      exact x_endR (rs := []) (vs := []) rfl trivial (fun w' hw' => by
          obtain rfl := of_some H
          exact ⟨_, rfl, a27, l26.length, c28, F29, rfl, hw'.sel [0, 1] rfl rfl⟩)

set_option maxHeartbeats 4000000 in
set_option maxRecDepth 100000 in
theorem impl_writer_list_ok (w : World) {M0 : List Nat} {p0 : Timpl_writer} {p1 : List Int} {b_0 : Nat} {a_0_1 : Option Addr} {n_0_1 c_0_1 : Nat} {F_0_1 : List Nat} {a_1 : Option Addr} {n_1 c_1 : Nat} {r : Timpl_writer} (H : impl_writer_list p0 p1 = some r) (HS : St w M0 [Res.box b_0 69 [.slice a_0_1 n_0_1 c_0_1, .bool p0.bad_], Res.own (eList (eVal (Value.int .u8) (fun _ => rfl)) 5) F_0_1 p0.out_ [.slice a_0_1 n_0_1 c_0_1]] w) (g1 : (eList (eVal (Value.int .i64) (fun _ => rfl)) 3).rd w M0 p1 [.slice a_1 n_1 c_1]) :
    Calls Try.prog 48 #[.pointer (some ⟨b_0, 0, none⟩), .slice a_1 n_1 c_1] w (fun en w' => ∃ v, en = .returned v ∧ ∃ (a0 : Option Addr), ∃ (n0 : Nat), ∃ (c0 : Nat), ∃ (F0 : List Nat), v = .tuple #[] ∧ St w M0 [Res.box b_0 69 [.slice a0 n0 c0, .bool r.bad_], Res.own (eList (eVal (Value.int .u8) (fun _ => rfl)) 5) F0 r.out_ [.slice a0 n0 c0]] w') := by
  obtain rfl := own_nS (i := 1) HS rfl
  obtain rfl := rd_n g1
  unfold impl_writer_list at H
  refine f_enter (vs := [.pointer (some ⟨b_0, 0, none⟩), .slice a_1 p1.length c_1]) Try.func48 rfl Try.ntmps48 rfl (HS) ?_
  refine c_seq ?_
  refine c_reg ?_
  refine ow_batch [.p, .p, .lenS 22 3 sl22] rfl ?_
  refine ow_blit (val := Value.int .i64) (h1 := fun _ => rfl) [(p1.length : Int)] [(0, [.int .i64 (p1.length : Int)])] rfl rfl rfl rfl rfl sl22 ty3 rfl rfl rfl ⟨rfl, rfl, Nat.le_of_ble_eq_true rfl,  trivial⟩ rfl rfl (fun _ => kp) (fun b1 => ?_)
  obtain ⟨y2, h3, H⟩ := of_bind H
  refine ow_callS rfl fn82 rfl rfl rfl rfl (fun w1 hw1 => impl_writer_ints_ok w1  h3 (hw1.carve [0, 1] rfl rfl) (rdO 2 [0, 1] rfl hw1 rfl rfl)) (fun v4 w1 w2 hw1 hR6 => ?_)
  obtain ⟨a7, n8, c9, F10, rfl, hS5⟩ := hR6
  obtain rfl := own_nS (i := 1) hS5 rfl
  refine ⟨St w M0 [_, _, _, _, _], hw1.comp [0, 1] rfl rfl hS5, fun _ _ => trivial, ?_⟩
  refine ow_nil ?_
  refine x_qs ?_
  refine CW.weak (C' := St w M0 [_, _, _]) ?_ (fun _ h => St.sel [2, 3, 4] rfl rfl h)
  refine c_reg ?_
  refine ow_batch [.p, .p] rfl ?_
  obtain ⟨y11, h12, H⟩ := of_bind H
  refine ow_callS rfl fn82 rfl rfl rfl rfl (fun w1 hw1 => impl_writer_ints_ok w1  h12 (hw1.carve [1, 2] rfl rfl) (rdB [1, 2] rfl rfl hw1 g1)) (fun v13 w1 w2 hw1 hR15 => ?_)
  obtain ⟨a16, n17, c18, F19, rfl, hS14⟩ := hR15
  obtain rfl := own_nS (i := 1) hS14 rfl
  refine ⟨St w M0 [_, _, _, _, _], hw1.comp [1, 2] rfl rfl hS14, fun _ _ => trivial, ?_⟩
  refine ow_nil ?_
  exact x_endR (rs := []) (vs := []) rfl trivial (fun w' hw' => by
      obtain rfl := of_some H
      exact ⟨_, rfl, a16, y11.out_.length, c18, F19, rfl, hw'.sel [3, 4] rfl rfl⟩)

set_option maxHeartbeats 4000000 in
set_option maxRecDepth 100000 in
theorem impl_writer_done_ok (w : World) {M0 : List Nat} {p0 : Timpl_writer} {b_0 : Nat} {a_0_1 : Option Addr} {n_0_1 c_0_1 : Nat} {F_0_1 : List Nat} {r : List Int} (H : impl_writer_done p0 = some r) (HS : St w M0 [Res.box b_0 69 [.slice a_0_1 n_0_1 c_0_1, .bool p0.bad_], Res.own (eList (eVal (Value.int .u8) (fun _ => rfl)) 5) F_0_1 p0.out_ [.slice a_0_1 n_0_1 c_0_1]] w)  :
    Calls Try.prog 49 #[.pointer (some ⟨b_0, 0, none⟩)] w (fun en w' => ∃ v, en = .returned v ∧ ∃ (a0 : Option Addr), ∃ (n0 : Nat), ∃ (c0 : Nat), ∃ (F0 : List Nat), v = .slice a0 n0 c0 ∧ St w M0 [Res.own (eList (eVal (Value.int .u8) (fun _ => rfl)) 5) F0 r [.slice a0 n0 c0]] w') := by
  obtain rfl := own_nS (i := 1) HS rfl
  unfold impl_writer_done at H
  refine f_enter (vs := [.pointer (some ⟨b_0, 0, none⟩)]) Try.func49 rfl Try.ntmps49 rfl (HS) ?_
  refine c_seq ?_
  refine c_reg ?_
  refine ow_batch [.p] rfl ?_
  refine ow_nil ?_
  refine x_qs ?_
  refine c_seq ?_
  refine c_seq ?_
  refine c_reg ?_
  refine ow_batch [.p, .p, .fa 69 1 1 fa69_1] rfl ?_
  refine ow_r rfl (dstOk_lt rfl) (ry_box1 (off := 1) rfl rfl ty4 (boxIn (i := 0) rfl) rfl) ?_
  refine ow_nil ?_
  refine x_qs ?_
  refine c_if rfl (fun hb => ?_) (fun hb => ?_)
  · have H := of_if_t hb H
    refine c_seq ?_
    refine c_reg ?_
    refine ow_batch [.p] rfl ?_
    refine ow_nil ?_
    refine x_qs ?_
    refine c_ret ?_
    refine x_qs_ret ?_
    refine xw_st (fun _ h => St.pushNil (e := eVal (Value.int .u8) (fun _ => rfl)) (T := 5) h) ?_
    exact x_retR (rs := [.tmp 2]) (vs := [.slice none 0 0]) rfl ⟨rfl, trivial⟩ (fun w' hw' => by
        obtain rfl := of_some H
        exact ⟨_, rfl, none, 0, 0, [], rfl, hw'.sel [2] rfl rfl⟩)
  · have H := of_if_f hb H
    refine c_skip ?_
    refine x_qs ?_
    refine c_seq ?_
    refine c_reg ?_
    refine ow_batch [.p, .p, .fa 69 0 0 fa69_0] rfl ?_
    refine ow_r rfl (dstOk_lt rfl) (ry_box1 (off := 0) rfl rfl ty23 (boxIn (i := 0) rfl) rfl) ?_
    refine ow_batch [.p] rfl ?_
    refine ow_nil ?_
    refine x_qs ?_
    refine c_ret ?_
    exact x_retR (rs := [.tmp 2]) (vs := [.slice a_0_1 p0.out_.length c_0_1]) rfl ⟨rfl, trivial⟩ (fun w' hw' => by
        obtain rfl := of_some H
        exact ⟨_, rfl, a_0_1, p0.out_.length, c_0_1, F_0_1, rfl, hw'.sel [1] rfl rfl⟩)

set_option maxHeartbeats 4000000 in
set_option maxRecDepth 100000 in
theorem laws_eqByteS_ok (w : World) {p0 : List Int} {p1 : List Int} {a_0 : Option Addr} {n_0 c_0 : Nat} {a_1 : Option Addr} {n_1 c_1 : Nat} {r : Bool} (H : laws_eqByteS p0 p1 = some r)  (g0 : (eList (eVal (Value.int .u8) (fun _ => rfl)) 5).rd w [] p0 [.slice a_0 n_0 c_0]) (g1 : (eList (eVal (Value.int .u8) (fun _ => rfl)) 5).rd w [] p1 [.slice a_1 n_1 c_1]) :
    Calls Try.prog 13 #[.slice a_0 n_0 c_0, .slice a_1 n_1 c_1] w (fun en w' => en = .returned (.bool r) ∧ Ext [] w w') := by
  obtain rfl := rd_n g0
  obtain rfl := rd_n g1
  unfold laws_eqByteS at H
  refine f_enter (vs := [.slice a_0 p0.length c_0, .slice a_1 p1.length c_1]) Try.func13 rfl Try.ntmps13 rfl (St.init w []) ?_
  refine c_seq ?_
  refine c_reg ?_
  refine ow_batch [.p] rfl ?_
  refine ow_nil ?_
  refine x_qs ?_
  refine c_seq ?_
  refine c_seq ?_
  refine c_reg ?_
  refine ow_batch [.p, .lenS 23 5 sl23, .p, .lenS 23 5 sl23, .p] rfl ?_
  refine ow_nil ?_
  refine x_qs ?_
  refine c_if rfl (fun hb => ?_) (fun hb => ?_)
  · have H := of_if_t hb H
    refine c_seq ?_
    refine c_reg ?_
    refine ow_batch [.p] rfl ?_
    refine ow_nil ?_
    refine x_qs ?_
    refine c_ret ?_
    refine x_qs_ret ?_
    exact x_retR (rs := [.tmp 4]) (vs := [.bool false]) rfl ⟨rfl, trivial⟩ (fun w' hw' => by
        obtain rfl := of_some H
        exact ⟨rfl, hw'.ext⟩)
  · have H := of_if_f hb H
    refine c_skip ?_
    refine x_qs ?_
    refine c_seq ?_
    refine c_seq ?_
    refine c_reg ?_
    refine ow_batch [.p] rfl ?_
    refine ow_nil ?_
    refine x_qs ?_
    refine c_block ?_
    refine CW.at (loopI1 (fun (i6 : Int) => St w [] []) (fun (i6 : Int) => [(0, .slice a_0 p0.length c_0), (1, .slice a_1 p1.length c_1), (5, .int .i64 i6)]) (fun kk => fun (i6 : Int) => laws_eqByteS_L1 p0 p1 kk i6 = some r) (fun _ H => ?_) (fun k1 ihk1 i6 H => ?_) Fuel (0) (H)) (fun _ h => St.sel [] rfl rfl h) ⟨rfl, rfl, rfl,  trivial⟩
    · unfold laws_eqByteS_L1 at H
      exact absurd H (by simp)
    · unfold laws_eqByteS_L1 at H
      refine c_seq ?_
      refine c_seq ?_
      refine c_reg ?_
      refine ow_batch [.p, .p, .lenS 23 5 sl23, .p] rfl ?_
      refine ow_nil ?_
      refine x_qs ?_
      refine c_if rfl (fun hb => ?_) (fun hb => ?_)
      · have H := of_if_t hb H
        refine c_skip ?_
        refine x_qs ?_
        refine c_seq ?_
        refine c_block ?_
        refine c_seq ?_
        refine c_regQ mixed (by kernel_rfl) ?_
        refine ow_batch [.p, .p] rfl ?_
        obtain ⟨e12, h13, H⟩ := of_bind H
        refine ow_ixE (e := eVal (Value.int .u8) (fun _ => rfl)) (xs := p0) (j := i6) rfl rfl rfl rfl rfl sl23 ty5 rfl (fun w1 hw1 => rds_bor g0 w1 hw1) h13 (by rw [Nat.mul_one]) ?_
        refine ow_r rfl (dstOk_lt rfl) (ry_load1 rfl rfl ty5 (at_elV (fun w1 hw1 => rds_bor g0 w1 hw1) h13)) ?_
        refine ow_batch [.p, .p] rfl ?_
        obtain ⟨e14, h15, H⟩ := of_bind H
        refine ow_ixE (e := eVal (Value.int .u8) (fun _ => rfl)) (xs := p1) (j := i6) rfl rfl rfl rfl rfl sl23 ty5 rfl (fun w1 hw1 => rds_bor g1 w1 hw1) h15 (by rw [Nat.mul_one]) ?_
        refine ow_r rfl (dstOk_lt rfl) (ry_load1 rfl rfl ty5 (at_elV (fun w1 hw1 => rds_bor g1 w1 hw1) h15)) ?_
        refine ow_batch [.p] rfl ?_
        refine ow_nilQ ?_
        refine x_qs ?_
        refine c_if rfl (fun hb => ?_) (fun hb => ?_)
        · have H := of_if_t hb H
          refine c_seq ?_
          refine c_reg ?_
          refine ow_batch [.p] rfl ?_
          refine ow_nil ?_
          refine x_qs ?_
          refine c_ret ?_
          refine x_qb_ret ?_
          refine x_qs_ret ?_
          refine x_ql_ret ?_
          refine x_qb_ret ?_
          refine x_qs_ret ?_
          exact x_retR (rs := [.tmp 4]) (vs := [.bool false]) rfl ⟨rfl, trivial⟩ (fun w' hw' => by
              obtain rfl := of_some H
              exact ⟨rfl, hw'.ext⟩)
        · have H := of_if_f hb H
          refine c_skip ?_
          refine x_qb ?_
          refine x_qs ?_
          refine c_reg ?_
          refine ow_batch [.p, .p, .p] rfl ?_
          refine ow_nil ?_
          exact x_ql (RW.at (ihk1 (IntKind.i64.wrap (i6 + 1)) (H)) (fun _ h => St.sel [] rfl rfl h) ⟨rfl, rfl, rfl, trivial⟩)
      · have H := of_if_f hb H
        refine c_exit ?_
        refine x_qs_exit ?_
        refine x_ql_exit ?_
        refine x_qb_here ?_
        refine x_qs ?_
        refine c_seq ?_
        refine c_reg ?_
        refine ow_batch [.p] rfl ?_
        refine ow_nil ?_
        refine x_qs ?_
        refine c_ret ?_
        exact x_retR (rs := [.tmp 4]) (vs := [.bool true]) rfl ⟨rfl, trivial⟩ (fun w' hw' => by
            obtain rfl := of_some H
            exact ⟨rfl, hw'.ext⟩)

set_option maxHeartbeats 4000000 in
set_option maxRecDepth 100000 in
theorem laws_eqIntS_ok (w : World) {p0 : List Int} {p1 : List Int} {a_0 : Option Addr} {n_0 c_0 : Nat} {a_1 : Option Addr} {n_1 c_1 : Nat} {r : Bool} (H : laws_eqIntS p0 p1 = some r)  (g0 : (eList (eVal (Value.int .i64) (fun _ => rfl)) 3).rd w [] p0 [.slice a_0 n_0 c_0]) (g1 : (eList (eVal (Value.int .i64) (fun _ => rfl)) 3).rd w [] p1 [.slice a_1 n_1 c_1]) :
    Calls Try.prog 14 #[.slice a_0 n_0 c_0, .slice a_1 n_1 c_1] w (fun en w' => en = .returned (.bool r) ∧ Ext [] w w') := by
  obtain rfl := rd_n g0
  obtain rfl := rd_n g1
  unfold laws_eqIntS at H
  refine f_enter (vs := [.slice a_0 p0.length c_0, .slice a_1 p1.length c_1]) Try.func14 rfl Try.ntmps14 rfl (St.init w []) ?_
  refine c_seq ?_
  refine c_reg ?_
  refine ow_batch [.p] rfl ?_
  refine ow_nil ?_
  refine x_qs ?_
  refine c_seq ?_
  refine c_seq ?_
  refine c_reg ?_
  refine ow_batch [.p, .lenS 22 3 sl22, .p, .lenS 22 3 sl22, .p] rfl ?_
  refine ow_nil ?_
  refine x_qs ?_
  refine c_if rfl (fun hb => ?_) (fun hb => ?_)
  · have H := of_if_t hb H
    refine c_seq ?_
    refine c_reg ?_
    refine ow_batch [.p] rfl ?_
    refine ow_nil ?_
    refine x_qs ?_
    refine c_ret ?_
    refine x_qs_ret ?_
    exact x_retR (rs := [.tmp 4]) (vs := [.bool false]) rfl ⟨rfl, trivial⟩ (fun w' hw' => by
        obtain rfl := of_some H
        exact ⟨rfl, hw'.ext⟩)
  · have H := of_if_f hb H
    refine c_skip ?_
    refine x_qs ?_
    refine c_seq ?_
    refine c_seq ?_
    refine c_reg ?_
    refine ow_batch [.p] rfl ?_
    refine ow_nil ?_
    refine x_qs ?_
    refine c_block ?_
    refine CW.at (loopI1 (fun (i6 : Int) => St w [] []) (fun (i6 : Int) => [(0, .slice a_0 p0.length c_0), (1, .slice a_1 p1.length c_1), (5, .int .i64 i6)]) (fun kk => fun (i6 : Int) => laws_eqIntS_L1 p0 p1 kk i6 = some r) (fun _ H => ?_) (fun k1 ihk1 i6 H => ?_) Fuel (0) (H)) (fun _ h => St.sel [] rfl rfl h) ⟨rfl, rfl, rfl,  trivial⟩
    · unfold laws_eqIntS_L1 at H
      exact absurd H (by simp)
    · unfold laws_eqIntS_L1 at H
      refine c_seq ?_
      refine c_seq ?_
      refine c_reg ?_
      refine ow_batch [.p, .p, .lenS 22 3 sl22, .p] rfl ?_
      refine ow_nil ?_
      refine x_qs ?_
      refine c_if rfl (fun hb => ?_) (fun hb => ?_)
      · have H := of_if_t hb H
        refine c_skip ?_
        refine x_qs ?_
        refine c_seq ?_
        refine c_block ?_
        refine c_seq ?_
        refine c_regQ mixed (by kernel_rfl) ?_
        refine ow_batch [.p, .p] rfl ?_
        obtain ⟨e12, h13, H⟩ := of_bind H
        refine ow_ixE (e := eVal (Value.int .i64) (fun _ => rfl)) (xs := p0) (j := i6) rfl rfl rfl rfl rfl sl22 ty3 rfl (fun w1 hw1 => rds_bor g0 w1 hw1) h13 (by rw [Nat.mul_one]) ?_
        refine ow_r rfl (dstOk_lt rfl) (ry_load1 rfl rfl ty3 (at_elV (fun w1 hw1 => rds_bor g0 w1 hw1) h13)) ?_
        refine ow_batch [.p, .p] rfl ?_
        obtain ⟨e14, h15, H⟩ := of_bind H
        refine ow_ixE (e := eVal (Value.int .i64) (fun _ => rfl)) (xs := p1) (j := i6) rfl rfl rfl rfl rfl sl22 ty3 rfl (fun w1 hw1 => rds_bor g1 w1 hw1) h15 (by rw [Nat.mul_one]) ?_
        refine ow_r rfl (dstOk_lt rfl) (ry_load1 rfl rfl ty3 (at_elV (fun w1 hw1 => rds_bor g1 w1 hw1) h15)) ?_
        refine ow_batch [.p] rfl ?_
        refine ow_nilQ ?_
        refine x_qs ?_
        refine c_if rfl (fun hb => ?_) (fun hb => ?_)
        · have H := of_if_t hb H
          refine c_seq ?_
          refine c_reg ?_
          refine ow_batch [.p] rfl ?_
          refine ow_nil ?_
          refine x_qs ?_
          refine c_ret ?_
          refine x_qb_ret ?_
          refine x_qs_ret ?_
          refine x_ql_ret ?_
          refine x_qb_ret ?_
          refine x_qs_ret ?_
          exact x_retR (rs := [.tmp 4]) (vs := [.bool false]) rfl ⟨rfl, trivial⟩ (fun w' hw' => by
              obtain rfl := of_some H
              exact ⟨rfl, hw'.ext⟩)
        · have H := of_if_f hb H
          refine c_skip ?_
          refine x_qb ?_
          refine x_qs ?_
          refine c_reg ?_
          refine ow_batch [.p, .p, .p] rfl ?_
          refine ow_nil ?_
          exact x_ql (RW.at (ihk1 (IntKind.i64.wrap (i6 + 1)) (H)) (fun _ h => St.sel [] rfl rfl h) ⟨rfl, rfl, rfl, trivial⟩)
      · have H := of_if_f hb H
        refine c_exit ?_
        refine x_qs_exit ?_
        refine x_ql_exit ?_
        refine x_qb_here ?_
        refine x_qs ?_
        refine c_seq ?_
        refine c_reg ?_
        refine ow_batch [.p] rfl ?_
        refine ow_nil ?_
        refine x_qs ?_
        refine c_ret ?_
        exact x_retR (rs := [.tmp 4]) (vs := [.bool true]) rfl ⟨rfl, trivial⟩ (fun w' hw' => by
            obtain rfl := of_some H
            exact ⟨rfl, hw'.ext⟩)

set_option maxHeartbeats 4000000 in
set_option maxRecDepth 100000 in
theorem laws_markIntS_ok (w : World) {M0 : List Nat} {p0 : List Int} {p1 : Int} {a_0_0 : Option Addr} {n_0_0 c_0_0 : Nat} {F_0_0 : List Nat} {r : Int × (List Int)} (H : laws_markIntS p0 p1 = some r) (HS : St w M0 [Res.own (eList (eVal (Value.int .i64) (fun _ => rfl)) 3) F_0_0 p0 [.slice a_0_0 n_0_0 c_0_0]] w)  :
    Calls Try.prog 15 #[.slice a_0_0 n_0_0 c_0_0, .int .i64 p1] w (fun en w' => ∃ v, en = .returned v ∧ ∃ (F0 : List Nat), v = .int .i64 r.1 ∧ St w M0 [Res.own (eList (eVal (Value.int .i64) (fun _ => rfl)) 3) F0 r.2 [.slice a_0_0 n_0_0 c_0_0]] w') := by
  obtain rfl := own_nS (i := 0) HS rfl
  unfold laws_markIntS at H
  refine f_enter (vs := [.slice a_0_0 p0.length c_0_0, .int .i64 p1]) Try.func15 rfl Try.ntmps15 rfl (HS) ?_
  refine c_seq ?_
  refine c_reg ?_
  refine ow_batch [.p] rfl ?_
  refine ow_nil ?_
  refine x_qs ?_
  refine c_seq ?_
  refine c_seq ?_
  refine c_reg ?_
  refine ow_batch [.p] rfl ?_
  refine ow_nil ?_
  refine x_qs ?_
  refine c_block ?_
  refine CW.at (loopI3 (fun (l6 : List Int) (i7 : Int) (i8 : Int) => St w M0 [Res.own (eList (eVal (Value.int .i64) (fun _ => rfl)) 3) F_0_0 l6 [.slice a_0_0 p0.length c_0_0]]) (fun (l6 : List Int) (i7 : Int) (i8 : Int) => [(0, .slice a_0_0 p0.length c_0_0), (1, .int .i64 i7), (5, .int .i64 i8)]) (fun kk => fun (l6 : List Int) (i7 : Int) (i8 : Int) => laws_markIntS_L1 p0 kk l6 i7 i8 = some r) (fun _ _ _ H => ?_) (fun k1 ihk1 l6 i7 i8 H => ?_) Fuel (p0) (p1) (0) (H)) (fun _ h => St.sel [0] rfl rfl h) ⟨rfl, rfl, rfl,  trivial⟩
  · unfold laws_markIntS_L1 at H
    exact absurd H (by simp)
  · unfold laws_markIntS_L1 at H
    refine c_seq ?_
    refine c_seq ?_
    refine c_reg ?_
    refine ow_batch [.p, .p, .lenS 22 3 sl22, .p] rfl ?_
    refine ow_nil ?_
    refine x_qs ?_
    refine c_if rfl (fun hb => ?_) (fun hb => ?_)
    · have H := of_if_t hb H
      refine c_skip ?_
      refine x_qs ?_
      refine c_seq ?_
      refine c_block ?_
      refine c_seq ?_
      refine c_reg ?_
      refine ow_batch [.p, .p, .p] rfl ?_
      obtain ⟨e14, h15, H⟩ := of_bind H
      refine ow_ixE (e := eVal (Value.int .i64) (fun _ => rfl)) (xs := l6) (j := i8) rfl rfl rfl rfl rfl sl22 ty3 rfl (fun w1 hw1 => rds_own (r := 0) rfl w1 hw1) h15 (by rw [Nat.mul_one]) ?_
      refine ow_storeV (i := 0) (j := i8) rfl rfl rfl rfl rfl rfl ty3 rfl h15 (fun _ => rfl) kp ?_
      refine ow_nil ?_
      refine x_qs ?_
      refine c_reg ?_
      refine ow_batch [.p, .p, .p] rfl ?_
      refine ow_nil ?_
      refine x_qb ?_
      refine x_qs ?_
      refine c_reg ?_
      refine ow_batch [.p, .p, .p] rfl ?_
      refine ow_nil ?_
      exact x_ql (RW.at (ihk1 ((l6.set i8.toNat i7)) (IntKind.i64.wrap (i7 + 1)) (IntKind.i64.wrap (i8 + 1)) (H)) (fun _ h => St.sel [0] rfl rfl h) ⟨rfl, rfl, rfl, trivial⟩)
    · have H := of_if_f hb H
      refine c_exit ?_
      refine x_qs_exit ?_
      refine x_ql_exit ?_
      refine x_qb_here ?_
      refine x_qs ?_
      refine c_seq ?_
      refine c_reg ?_
      refine ow_batch [.p, .p] rfl ?_
      refine ow_nil ?_
      refine x_qs ?_
      refine c_ret ?_
      exact x_retR (rs := [.tmp 4]) (vs := [.int .i64 i7]) rfl ⟨rfl, trivial⟩ (fun w' hw' => by
          obtain rfl := of_some H
          exact ⟨_, rfl, F_0_0, rfl, hw'.sel [0] rfl rfl⟩)

set_option maxHeartbeats 4000000 in
set_option maxRecDepth 100000 in
theorem laws_markByteS_ok (w : World) {M0 : List Nat} {p0 : List Int} {p1 : Int} {a_0_0 : Option Addr} {n_0_0 c_0_0 : Nat} {F_0_0 : List Nat} {r : Int × (List Int)} (H : laws_markByteS p0 p1 = some r) (HS : St w M0 [Res.own (eList (eVal (Value.int .u8) (fun _ => rfl)) 5) F_0_0 p0 [.slice a_0_0 n_0_0 c_0_0]] w)  :
    Calls Try.prog 16 #[.slice a_0_0 n_0_0 c_0_0, .int .i64 p1] w (fun en w' => ∃ v, en = .returned v ∧ ∃ (F0 : List Nat), v = .int .i64 r.1 ∧ St w M0 [Res.own (eList (eVal (Value.int .u8) (fun _ => rfl)) 5) F0 r.2 [.slice a_0_0 n_0_0 c_0_0]] w') := by
  obtain rfl := own_nS (i := 0) HS rfl
  unfold laws_markByteS at H
  refine f_enter (vs := [.slice a_0_0 p0.length c_0_0, .int .i64 p1]) Try.func16 rfl Try.ntmps16 rfl (HS) ?_
  refine c_seq ?_
  refine c_reg ?_
  refine ow_batch [.p] rfl ?_
  refine ow_nil ?_
  refine x_qs ?_
  refine c_seq ?_
  refine c_seq ?_
  refine c_reg ?_
  refine ow_batch [.p] rfl ?_
  refine ow_nil ?_
  refine x_qs ?_
  refine c_block ?_
  refine CW.at (loopI3 (fun (l6 : List Int) (i7 : Int) (i8 : Int) => St w M0 [Res.own (eList (eVal (Value.int .u8) (fun _ => rfl)) 5) F_0_0 l6 [.slice a_0_0 p0.length c_0_0]]) (fun (l6 : List Int) (i7 : Int) (i8 : Int) => [(0, .slice a_0_0 p0.length c_0_0), (1, .int .i64 i7), (5, .int .i64 i8)]) (fun kk => fun (l6 : List Int) (i7 : Int) (i8 : Int) => laws_markByteS_L1 p0 kk l6 i7 i8 = some r) (fun _ _ _ H => ?_) (fun k1 ihk1 l6 i7 i8 H => ?_) Fuel (p0) (p1) (0) (H)) (fun _ h => St.sel [0] rfl rfl h) ⟨rfl, rfl, rfl,  trivial⟩
  · unfold laws_markByteS_L1 at H
    exact absurd H (by simp)
  · unfold laws_markByteS_L1 at H
    refine c_seq ?_
    refine c_seq ?_
    refine c_reg ?_
    refine ow_batch [.p, .p, .lenS 23 5 sl23, .p] rfl ?_
    refine ow_nil ?_
    refine x_qs ?_
    refine c_if rfl (fun hb => ?_) (fun hb => ?_)
    · have H := of_if_t hb H
      refine c_skip ?_
      refine x_qs ?_
      refine c_seq ?_
      refine c_block ?_
      refine c_seq ?_
      refine c_reg ?_
      refine ow_batch [.p, .p, .p, .cv 3 5 .u8 us3 in5] rfl ?_
      obtain ⟨e14, h15, H⟩ := of_bind H
      refine ow_ixE (e := eVal (Value.int .u8) (fun _ => rfl)) (xs := l6) (j := i8) rfl rfl rfl rfl rfl sl23 ty5 rfl (fun w1 hw1 => rds_own (r := 0) rfl w1 hw1) h15 (by rw [Nat.mul_one]) ?_
      refine ow_storeV (i := 0) (j := i8) rfl rfl rfl rfl rfl rfl ty5 rfl h15 (fun _ => rfl) kp ?_
      refine ow_nil ?_
      refine x_qs ?_
      refine c_reg ?_
      refine ow_batch [.p, .p, .p] rfl ?_
      refine ow_nil ?_
      refine x_qb ?_
      refine x_qs ?_
      refine c_reg ?_
      refine ow_batch [.p, .p, .p] rfl ?_
      refine ow_nil ?_
      exact x_ql (RW.at (ihk1 ((l6.set i8.toNat (IntKind.u8.wrap i7))) (IntKind.i64.wrap (i7 + 1)) (IntKind.i64.wrap (i8 + 1)) (H)) (fun _ h => St.sel [0] rfl rfl h) ⟨rfl, rfl, rfl, trivial⟩)
    · have H := of_if_f hb H
      refine c_exit ?_
      refine x_qs_exit ?_
      refine x_ql_exit ?_
      refine x_qb_here ?_
      refine x_qs ?_
      refine c_seq ?_
      refine c_reg ?_
      refine ow_batch [.p, .p] rfl ?_
      refine ow_nil ?_
      refine x_qs ?_
      refine c_ret ?_
      exact x_retR (rs := [.tmp 4]) (vs := [.int .i64 i7]) rfl ⟨rfl, trivial⟩ (fun w' hw' => by
          obtain rfl := of_some H
          exact ⟨_, rfl, F_0_0, rfl, hw'.sel [0] rfl rfl⟩)

set_option maxHeartbeats 4000000 in
set_option maxRecDepth 100000 in
theorem laws_heldByteS_ok (w : World) {p0 : List Int} {p1 : Int} {a_0 : Option Addr} {n_0 c_0 : Nat} {r : Int} (H : laws_heldByteS p0 p1 = some r)  (g0 : (eList (eVal (Value.int .u8) (fun _ => rfl)) 5).rd w [] p0 [.slice a_0 n_0 c_0]) :
    Calls Try.prog 17 #[.slice a_0 n_0 c_0, .int .i64 p1] w (fun en w' => en = .returned (.int .i64 r) ∧ Ext [] w w') := by
  obtain rfl := rd_n g0
  unfold laws_heldByteS at H
  refine f_enter (vs := [.slice a_0 p0.length c_0, .int .i64 p1]) Try.func17 rfl Try.ntmps17 rfl (St.init w []) ?_
  refine c_seq ?_
  refine c_reg ?_
  refine ow_batch [.p] rfl ?_
  refine ow_nil ?_
  refine x_qs ?_
  refine c_seq ?_
  refine c_seq ?_
  refine c_reg ?_
  refine ow_batch [.p] rfl ?_
  refine ow_nil ?_
  refine x_qs ?_
  refine c_block ?_
  refine CW.at (loopI2 (fun (i5 : Int) (i6 : Int) => St w [] []) (fun (i5 : Int) (i6 : Int) => [(0, .slice a_0 p0.length c_0), (1, .int .i64 i5), (5, .int .i64 i6)]) (fun kk => fun (i5 : Int) (i6 : Int) => laws_heldByteS_L1 p0 kk i5 i6 = some r) (fun _ _ H => ?_) (fun k1 ihk1 i5 i6 H => ?_) Fuel (p1) (0) (H)) (fun _ h => St.sel [] rfl rfl h) ⟨rfl, rfl, rfl,  trivial⟩
  · unfold laws_heldByteS_L1 at H
    exact absurd H (by simp)
  · unfold laws_heldByteS_L1 at H
    refine c_seq ?_
    refine c_seq ?_
    refine c_reg ?_
    refine ow_batch [.p, .p, .lenS 23 5 sl23, .p] rfl ?_
    refine ow_nil ?_
    refine x_qs ?_
    refine c_if rfl (fun hb => ?_) (fun hb => ?_)
    · have H := of_if_t hb H
      refine c_skip ?_
      refine x_qs ?_
      refine c_seq ?_
      refine c_block ?_
      refine c_seq ?_
      refine c_seq ?_
      refine c_reg ?_
      refine ow_batch [.p, .p] rfl ?_
      obtain ⟨e11, h12, H⟩ := of_bind H
      refine ow_ixE (e := eVal (Value.int .u8) (fun _ => rfl)) (xs := p0) (j := i6) rfl rfl rfl rfl rfl sl23 ty5 rfl (fun w1 hw1 => rds_bor g0 w1 hw1) h12 (by rw [Nat.mul_one]) ?_
      refine ow_r rfl (dstOk_lt rfl) (ry_load1 rfl rfl ty5 (at_elV (fun w1 hw1 => rds_bor g0 w1 hw1) h12)) ?_
      refine ow_batch [.p, .cv 3 5 .u8 us3 in5, .p] rfl ?_
      refine ow_nil ?_
      refine x_qs ?_
      refine c_if rfl (fun hb => ?_) (fun hb => ?_)
      · have H := of_if_t hb H
        refine c_seq ?_
        refine c_reg ?_
        refine ow_batch [.p] rfl ?_
        refine ow_nil ?_
        refine x_qs ?_
        refine c_ret ?_
        refine x_qs_ret ?_
        refine x_qb_ret ?_
        refine x_qs_ret ?_
        refine x_ql_ret ?_
        refine x_qb_ret ?_
        refine x_qs_ret ?_
        exact x_retR (rs := [.tmp 4]) (vs := [.int .i64 (-1)]) rfl ⟨rfl, trivial⟩ (fun w' hw' => by
            obtain rfl := of_some H
            exact ⟨rfl, hw'.ext⟩)
      · have H := of_if_f hb H
        refine c_skip ?_
        refine x_qs ?_
        refine c_reg ?_
        refine ow_batch [.p, .p, .p] rfl ?_
        refine ow_nil ?_
        refine x_qb ?_
        refine x_qs ?_
        refine c_reg ?_
        refine ow_batch [.p, .p, .p] rfl ?_
        refine ow_nil ?_
        exact x_ql (RW.at (ihk1 (IntKind.i64.wrap (i5 + 1)) (IntKind.i64.wrap (i6 + 1)) (H)) (fun _ h => St.sel [] rfl rfl h) ⟨rfl, rfl, rfl, trivial⟩)
    · have H := of_if_f hb H
      refine c_exit ?_
      refine x_qs_exit ?_
      refine x_ql_exit ?_
      refine x_qb_here ?_
      refine x_qs ?_
      refine c_seq ?_
      refine c_reg ?_
      refine ow_batch [.p, .p] rfl ?_
      refine ow_nil ?_
      refine x_qs ?_
      refine c_ret ?_
      exact x_retR (rs := [.tmp 4]) (vs := [.int .i64 i5]) rfl ⟨rfl, trivial⟩ (fun w' hw' => by
          obtain rfl := of_some H
          exact ⟨rfl, hw'.ext⟩)

set_option maxHeartbeats 4000000 in
set_option maxRecDepth 100000 in
theorem impl_PutInts_ok (w : World) {M0 : List Nat} {p0 : List Int} {a_0 : Option Addr} {n_0 c_0 : Nat} {r : List Int} (H : impl_PutInts p0 = some r) (HS : St w M0 [] w) (g0 : (eList (eVal (Value.int .i64) (fun _ => rfl)) 3).rd w M0 p0 [.slice a_0 n_0 c_0]) :
    Calls Try.prog 12 #[.slice a_0 n_0 c_0] w (fun en w' => ∃ v, en = .returned v ∧ ∃ (a0 : Option Addr), ∃ (n0 : Nat), ∃ (c0 : Nat), ∃ (F0 : List Nat), v = .slice a0 n0 c0 ∧ St w M0 [Res.own (eList (eVal (Value.int .u8) (fun _ => rfl)) 5) F0 r [.slice a0 n0 c0]] w') := by
  obtain rfl := rd_n g0
  unfold impl_PutInts at H
  refine f_enter (vs := [.slice a_0 p0.length c_0]) Try.func12 rfl Try.ntmps12 rfl (HS) ?_
  refine c_seq ?_
  refine c_reg ?_
  refine ow_batch [.p] rfl ?_
  refine ow_nil ?_
  refine x_qs ?_
  refine c_seq ?_
  refine c_reg ?_
  refine ow_r rfl (dstOk_lt rfl) (ry_build2 [] [.slice none 0 0, .bool false] rfl rfl ty69 fs69 rfl trivial rfl) ?_
  refine ow_box (cs := [.slice none 0 0, .bool false]) rfl rfl rfl rfl rfl rfl (fun _ => kp) (fun b1 => ?_)
  refine ow_batch [.p] rfl ?_
  refine ow_nil ?_
  refine x_qs ?_
  refine c_seq ?_
  refine c_reg ?_
  refine ow_batch [.p, .p] rfl ?_
  refine ow_st rfl (fun _ h => St.pushNil (e := eVal (Value.int .u8) (fun _ => rfl)) (T := 5) h) ?_
  obtain ⟨y2, h3, H⟩ := of_bind H
  refine ow_callS rfl fn48 rfl rfl rfl rfl (fun w1 hw1 => impl_writer_list_ok w1  h3 (hw1.carve [0, 1] rfl rfl) (rdB [0, 1] rfl rfl hw1 g0)) (fun v4 w1 w2 hw1 hR6 => ?_)
  obtain ⟨a7, n8, c9, F10, rfl, hS5⟩ := hR6
  obtain rfl := own_nS (i := 1) hS5 rfl
  refine ⟨St w M0 [_, _, _, _], hw1.comp [0, 1] rfl rfl hS5, fun _ _ => trivial, ?_⟩
  refine ow_nil ?_
  refine x_qs ?_
  refine c_seq ?_
  refine CW.weak (C' := St w M0 [_, _]) ?_ (fun _ h => St.sel [2, 3] rfl rfl h)
  refine c_reg ?_
  refine ow_batch [.p] rfl ?_
  obtain ⟨y11, h12, H⟩ := of_bind H
  refine ow_callS rfl fn49 rfl rfl rfl rfl (fun w1 hw1 => impl_writer_done_ok w1  h12 (hw1.carve [0, 1] rfl rfl)) (fun v13 w1 w2 hw1 hR15 => ?_)
  obtain ⟨a16, n17, c18, F19, rfl, hS14⟩ := hR15
  obtain rfl := own_nS (i := 0) hS14 rfl
  refine ⟨St w M0 [_, _, _], hw1.comp [0, 1] rfl rfl hS14, fun _ _ => trivial, ?_⟩
  refine ow_batch [.p] rfl ?_
  refine ow_nil ?_
  refine x_qs ?_
  refine c_ret ?_
  exact x_retR (rs := [.tmp 2]) (vs := [.slice a16 y11.length c18]) rfl ⟨rfl, trivial⟩ (fun w' hw' => by
      obtain rfl := of_some H
      exact ⟨_, rfl, a16, y11.length, c18, F19, rfl, hw'.sel [2] rfl rfl⟩)

set_option maxHeartbeats 4000000 in
set_option maxRecDepth 100000 in
theorem laws_FnExactPutInts_ok (w : World) {p0 : List Int} {a_0 : Option Addr} {n_0 c_0 : Nat} {r : Bool} (H : laws_FnExactPutInts p0 = some r)  (g0 : (eList (eVal (Value.int .i64) (fun _ => rfl)) 3).rd w [] p0 [.slice a_0 n_0 c_0]) :
    Calls Try.prog 3 #[.slice a_0 n_0 c_0] w (fun en w' => en = .returned (.bool r) ∧ Ext [] w w') := by
  obtain rfl := rd_n g0
  unfold laws_FnExactPutInts at H
  refine f_enter (vs := [.slice a_0 p0.length c_0]) Try.func3 rfl Try.ntmps3 rfl (St.init w []) ?_
  refine c_seq ?_
  refine c_reg ?_
  refine ow_batch [.p] rfl ?_
  refine ow_nil ?_
  refine x_qs ?_
  refine c_seq ?_
  refine c_seq ?_
  refine c_reg ?_
  refine ow_batch [.p, .lenS 22 3 sl22, .p] rfl ?_
  refine ow_nil ?_
  refine x_qs ?_
  refine c_if rfl (fun hb => ?_) (fun hb => ?_)
  · have H := of_if_t hb H
    refine c_seq ?_
    refine c_reg ?_
    refine ow_batch [.p] rfl ?_
    refine ow_nil ?_
    refine x_qs ?_
    refine c_ret ?_
    refine x_qs_ret ?_
    exact x_retR (rs := [.tmp 2]) (vs := [.bool true]) rfl ⟨rfl, trivial⟩ (fun w' hw' => by
        obtain rfl := of_some H
        exact ⟨rfl, hw'.ext⟩)
  · have H := of_if_f hb H
    refine c_skip ?_
    refine x_qs ?_
    refine c_seq ?_
    refine c_reg ?_
    refine ow_batch [.p] rfl ?_
    obtain ⟨y1, h2, H⟩ := of_bind H
    refine ow_callS rfl fn11 rfl rfl rfl rfl (fun w1 hw1 => laws_toIntS_ok w1  h2 (hw1.carve [] rfl rfl) (rds_bor g0 w1 hw1)) (fun v3 w1 w2 hw1 hR5 => ?_)
    obtain ⟨a6, n7, c8, F9, rfl, hS4⟩ := hR5
    obtain rfl := own_nS (i := 0) hS4 rfl
    refine ⟨St w [] [_], hw1.comp [] rfl rfl hS4, fun _ _ => trivial, ?_⟩
    obtain ⟨y10, h11, H⟩ := of_bind H
    refine ow_callS rfl fn10 rfl rfl rfl rfl (fun w1 hw1 => spec_PutInts_ok w1  h11 (hw1.carve [] rfl rfl) (rds_own (r := 0) rfl w1 hw1)) (fun v12 w1 w2 hw1 hR14 => ?_)
    obtain ⟨a15, n16, c17, F18, rfl, hS13⟩ := hR14
    obtain rfl := own_nS (i := 0) hS13 rfl
    refine ⟨St w [] [_, _], hw1.comp [] rfl rfl hS13, fun _ _ => trivial, ?_⟩
    refine ow_batch [.p] rfl ?_
    refine ow_nil ?_
    refine x_qs ?_
    refine c_seq ?_
    refine c_reg ?_
    refine ow_batch [.p] rfl ?_
    obtain ⟨y19, h20, H⟩ := of_bind H
    refine ow_callS rfl fn11 rfl rfl rfl rfl (fun w1 hw1 => laws_toIntS_ok w1  h20 (hw1.carve [] rfl rfl) (rds_bor g0 w1 hw1)) (fun v21 w1 w2 hw1 hR23 => ?_)
    obtain ⟨a24, n25, c26, F27, rfl, hS22⟩ := hR23
    obtain rfl := own_nS (i := 0) hS22 rfl
    refine ⟨St w [] [_, _, _], hw1.comp [] rfl rfl hS22, fun _ _ => trivial, ?_⟩
    refine ow_batch [.p] rfl ?_
    refine ow_nil ?_
    refine x_qs ?_
    refine c_seq ?_
    refine c_reg ?_
    refine ow_batch [.p] rfl ?_
    obtain ⟨y28, h29, H⟩ := of_bind H
    refine ow_callS rfl fn12 rfl rfl rfl rfl (fun w1 hw1 => impl_PutInts_ok w1  h29 (hw1.carve [] rfl rfl) (rds_own (r := 2) rfl w1 hw1)) (fun v30 w1 w2 hw1 hR32 => ?_)
    obtain ⟨a33, n34, c35, F36, rfl, hS31⟩ := hR32
    obtain rfl := own_nS (i := 0) hS31 rfl
    refine ⟨St w [] [_, _, _, _], hw1.comp [] rfl rfl hS31, fun _ _ => trivial, ?_⟩
    refine ow_batch [.p] rfl ?_
    refine ow_nil ?_
    refine x_qs ?_
    refine c_seq ?_
    refine c_seq ?_
    refine c_reg ?_
    refine ow_batch [.p, .p] rfl ?_
    obtain ⟨y37, h38, H⟩ := of_bind H
    refine ow_q rfl rfl (dstOk_lt rfl) (qy_call rfl fn13 rfl (fun w1 hw1 => laws_eqByteS_ok w1  h38 (rds_own (r := 3) rfl w1 hw1) (rds_own (r := 1) rfl w1 hw1))) (fun _ _ => trivial) ?_
    refine ow_batch [.p] rfl ?_
    refine ow_nil ?_
    refine x_qs ?_
    refine c_if rfl (fun hb => ?_) (fun hb => ?_)
    · have H := of_if_t hb H
      refine c_seq ?_
      refine c_reg ?_
      refine ow_batch [.p] rfl ?_
      refine ow_nil ?_
      refine x_qs ?_
      refine c_ret ?_
      refine x_qs_ret ?_
      exact x_retR (rs := [.tmp 2]) (vs := [.bool false]) rfl ⟨rfl, trivial⟩ (fun w' hw' => by
          obtain rfl := of_some H
          exact ⟨rfl, hw'.ext⟩)
    · have H := of_if_f hb H
      refine c_skip ?_
      refine x_qs ?_
      refine c_seq ?_
      refine c_seq ?_
      refine c_reg ?_
      refine ow_batch [.p, .p] rfl ?_
      obtain ⟨y39, h40, H⟩ := of_bind H
      refine ow_callS rfl fn11 rfl rfl rfl rfl (fun w1 hw1 => laws_toIntS_ok w1  h40 (hw1.carve [] rfl rfl) (rds_bor g0 w1 hw1)) (fun v41 w1 w2 hw1 hR43 => ?_)
      obtain ⟨a44, n45, c46, F47, rfl, hS42⟩ := hR43
      obtain rfl := own_nS (i := 0) hS42 rfl
      refine ⟨St w [] [_, _, _, _, _], hw1.comp [] rfl rfl hS42, fun _ _ => trivial, ?_⟩
      obtain ⟨y48, h49, H⟩ := of_bind H
      refine ow_q rfl rfl (dstOk_lt rfl) (qy_call rfl fn14 rfl (fun w1 hw1 => laws_eqIntS_ok w1  h49 (rds_own (r := 2) rfl w1 hw1) (rds_own (r := 4) rfl w1 hw1))) (fun _ _ => trivial) ?_
      refine ow_batch [.p] rfl ?_
      refine ow_nil ?_
      refine x_qs ?_
      refine c_if rfl (fun hb => ?_) (fun hb => ?_)
      · have H := of_if_t hb H
        refine c_seq ?_
        refine c_reg ?_
        refine ow_batch [.p] rfl ?_
        refine ow_nil ?_
        refine x_qs ?_
        refine c_ret ?_
        refine x_qs_ret ?_
        exact x_retR (rs := [.tmp 2]) (vs := [.bool false]) rfl ⟨rfl, trivial⟩ (fun w' hw' => by
            obtain rfl := of_some H
            exact ⟨rfl, hw'.ext⟩)
      · have H := of_if_f hb H
        refine c_skip ?_
        refine x_qs ?_
        refine c_seq ?_
        refine c_reg ?_
        refine ow_batch [.p] rfl ?_
        refine ow_nil ?_
        refine x_qs ?_
        refine c_seq ?_
        refine c_reg ?_
        refine ow_batch [.p, .p] rfl ?_
        obtain ⟨y50, h51, H⟩ := of_bind H
        refine ow_callS rfl fn15 rfl rfl rfl rfl (fun w1 hw1 => laws_markIntS_ok w1  h51 (hw1.carve [2] rfl rfl)) (fun v52 w1 w2 hw1 hR54 => ?_)
        obtain ⟨F55, rfl, hS53⟩ := hR54
        refine ⟨St w [] [_, _, _, _, _, _], hw1.comp [2] rfl rfl hS53, fun _ _ => trivial, ?_⟩
        refine ow_batch [.p] rfl ?_
        refine ow_nil ?_
        refine x_qs ?_
        refine c_seq ?_
        refine c_seq ?_
        refine c_reg ?_
        refine ow_batch [.p, .p, .p] rfl ?_
        obtain ⟨u56, hu60, H⟩ := of_bind H
        refine ow_cut [(39, .bool u56), (0, .slice a_0 p0.length c_0), (3, .slice a15 y10.length c17), (5, .slice a33 y28.length c35)] 5 ?_ (fun key => OW.sub (R := [(0, .slice a_0 p0.length c_0), (3, .slice a15 y10.length c17), (5, .slice a33 y28.length c35), (34, .bool (decide (y50.1 < 0)))]) ?_ ⟨rfl, rfl, rfl, rfl, trivial⟩)
        · refine ow_nil ?_
          refine x_qs ?_
          refine c_if rfl (fun hb => ?_) (fun hb => ?_)
          · have H := of_if_t hb H
            refine c_seq ?_
            refine c_reg ?_
            refine ow_batch [.p] rfl ?_
            refine ow_nil ?_
            refine x_qs ?_
            refine c_ret ?_
            refine x_qs_ret ?_
            exact x_retR (rs := [.tmp 2]) (vs := [.bool false]) rfl ⟨rfl, trivial⟩ (fun w' hw' => by
                obtain rfl := of_some H
                exact ⟨rfl, hw'.ext⟩)
          · have H := of_if_f hb H
            refine c_skip ?_
            refine x_qs ?_
            refine c_seq ?_
            refine c_reg ?_
            refine ow_batch [.p] rfl ?_
            refine ow_nil ?_
            refine x_qs ?_
            refine c_seq ?_
            refine c_reg ?_
            refine ow_batch [.p, .p] rfl ?_
            obtain ⟨y61, h62, H⟩ := of_bind H
            refine ow_callS rfl fn16 rfl rfl rfl rfl (fun w1 hw1 => laws_markByteS_ok w1  h62 (hw1.carve [3] rfl rfl)) (fun v63 w1 w2 hw1 hR65 => ?_)
            obtain ⟨F66, rfl, hS64⟩ := hR65
            refine ⟨St w [] [_, _, _, _, _, _, _], hw1.comp [3] rfl rfl hS64, fun _ _ => trivial, ?_⟩
            refine ow_batch [.p] rfl ?_
            refine ow_nil ?_
            refine x_qs ?_
            refine c_seq ?_
            refine CW.weak (C' := St w [] [_, _, _, _, _]) ?_ (fun _ h => St.sel [0, 1, 4, 5, 6] rfl rfl h)
            refine c_reg ?_
            refine ow_batch [.p] rfl ?_
            refine ow_nil ?_
            refine x_qs ?_
            refine c_seq ?_
            refine c_reg ?_
            refine ow_batch [.p, .p] rfl ?_
            obtain ⟨y67, h68, H⟩ := of_bind H
            refine ow_q rfl rfl (dstOk_lt rfl) (qy_call rfl fn17 rfl (fun w1 hw1 => laws_heldByteS_ok w1  h68 (rds_own (r := 4) rfl w1 hw1))) (fun _ _ => trivial) ?_
            refine ow_batch [.p] rfl ?_
            refine ow_nil ?_
            refine x_qs ?_
            refine c_seq ?_
            refine c_seq ?_
            refine c_reg ?_
            refine ow_batch [.p, .p] rfl ?_
            refine ow_nil ?_
            refine x_qs ?_
            refine c_if rfl (fun hb => ?_) (fun hb => ?_)
            · have H := of_if_t hb H
              refine c_seq ?_
              refine c_reg ?_
              refine ow_batch [.p] rfl ?_
              refine ow_nil ?_
              refine x_qs ?_
              refine c_ret ?_
              refine x_qs_ret ?_
              exact x_retR (rs := [.tmp 2]) (vs := [.bool false]) rfl ⟨rfl, trivial⟩ (fun w' hw' => by
                  obtain rfl := of_some H
                  exact ⟨rfl, hw'.ext⟩)
            · have H := of_if_f hb H
              refine c_skip ?_
              refine x_qs ?_
              refine c_seq ?_
              refine c_seq ?_
              refine c_reg ?_
              refine ow_batch [.p, .p, .p] rfl ?_
              refine ow_nil ?_
              refine x_qs ?_
              refine c_if rfl (fun hb => ?_) (fun hb => ?_)
              · have H := of_if_t hb H
                refine c_seq ?_
                refine c_reg ?_
                refine ow_batch [.p] rfl ?_
                refine ow_nil ?_
                refine x_qs ?_
                refine c_ret ?_
                refine x_qs_ret ?_
                exact x_retR (rs := [.tmp 2]) (vs := [.bool false]) rfl ⟨rfl, trivial⟩ (fun w' hw' => by
                    obtain rfl := of_some H
                    exact ⟨rfl, hw'.ext⟩)
              · have H := of_if_f hb H
                refine c_skip ?_
                refine x_qs ?_
                refine c_seq ?_
                refine c_reg ?_
                refine ow_batch [.p] rfl ?_
                obtain ⟨y69, h70, H⟩ := of_bind H
                refine ow_callS rfl fn11 rfl rfl rfl rfl (fun w1 hw1 => laws_toIntS_ok w1  h70 (hw1.carve [] rfl rfl) (rds_bor g0 w1 hw1)) (fun v71 w1 w2 hw1 hR73 => ?_)
                obtain ⟨a74, n75, c76, F77, rfl, hS72⟩ := hR73
                obtain rfl := own_nS (i := 0) hS72 rfl
                refine ⟨St w [] [_, _, _, _, _, _], hw1.comp [] rfl rfl hS72, fun _ _ => trivial, ?_⟩
                obtain ⟨y78, h79, H⟩ := of_bind H
                refine ow_callS rfl fn12 rfl rfl rfl rfl (fun w1 hw1 => impl_PutInts_ok w1  h79 (hw1.carve [] rfl rfl) (rds_own (r := 5) rfl w1 hw1)) (fun v80 w1 w2 hw1 hR82 => ?_)
                obtain ⟨a83, n84, c85, F86, rfl, hS81⟩ := hR82
                obtain rfl := own_nS (i := 0) hS81 rfl
                refine ⟨St w [] [_, _, _, _, _, _, _], hw1.comp [] rfl rfl hS81, fun _ _ => trivial, ?_⟩
                refine ow_batch [.p] rfl ?_
                refine ow_nil ?_
                refine x_qs ?_
                refine c_seq ?_
                refine c_seq ?_
                refine c_reg ?_
                refine ow_batch [.p, .p] rfl ?_
                obtain ⟨y87, h88, H⟩ := of_bind H
                refine ow_q rfl rfl (dstOk_lt rfl) (qy_call rfl fn13 rfl (fun w1 hw1 => laws_eqByteS_ok w1  h88 (rds_own (r := 6) rfl w1 hw1) (rds_own (r := 1) rfl w1 hw1))) (fun _ _ => trivial) ?_
                refine ow_batch [.p] rfl ?_
                refine ow_nil ?_
                refine x_qs ?_
                refine c_if rfl (fun hb => ?_) (fun hb => ?_)
                · have H := of_if_t hb H
                  refine c_seq ?_
                  refine c_reg ?_
                  refine ow_batch [.p] rfl ?_
                  refine ow_nil ?_
                  refine x_qs ?_
                  refine c_ret ?_
                  refine x_qs_ret ?_
                  exact x_retR (rs := [.tmp 2]) (vs := [.bool false]) rfl ⟨rfl, trivial⟩ (fun w' hw' => by
                      obtain rfl := of_some H
                      exact ⟨rfl, hw'.ext⟩)
                · have H := of_if_f hb H
                  refine c_skip ?_
                  refine x_qs ?_
                  refine c_seq ?_
                  refine c_reg ?_
                  refine ow_batch [.p] rfl ?_
                  refine ow_nil ?_
                  refine x_qs ?_
                  refine c_seq ?_
                  refine c_reg ?_
                  refine ow_batch [.p, .p] rfl ?_
                  obtain ⟨y89, h90, H⟩ := of_bind H
                  refine ow_q rfl rfl (dstOk_lt rfl) (qy_call rfl fn17 rfl (fun w1 hw1 => laws_heldByteS_ok w1  h90 (rds_own (r := 4) rfl w1 hw1))) (fun _ _ => trivial) ?_
                  refine ow_batch [.p] rfl ?_
                  refine ow_nil ?_
                  refine x_qs ?_
                  refine c_seq ?_
                  refine c_seq ?_
                  refine c_reg ?_
                  refine ow_batch [.p, .p] rfl ?_
                  refine ow_nil ?_
                  refine x_qs ?_
                  refine c_if rfl (fun hb => ?_) (fun hb => ?_)
                  · have H := of_if_t hb H
                    refine c_seq ?_
                    refine c_reg ?_
                    refine ow_batch [.p] rfl ?_
                    refine ow_nil ?_
                    refine x_qs ?_
                    refine c_ret ?_
                    refine x_qs_ret ?_
                    exact x_retR (rs := [.tmp 2]) (vs := [.bool false]) rfl ⟨rfl, trivial⟩ (fun w' hw' => by
                        obtain rfl := of_some H
                        exact ⟨rfl, hw'.ext⟩)
                  · have H := of_if_f hb H
                    refine c_skip ?_
                    refine x_qs ?_
                    refine c_seq ?_
                    refine c_seq ?_
                    refine c_reg ?_
                    refine ow_batch [.p, .p, .p] rfl ?_
                    refine ow_nil ?_
                    refine x_qs ?_
                    refine c_if rfl (fun hb => ?_) (fun hb => ?_)
                    · have H := of_if_t hb H
                      refine c_seq ?_
                      refine c_reg ?_
                      refine ow_batch [.p] rfl ?_
                      refine ow_nil ?_
                      refine x_qs ?_
                      refine c_ret ?_
                      refine x_qs_ret ?_
                      exact x_retR (rs := [.tmp 2]) (vs := [.bool false]) rfl ⟨rfl, trivial⟩ (fun w' hw' => by
                          obtain rfl := of_some H
                          exact ⟨rfl, hw'.ext⟩)
                    · have H := of_if_f hb H
                      refine c_skip ?_
                      refine x_qs ?_
                      refine c_seq ?_
                      refine c_reg ?_
                      refine ow_batch [.p] rfl ?_
                      refine ow_nil ?_
                      refine x_qs ?_
                      refine c_ret ?_
                      exact x_retR (rs := [.tmp 2]) (vs := [.bool true]) rfl ⟨rfl, trivial⟩ (fun w' hw' => by
                          obtain rfl := of_some H
                          exact ⟨rfl, hw'.ext⟩)
        · clear H
          have H := hu60
          clear hu60
          generalize (decide (y50.1 < 0)) = t59 at H ⊢
          cases t59
          · have H := of_if_f rfl H
            refine ow_batch [.p, .p] rfl ?_
            obtain ⟨y57, h58, H⟩ := of_bind H
            refine ow_q rfl rfl (dstOk_lt rfl) (qy_call rfl fn13 rfl (fun w1 hw1 => laws_eqByteS_ok w1  h58 (rds_own (r := 3) rfl w1 hw1) (rds_own (r := 1) rfl w1 hw1))) (fun _ _ => trivial) ?_
            refine ow_batch [.p] rfl ?_
            refine ow_batch [.p] rfl ?_
            obtain rfl := of_some H
            exact OW.sub key ⟨rfl, rfl, rfl, rfl, trivial⟩
          · have H := of_if_t rfl H
            refine ow_batch [.p, .p, .p, .p, .p] rfl ?_
            obtain rfl := of_some H
            exact OW.sub key ⟨rfl, rfl, rfl, rfl, trivial⟩

end Go.Vk
