/- The code does what the functions of data say. Printed by program. -/

import Derived.Test.YtjflgcighcjfkaaDoorRF

import Derived.Test.YtjflgcighcjfkaaDoorChecked

import Derived.Test.YtjflgcighcjfkaaDoorShelf

namespace Go.Vk

open Go.Proofs Go.RowKit



def eTlaws_Window : Enc Tlaws_Window := eIso (eList (eList (eVal (Value.int .i64) (fun _ => rfl)) 3) 22) (fun x => x.Rows_)

theorem rdm_Tlaws_Window {w : World} {X : List Nat} {x : Tlaws_Window} {c0 : List Value} (h0 : (eList (eList (eVal (Value.int .i64) (fun _ => rfl)) 3) 22).rd w X x.Rows_ c0) : (eTlaws_Window).rd w X x c0 := by
  show (eList (eList (eVal (Value.int .i64) (fun _ => rfl)) 3) 22).rd w X x.Rows_ _
  exact h0

theorem rdo_Tlaws_Window {w : World} {X : List Nat} {x : Tlaws_Window} {cs : List Value} (h : (eTlaws_Window).rd w X x cs) : ∃ c0, cs = c0 ∧ (eList (eList (eVal (Value.int .i64) (fun _ => rfl)) 3) 22).rd w X x.Rows_ c0 := by
  have h : (eList (eList (eVal (Value.int .i64) (fun _ => rfl)) 3) 22).rd w X x.Rows_ cs := h
  exact ⟨cs, rfl, h⟩

def eTimpl_Window : Enc Timpl_Window := eIso (eList (eList (eVal (Value.int .i64) (fun _ => rfl)) 3) 22) (fun x => x.Rows_)

theorem rdm_Timpl_Window {w : World} {X : List Nat} {x : Timpl_Window} {c0 : List Value} (h0 : (eList (eList (eVal (Value.int .i64) (fun _ => rfl)) 3) 22).rd w X x.Rows_ c0) : (eTimpl_Window).rd w X x c0 := by
  show (eList (eList (eVal (Value.int .i64) (fun _ => rfl)) 3) 22).rd w X x.Rows_ _
  exact h0

theorem rdo_Timpl_Window {w : World} {X : List Nat} {x : Timpl_Window} {cs : List Value} (h : (eTimpl_Window).rd w X x cs) : ∃ c0, cs = c0 ∧ (eList (eList (eVal (Value.int .i64) (fun _ => rfl)) 3) 22).rd w X x.Rows_ c0 := by
  have h : (eList (eList (eVal (Value.int .i64) (fun _ => rfl)) 3) 22).rd w X x.Rows_ cs := h
  exact ⟨cs, rfl, h⟩

def eTimpl_Bucket : Enc Timpl_Bucket := eFlat (fun x => [.int .i64 x.Size_, .int .i64 x.Ones_]) 2 (fun _ => rfl) (by intro x u hu; simp only [List.mem_cons, List.not_mem_nil, or_false] at hu; rcases hu with rfl | rfl <;> rfl)

theorem sl22 : isSl Tryd.prog 22 3 := isSl_of (by kernel_rfl)

theorem st9 : isStr Tryd.prog 9 := isStr_of (by kernel_rfl)

theorem ty22 : isTy Tryd.prog 22 false 1 24 [.slice none 0 0] := isTy_of (by kernel_rfl)

set_option maxRecDepth 100000 in
theorem fn66 : isFn Tryd.prog 66 := ⟨Tryd.f66, Tryd.func66, rfl, by decide⟩

theorem sl27 : isSl Tryd.prog 27 22 := isSl_of (by kernel_rfl)

theorem ty27 : isTy Tryd.prog 27 false 1 24 [.slice none 0 0] := isTy_of (by kernel_rfl)

set_option maxRecDepth 100000 in
theorem fn38 : isFn Tryd.prog 38 := ⟨Tryd.f38, Tryd.func38, rfl, by decide⟩

theorem ty3 : isTy Tryd.prog 3 false 1 8 [.int .i64 0] := isTy_of (by kernel_rfl)

set_option maxRecDepth 100000 in
theorem fn9 : isFn Tryd.prog 9 := ⟨Tryd.f9, Tryd.func9, rfl, by decide⟩

set_option maxRecDepth 100000 in
theorem fn43 : isFn Tryd.prog 43 := ⟨Tryd.f43, Tryd.func43, rfl, by decide⟩

set_option maxRecDepth 100000 in
theorem fn94 : isFn Tryd.prog 94 := ⟨Tryd.f94, Tryd.func94, rfl, by decide⟩

theorem mixed : Tryd.prog.follows .mixedOrders = true := by kernel_rfl

theorem us3 : (Tryd.prog.underlying 3).isSome = true := by kernel_rfl

theorem in5 : isInt Tryd.prog 5 .u8 := isInt_of (by kernel_rfl)

theorem sl122 : isSl Tryd.prog 122 5 := isSl_of (by kernel_rfl)

theorem ty5 : isTy Tryd.prog 5 false 1 1 [.int .u8 0] := isTy_of (by kernel_rfl)

set_option maxRecDepth 100000 in
theorem fn35 : isFn Tryd.prog 35 := ⟨Tryd.f35, Tryd.func35, rfl, by decide⟩

set_option maxRecDepth 100000 in
theorem fn95 : isFn Tryd.prog 95 := ⟨Tryd.f95, Tryd.func95, rfl, by decide⟩

set_option maxRecDepth 100000 in
theorem fn122 : isFn Tryd.prog 122 := ⟨Tryd.f122, Tryd.func122, rfl, by decide⟩

set_option maxRecDepth 100000 in
theorem fn96 : isFn Tryd.prog 96 := ⟨Tryd.f96, Tryd.func96, rfl, by decide⟩

set_option maxRecDepth 100000 in
theorem fn98 : isFn Tryd.prog 98 := ⟨Tryd.f98, Tryd.func98, rfl, by decide⟩

set_option maxRecDepth 100000 in
theorem fn45 : isFn Tryd.prog 45 := ⟨Tryd.f45, Tryd.func45, rfl, by decide⟩

set_option maxRecDepth 100000 in
theorem fn11 : isFn Tryd.prog 11 := ⟨Tryd.f11, Tryd.func11, rfl, by decide⟩

set_option maxRecDepth 100000 in
theorem fn49 : isFn Tryd.prog 49 := ⟨Tryd.f49, Tryd.func49, rfl, by decide⟩

set_option maxRecDepth 100000 in
theorem fn70 : isFn Tryd.prog 70 := ⟨Tryd.f70, Tryd.func70, rfl, by decide⟩

theorem fa29_0 : isFa Tryd.prog 29 0 0 := isFa_of (by kernel_rfl)

theorem ty32 : isTy Tryd.prog 32 true 1 24 [.slice none 0 0] := isTy_of (by kernel_rfl)

theorem fa32_0 : isFa Tryd.prog 32 0 0 := isFa_of (by kernel_rfl)

theorem sl86 : isSl Tryd.prog 86 89 := isSl_of (by kernel_rfl)

theorem ty89 : isTy Tryd.prog 89 true 2 16 [.int .i64 0, .int .i64 0] := isTy_of (by kernel_rfl)

set_option maxRecDepth 100000 in
theorem fn39 : isFn Tryd.prog 39 := ⟨Tryd.f39, Tryd.func39, rfl, by decide⟩

theorem fs89 : isFs Tryd.prog 89 [(0, 1), (1, 1)] := isFs_of (by kernel_rfl)

set_option maxRecDepth 100000 in
theorem fn42 : isFn Tryd.prog 42 := ⟨Tryd.f42, Tryd.func42, rfl, by decide⟩

theorem fa89_1 : isFa Tryd.prog 89 1 1 := isFa_of (by kernel_rfl)

theorem fa89_0 : isFa Tryd.prog 89 0 0 := isFa_of (by kernel_rfl)

set_option maxRecDepth 100000 in
theorem fn40 : isFn Tryd.prog 40 := ⟨Tryd.f40, Tryd.func40, rfl, by decide⟩

set_option maxRecDepth 100000 in
theorem fn41 : isFn Tryd.prog 41 := ⟨Tryd.f41, Tryd.func41, rfl, by decide⟩

set_option maxRecDepth 100000 in
theorem fn97 : isFn Tryd.prog 97 := ⟨Tryd.f97, Tryd.func97, rfl, by decide⟩

set_option maxRecDepth 100000 in
theorem fn44 : isFn Tryd.prog 44 := ⟨Tryd.f44, Tryd.func44, rfl, by decide⟩

set_option maxRecDepth 100000 in
theorem fn48 : isFn Tryd.prog 48 := ⟨Tryd.f48, Tryd.func48, rfl, by decide⟩

set_option maxRecDepth 100000 in
theorem fn46 : isFn Tryd.prog 46 := ⟨Tryd.f46, Tryd.func46, rfl, by decide⟩

set_option maxRecDepth 100000 in
theorem fn47 : isFn Tryd.prog 47 := ⟨Tryd.f47, Tryd.func47, rfl, by decide⟩

theorem ty29 : isTy Tryd.prog 29 true 1 24 [.slice none 0 0] := isTy_of (by kernel_rfl)

set_option maxRecDepth 100000 in
theorem fn12 : isFn Tryd.prog 12 := ⟨Tryd.f12, Tryd.func12, rfl, by decide⟩

set_option maxRecDepth 100000 in
theorem fn14 : isFn Tryd.prog 14 := ⟨Tryd.f14, Tryd.func14, rfl, by decide⟩

set_option maxRecDepth 100000 in
theorem fn13 : isFn Tryd.prog 13 := ⟨Tryd.f13, Tryd.func13, rfl, by decide⟩

set_option maxRecDepth 100000 in
theorem fn15 : isFn Tryd.prog 15 := ⟨Tryd.f15, Tryd.func15, rfl, by decide⟩

set_option maxRecDepth 100000 in
theorem fn16 : isFn Tryd.prog 16 := ⟨Tryd.f16, Tryd.func16, rfl, by decide⟩

set_option maxHeartbeats 4000000 in
set_option maxRecDepth 100000 in
theorem laws_szIntS_ok (w : World) {p0 : List Int} {p1 : Int} {a_0 : Option Addr} {n_0 c_0 : Nat} {r : Int} (H : laws_szIntS p0 p1 = some r)  (g0 : (eList (eVal (Value.int .i64) (fun _ => rfl)) 3).rd w [] p0 [.slice a_0 n_0 c_0]) :
    Calls Tryd.prog 66 #[.slice a_0 n_0 c_0, .int .i64 p1] w (fun en w' => en = .returned (.int .i64 r) ∧ Ext [] w w') := by
  obtain rfl := rd_n g0
  unfold laws_szIntS at H
  refine f_enter (vs := [.slice a_0 p0.length c_0, .int .i64 p1]) Tryd.func66 rfl Tryd.ntmps66 rfl (St.init w []) ?_
  refine c_seq ?_
  refine c_reg ?_
  refine ow_batch [.p] rfl ?_
  refine ow_nil ?_
  refine x_qs ?_
  refine c_seq ?_
  refine c_reg ?_
  refine ow_batch [.p, .p, .lenS 22 3 sl22, .p, .p] rfl ?_
  refine ow_nil ?_
  refine x_qs ?_
  refine c_seq ?_
  refine c_seq ?_
  refine c_reg ?_
  refine ow_batch [.p, .p] rfl ?_
  refine ow_nil ?_
  refine x_qs ?_
  refine c_if rfl (fun hb => ?_) (fun hb => ?_)
  · have H := of_if_t hb H
    refine c_seq ?_
    refine c_reg ?_
    refine ow_batch [.p] rfl ?_
    refine ow_nil ?_
    refine x_qs ?_
    refine c_ret ?_
    refine x_qs_ret ?_
    exact x_retR (rs := [.tmp 4]) (vs := [.int .i64 (-1)]) rfl ⟨rfl, trivial⟩ (fun w' hw' => by
        obtain rfl := of_some H
        exact ⟨rfl, hw'.ext⟩)
  · have H := of_if_f hb H
    refine c_skip ?_
    refine x_qs ?_
    refine c_seq ?_
    refine c_reg ?_
    refine ow_batch [.p, .p] rfl ?_
    refine ow_nil ?_
    refine x_qs ?_
    refine c_ret ?_
    exact x_retR (rs := [.tmp 4]) (vs := [.int .i64 (IntKind.i64.wrap (p1 - (p0.length : Int)))]) rfl ⟨rfl, trivial⟩ (fun w' hw' => by
        obtain rfl := of_some H
        exact ⟨rfl, hw'.ext⟩)

set_option maxHeartbeats 4000000 in
set_option maxRecDepth 100000 in
theorem laws_szIntSS_ok (w : World) {p0 : List (List Int)} {p1 : Int} {a_0 : Option Addr} {n_0 c_0 : Nat} {r : Int} (H : laws_szIntSS p0 p1 = some r)  (g0 : (eList (eList (eVal (Value.int .i64) (fun _ => rfl)) 3) 22).rd w [] p0 [.slice a_0 n_0 c_0]) :
    Calls Tryd.prog 38 #[.slice a_0 n_0 c_0, .int .i64 p1] w (fun en w' => en = .returned (.int .i64 r) ∧ Ext [] w w') := by
  obtain rfl := rd_n g0
  unfold laws_szIntSS at H
  refine f_enter (vs := [.slice a_0 p0.length c_0, .int .i64 p1]) Tryd.func38 rfl Tryd.ntmps38 rfl (St.init w []) ?_
  refine c_seq ?_
  refine c_reg ?_
  refine ow_batch [.p] rfl ?_
  refine ow_nil ?_
  refine x_qs ?_
  refine c_seq ?_
  refine c_reg ?_
  refine ow_batch [.p, .p, .lenS 27 22 sl27, .p, .p] rfl ?_
  refine ow_nil ?_
  refine x_qs ?_
  refine c_seq ?_
  refine c_seq ?_
  refine c_reg ?_
  refine ow_batch [.p, .p] rfl ?_
  refine ow_nil ?_
  refine x_qs ?_
  refine c_if rfl (fun hb => ?_) (fun hb => ?_)
  · have H := of_if_t hb H
    refine c_seq ?_
    refine c_reg ?_
    refine ow_batch [.p] rfl ?_
    refine ow_nil ?_
    refine x_qs ?_
    refine c_ret ?_
    refine x_qs_ret ?_
    exact x_retR (rs := [.tmp 4]) (vs := [.int .i64 (-1)]) rfl ⟨rfl, trivial⟩ (fun w' hw' => by
        obtain rfl := of_some H
        exact ⟨rfl, hw'.ext⟩)
  · have H := of_if_f hb H
    refine c_skip ?_
    refine x_qs ?_
    refine c_seq ?_
    refine c_seq ?_
    refine c_reg ?_
    refine ow_batch [.p] rfl ?_
    refine ow_nil ?_
    refine x_qs ?_
    refine c_block ?_
    refine CW.at (loopI2 (fun (i22 : Int) (i23 : Int) => St w [] []) (fun (i22 : Int) (i23 : Int) => [(0, .slice a_0 p0.length c_0), (1, .int .i64 i22), (5, .int .i64 i23)]) (fun kk => fun (i22 : Int) (i23 : Int) => laws_szIntSS_L1 p0 kk i22 i23 = some r) (fun _ _ H => ?_) (fun k1 ihk1 i22 i23 H => ?_) Fuel (IntKind.i64.wrap (p1 - (p0.length : Int))) (0) (H)) (fun _ h => St.sel [] rfl rfl h) ⟨rfl, rfl, rfl,  trivial⟩
    · unfold laws_szIntSS_L1 at H
      exact absurd H (by simp)
    · unfold laws_szIntSS_L1 at H
      refine c_seq ?_
      refine c_seq ?_
      refine c_reg ?_
      refine ow_batch [.p, .p, .lenS 27 22 sl27, .p] rfl ?_
      refine ow_nil ?_
      refine x_qs ?_
      refine c_if rfl (fun hb => ?_) (fun hb => ?_)
      · have H := of_if_t hb H
        refine c_skip ?_
        refine x_qs ?_
        refine c_seq ?_
        refine c_block ?_
        refine c_seq ?_
        refine c_reg ?_
        refine ow_batch [.p, .p] rfl ?_
        obtain ⟨e36, h37, H⟩ := of_bind H
        refine ow_ixB rfl rfl rfl rfl rfl sl27 ty22 rfl g0 h37 (fun q40 c41 hd38 hA39 => ?_)
        obtain ⟨a42, c43, rfl⟩ := rd_sl1 hd38
        refine ow_r rfl (dstOk_lt rfl) (ry_load1 rfl rfl ty22 (at_bor bor hA39)) ?_
        refine ow_batch [.p] rfl ?_
        obtain ⟨y44, h45, H⟩ := of_bind H
        refine ow_q rfl rfl (dstOk_lt rfl) (qy_call rfl fn66 rfl (fun w1 hw1 => laws_szIntS_ok w1  h45 (rds_bor hd38 w1 hw1))) (fun _ _ => trivial) ?_
        refine ow_batch [.p] rfl ?_
        refine ow_nil ?_
        refine x_qs ?_
        refine c_seq ?_
        refine c_reg ?_
        refine ow_batch [.p, .p] rfl ?_
        refine ow_nil ?_
        refine x_qs ?_
        refine c_if rfl (fun hb => ?_) (fun hb => ?_)
        · have H := of_if_t hb H
          refine c_seq ?_
          refine c_reg ?_
          refine ow_batch [.p] rfl ?_
          refine ow_nil ?_
          refine x_qs ?_
          refine c_ret ?_
          refine x_qb_ret ?_
          refine x_qs_ret ?_
          refine x_ql_ret ?_
          refine x_qb_ret ?_
          refine x_qs_ret ?_
          exact x_retR (rs := [.tmp 4]) (vs := [.int .i64 (-1)]) rfl ⟨rfl, trivial⟩ (fun w' hw' => by
              obtain rfl := of_some H
              exact ⟨rfl, hw'.ext⟩)
        · have H := of_if_f hb H
          refine c_skip ?_
          refine x_qb ?_
          refine x_qs ?_
          refine c_reg ?_
          refine ow_batch [.p, .p, .p] rfl ?_
          refine ow_nil ?_
          exact x_ql (RW.at (ihk1 (y44) (IntKind.i64.wrap (i23 + 1)) (H)) (fun _ h => St.sel [] rfl rfl h) ⟨rfl, rfl, rfl, trivial⟩)
      · have H := of_if_f hb H
        refine c_exit ?_
        refine x_qs_exit ?_
        refine x_ql_exit ?_
        refine x_qb_here ?_
        refine x_qs ?_
        refine c_seq ?_
        refine c_reg ?_
        refine ow_batch [.p, .p] rfl ?_
        refine ow_nil ?_
        refine x_qs ?_
        refine c_ret ?_
        exact x_retR (rs := [.tmp 4]) (vs := [.int .i64 i22]) rfl ⟨rfl, trivial⟩ (fun w' hw' => by
            obtain rfl := of_some H
            exact ⟨rfl, hw'.ext⟩)

set_option maxHeartbeats 4000000 in
set_option maxRecDepth 100000 in
theorem laws_toIntS_ok (w : World) {M0 : List Nat} {p0 : List Int} {a_0 : Option Addr} {n_0 c_0 : Nat} {r : List Int} (H : laws_toIntS p0 = some r) (HS : St w M0 [] w) (g0 : (eList (eVal (Value.int .i64) (fun _ => rfl)) 3).rd w M0 p0 [.slice a_0 n_0 c_0]) :
    Calls Tryd.prog 9 #[.slice a_0 n_0 c_0] w (fun en w' => ∃ v, en = .returned v ∧ ∃ (a0 : Option Addr), ∃ (n0 : Nat), ∃ (c0 : Nat), ∃ (F0 : List Nat), v = .slice a0 n0 c0 ∧ St w M0 [Res.own (eList (eVal (Value.int .i64) (fun _ => rfl)) 3) F0 r [.slice a0 n0 c0]] w') := by
  obtain rfl := rd_n g0
  unfold laws_toIntS at H
  refine f_enter (vs := [.slice a_0 p0.length c_0]) Tryd.func9 rfl Tryd.ntmps9 rfl (HS) ?_
  refine c_seq ?_
  refine c_reg ?_
  refine ow_batch [.p] rfl ?_
  refine ow_nil ?_
  refine x_qs ?_
  refine c_seq ?_
  refine c_reg ?_
  refine ow_batch [.p, .lenS 22 3 sl22] rfl ?_
  obtain ⟨l10, h11, H⟩ := of_bind H
  refine ow_make (e := eVal (Value.int .i64) (fun _ => rfl)) (zero := (0 : Int)) rfl rfl rfl rfl rfl rfl sl22 ty3 rfl rfl rfl rfl (fun _ => ⟨rfl, rfl⟩) h11 (fun _ => kp) (fun b12 => ?_)
  refine ow_batch [.p] rfl ?_
  refine ow_nil ?_
  refine x_qs ?_
  refine c_seq ?_
  refine c_seq ?_
  refine c_reg ?_
  refine ow_batch [.p] rfl ?_
  refine ow_nil ?_
  refine x_qs ?_
  refine c_block ?_
  refine CW.at (loopI2 (fun (l19 : List Int) (i20 : Int) => St w M0 [Res.own (eList (eVal (Value.int .i64) (fun _ => rfl)) 3) [b12] l19 [.slice (some ⟨b12, 0, none⟩) l10.length l10.length]]) (fun (l19 : List Int) (i20 : Int) => [(0, .slice a_0 p0.length c_0), (3, .slice (some ⟨b12, 0, none⟩) l10.length l10.length), (4, .int .i64 i20)]) (fun kk => fun (l19 : List Int) (i20 : Int) => laws_toIntS_L1 p0 kk l19 i20 = some r) (fun _ _ H => ?_) (fun k1 ihk1 l19 i20 H => ?_) Fuel (l10) (0) (H)) (fun _ h => St.sel [0] rfl rfl h) ⟨rfl, rfl, rfl,  trivial⟩
  · unfold laws_toIntS_L1 at H
    exact absurd H (by simp)
  · unfold laws_toIntS_L1 at H
    refine c_seq ?_
    refine c_seq ?_
    refine c_reg ?_
    refine ow_batch [.p, .p, .lenS 22 3 sl22, .p] rfl ?_
    refine ow_nil ?_
    refine x_qs ?_
    refine c_if rfl (fun hb => ?_) (fun hb => ?_)
    · have H := of_if_t hb H
      refine c_skip ?_
      refine x_qs ?_
      refine c_seq ?_
      refine c_block ?_
      refine c_reg ?_
      refine ow_batch [.p, .p, .p, .p] rfl ?_
      obtain ⟨e27, h28, H⟩ := of_bind H
      refine ow_ixE (e := eVal (Value.int .i64) (fun _ => rfl)) (xs := p0) (j := i20) rfl rfl rfl rfl rfl sl22 ty3 rfl (fun w1 hw1 => rds_bor g0 w1 hw1) h28 (by rw [Nat.mul_one]) ?_
      refine ow_r rfl (dstOk_lt rfl) (ry_load1 rfl rfl ty3 (at_elV (fun w1 hw1 => rds_bor g0 w1 hw1) h28)) ?_
      obtain ⟨e29, h30, H⟩ := of_bind H
      refine ow_ixE (e := eVal (Value.int .i64) (fun _ => rfl)) (xs := l19) (j := i20) rfl rfl rfl rfl rfl sl22 ty3 rfl (fun w1 hw1 => rds_own (e := eList (eVal (Value.int .i64) (fun _ => rfl)) 3) (r := 0) rfl w1 hw1) h30 (by rw [Nat.mul_one]) ?_
      refine ow_storeV (i := 0) (j := i20) rfl rfl rfl rfl rfl rfl ty3 rfl h30 (fun _ => rfl) kp ?_
      refine ow_nil ?_
      refine x_qb ?_
      refine x_qs ?_
      refine c_reg ?_
      refine ow_batch [.p, .p, .p] rfl ?_
      refine ow_nil ?_
      exact x_ql (RW.at (ihk1 ((l19.set i20.toNat e27)) (IntKind.i64.wrap (i20 + 1)) (H)) (fun _ h => St.sel [0] rfl rfl h) ⟨rfl, rfl, rfl, trivial⟩)
    · have H := of_if_f hb H
      refine c_exit ?_
      refine x_qs_exit ?_
      refine x_ql_exit ?_
      refine x_qb_here ?_
      refine x_qs ?_
      refine c_seq ?_
      refine c_reg ?_
      refine ow_batch [.p, .p] rfl ?_
      refine ow_nil ?_
      refine x_qs ?_
      refine c_ret ?_
      exact x_retR (rs := [.tmp 2]) (vs := [.slice (some ⟨b12, 0, none⟩) l10.length l10.length]) rfl ⟨rfl, trivial⟩ (fun w' hw' => by
          obtain rfl := of_some H
          exact ⟨_, rfl, (some ⟨b12, 0, none⟩), l10.length, l10.length, [b12], rfl, hw'.sel [0] rfl rfl⟩)

set_option maxHeartbeats 4000000 in
set_option maxRecDepth 100000 in
theorem laws_toIntSS_ok (w : World) {M0 : List Nat} {p0 : List (List Int)} {a_0 : Option Addr} {n_0 c_0 : Nat} {r : List (List Int)} (H : laws_toIntSS p0 = some r) (HS : St w M0 [] w) (g0 : (eList (eList (eVal (Value.int .i64) (fun _ => rfl)) 3) 22).rd w M0 p0 [.slice a_0 n_0 c_0]) :
    Calls Tryd.prog 43 #[.slice a_0 n_0 c_0] w (fun en w' => ∃ v, en = .returned v ∧ ∃ (a0 : Option Addr), ∃ (n0 : Nat), ∃ (c0 : Nat), ∃ (F0 : List Nat), v = .slice a0 n0 c0 ∧ St w M0 [Res.own (eList (eList (eVal (Value.int .i64) (fun _ => rfl)) 3) 22) F0 r [.slice a0 n0 c0]] w') := by
  obtain rfl := rd_n g0
  unfold laws_toIntSS at H
  refine f_enter (vs := [.slice a_0 p0.length c_0]) Tryd.func43 rfl Tryd.ntmps43 rfl (HS) ?_
  refine c_seq ?_
  refine c_reg ?_
  refine ow_batch [.p] rfl ?_
  refine ow_nil ?_
  refine x_qs ?_
  refine c_seq ?_
  refine c_reg ?_
  refine ow_batch [.p, .lenS 27 22 sl27] rfl ?_
  obtain ⟨l10, h11, H⟩ := of_bind H
  refine ow_make (e := eList (eVal (Value.int .i64) (fun _ => rfl)) 3) (zero := ([] : List Int)) rfl rfl rfl rfl rfl rfl sl27 ty22 rfl rfl rfl rfl (fun _ => (.inl ⟨rfl, rfl, rfl⟩)) h11 (fun _ => kp) (fun b12 => ?_)
  refine ow_batch [.p] rfl ?_
  refine ow_nil ?_
  refine x_qs ?_
  refine c_seq ?_
  refine c_seq ?_
  refine c_reg ?_
  refine ow_batch [.p] rfl ?_
  refine ow_nil ?_
  refine x_qs ?_
  refine c_block ?_
  refine CW.at (loopI3 (fun (l46 : List (List Int)) (F47 : List Nat) (i48 : Int) => St w M0 [Res.own (eList (eList (eVal (Value.int .i64) (fun _ => rfl)) 3) 22) F47 l46 [.slice (some ⟨b12, 0, none⟩) l10.length l10.length]]) (fun (l46 : List (List Int)) (F47 : List Nat) (i48 : Int) => [(0, .slice a_0 p0.length c_0), (3, .slice (some ⟨b12, 0, none⟩) l10.length l10.length), (4, .int .i64 i48)]) (fun kk => fun (l46 : List (List Int)) (F47 : List Nat) (i48 : Int) => laws_toIntSS_L1 p0 kk l46 i48 = some r) (fun _ _ _ H => ?_) (fun k1 ihk1 l46 F47 i48 H => ?_) Fuel (l10) ([b12]) (0) (H)) (fun _ h => St.sel [0] rfl rfl h) ⟨rfl, rfl, rfl,  trivial⟩
  · unfold laws_toIntSS_L1 at H
    exact absurd H (by simp)
  · unfold laws_toIntSS_L1 at H
    refine c_seq ?_
    refine c_seq ?_
    refine c_reg ?_
    refine ow_batch [.p, .p, .lenS 27 22 sl27, .p] rfl ?_
    refine ow_nil ?_
    refine x_qs ?_
    refine c_if rfl (fun hb => ?_) (fun hb => ?_)
    · have H := of_if_t hb H
      refine c_skip ?_
      refine x_qs ?_
      refine c_seq ?_
      refine c_block ?_
      refine c_reg ?_
      refine ow_batch [.p, .p, .p, .p] rfl ?_
      obtain ⟨e82, h83, H⟩ := of_bind H
      refine ow_ixB rfl rfl rfl rfl rfl sl27 ty22 rfl g0 h83 (fun q86 c87 hd84 hA85 => ?_)
      obtain ⟨a88, c89, rfl⟩ := rd_sl1 hd84
      refine ow_r rfl (dstOk_lt rfl) (ry_load1 rfl rfl ty22 (at_bor bor hA85)) ?_
      obtain ⟨y90, h91, H⟩ := of_bind H
      refine ow_callS rfl fn9 rfl rfl rfl rfl (fun w1 hw1 => laws_toIntS_ok w1  h91 (hw1.carve [] rfl rfl) (rds_bor hd84 w1 hw1)) (fun v92 w1 w2 hw1 hR94 => ?_)
      obtain ⟨a95, n96, c97, F98, rfl, hS93⟩ := hR94
      obtain rfl := own_nS (i := 0) hS93 rfl
      refine ⟨St w M0 [_, _], hw1.comp [] rfl rfl hS93, fun _ _ => trivial, ?_⟩
      obtain ⟨e99, h100, H⟩ := of_bind H
      refine ow_ex4 rfl (fun w1 hw1 => foc (r := 0) hw1 rfl h100) (fun b102 G103 F104 c105 => ?_)
      refine ow_fact rfl (fun w1 hw1 => hw1.1) (fun q101 => ?_)
      obtain ⟨ha106, hn107⟩ := q101
      refine ow_st (C' := St w M0 [_, _, _, _]) rfl (fun w1 hw1 => hw1.2) ?_
      refine ow_ex2 rfl (fun w1 hw1 => opn_sl (i := 3) hw1 rfl) (fun a108 c109 => ?_)
      refine ow_fact rfl (fun w1 hw1 => hw1.1) (fun q110 => ?_)
      subst q110
      refine ow_st (C' := St w M0 [_, _, _, _]) rfl (fun w1 hw1 => hw1.2) ?_
      refine ow_ixH rfl rfl rfl rfl rfl sl27 ty22 rfl (holeIn (p := 2) rfl) hn107 ha106 (idx_some h100).1 ?_
      refine ow_storeH (off := 0) [.slice a95 y90.length c97] (p := 2) (c' := [_]) rfl rfl rfl rfl rfl (by first | rfl | simp only [add_lit, add_add, add_zero]) rfl ty22 rfl rfl (by intro u hu; simp only [List.mem_cons, List.not_mem_nil, or_false] at hu; rcases hu with rfl <;> rfl) rfl rfl rfl kp ?_
      refine ow_nil ?_
      refine x_qb ?_
      refine x_qs ?_
      refine c_reg ?_
      refine ow_batch [.p, .p, .p] rfl ?_
      refine ow_nil ?_
      refine xw_ex (fun w1 hw1 => unf (p := 2) (q := 1) hw1 rfl rfl rfl hn107 ha106) (fun F111 => ?_)
      refine xw_st (C' := St w M0 [_, _, _, _, _]) (fun _ h => h) ?_
      exact x_ql (RW.at (ihk1 ((l46.set i48.toNat y90)) (F111) (IntKind.i64.wrap (i48 + 1)) (H)) (fun _ h => St.sel [4] rfl rfl h) ⟨rfl, rfl, rfl, trivial⟩)
    · have H := of_if_f hb H
      refine c_exit ?_
      refine x_qs_exit ?_
      refine x_ql_exit ?_
      refine x_qb_here ?_
      refine x_qs ?_
      refine c_seq ?_
      refine c_reg ?_
      refine ow_batch [.p, .p] rfl ?_
      refine ow_nil ?_
      refine x_qs ?_
      refine c_ret ?_
      exact x_retR (rs := [.tmp 2]) (vs := [.slice (some ⟨b12, 0, none⟩) l10.length l10.length]) rfl ⟨rfl, trivial⟩ (fun w' hw' => by
          obtain rfl := of_some H
          exact ⟨_, rfl, (some ⟨b12, 0, none⟩), l10.length, l10.length, F47, rfl, hw'.sel [0] rfl rfl⟩)

set_option maxHeartbeats 4000000 in
set_option maxRecDepth 100000 in
theorem spec_l1In_ok (w : World) {p0 : Int} {p1 : Int} {p2 : Int}  {r : Bool} (H : spec_l1In p0 p1 p2 = some r)   :
    Calls Tryd.prog 94 #[.int .i64 p0, .int .i64 p1, .int .i64 p2] w (fun en w' => en = .returned (.bool r) ∧ Ext [] w w') := by
  unfold spec_l1In at H
  refine f_enter (vs := [.int .i64 p0, .int .i64 p1, .int .i64 p2]) Tryd.func94 rfl Tryd.ntmps94 rfl (St.init w []) ?_
  refine c_seq ?_
  refine c_reg ?_
  refine ow_batch [.p] rfl ?_
  refine ow_nil ?_
  refine x_qs ?_
  refine c_seq ?_
  refine c_reg ?_
  refine ow_batch [.p, .p, .p, .p] rfl ?_
  refine ow_cut [(14, .bool ((decide (p0 ≥ p1)) && (decide (p0 ≤ p2)))), (6, .bool false)] 4 ?_ (fun key => OW.sub (R := [(0, .int .i64 p0), (2, .int .i64 p2), (6, .bool false), (10, .bool (decide (p0 ≥ p1)))]) ?_ ⟨rfl, rfl, rfl, rfl, trivial⟩)
  · refine ow_batch [.p] rfl ?_
    refine ow_nil ?_
    refine x_qs ?_
    refine c_ret ?_
    exact x_retR (rs := [.tmp 6]) (vs := [.bool ((decide (p0 ≥ p1)) && (decide (p0 ≤ p2)))]) rfl ⟨rfl, trivial⟩ (fun w' hw' => by
        obtain rfl := of_some H
        exact ⟨rfl, hw'.ext⟩)
  · generalize (decide (p0 ≥ p1)) = t11 at key ⊢
    cases t11
    · refine ow_batch [.p, .p, .p, .p] rfl ?_
      exact OW.sub key ⟨rfl, rfl, trivial⟩
    · refine ow_batch [.p, .p, .p] rfl ?_
      refine ow_batch [.p] rfl ?_
      exact OW.sub key ⟨rfl, rfl, trivial⟩

set_option maxHeartbeats 4000000 in
set_option maxRecDepth 100000 in
theorem spec_Digits_ok (w : World) {p0 : Int}  {r : List UInt8} (H : spec_Digits p0 = some r)   :
    Calls Tryd.prog 35 #[.int .i64 p0] w (fun en w' => en = .returned (vS r) ∧ Ext [] w w') := by
  unfold spec_Digits at H
  refine f_enter (vs := [.int .i64 p0]) Tryd.func35 rfl Tryd.ntmps35 rfl (St.init w []) ?_
  refine c_seq ?_
  refine c_reg ?_
  refine ow_batch [.p] rfl ?_
  refine ow_nil ?_
  refine x_qs ?_
  refine c_seq ?_
  refine c_seq ?_
  refine c_reg ?_
  refine ow_batch [.p, .p] rfl ?_
  refine ow_nil ?_
  refine x_qs ?_
  refine c_if rfl (fun hb => ?_) (fun hb => ?_)
  · have H := of_if_t hb H
    refine c_seq ?_
    refine c_reg ?_
    refine ow_batch [.p] rfl ?_
    refine ow_nil ?_
    refine x_qs ?_
    refine c_ret ?_
    refine x_qs_ret ?_
    exact x_retR (rs := [.tmp 2]) (vs := [vS ([48] : List UInt8)]) rfl ⟨rfl, trivial⟩ (fun w' hw' => by
        obtain rfl := of_some H
        exact ⟨rfl, hw'.ext⟩)
  · have H := of_if_f hb H
    refine c_skip ?_
    refine x_qs ?_
    refine c_seq ?_
    refine c_reg ?_
    refine ow_batch [.p, .p, .p] rfl ?_
    refine ow_nil ?_
    refine x_qs ?_
    refine c_seq ?_
    refine c_reg ?_
    refine ow_batch [.p] rfl ?_
    refine ow_nil ?_
    refine x_qs ?_
    refine c_seq ?_
    refine c_block ?_
    refine CW.at (loopI2 (fun (i17 : Int) (s18 : List UInt8) => St w [] []) (fun (i17 : Int) (s18 : List UInt8) => [(0, .int .i64 i17), (3, .bool (decide (p0 < 0))), (4, vS s18)]) (fun kk => fun (i17 : Int) (s18 : List UInt8) => spec_Digits_L1 p0 kk i17 s18 = some r) (fun _ _ H => ?_) (fun k1 ihk1 i17 s18 H => ?_) Fuel (p0) (([] : List UInt8)) (H)) (fun _ h => St.sel [] rfl rfl h) ⟨rfl, rfl, rfl,  trivial⟩
    · unfold spec_Digits_L1 at H
      exact absurd H (by simp)
    · unfold spec_Digits_L1 at H
      refine c_seq ?_
      refine c_seq ?_
      refine c_reg ?_
      refine ow_batch [.p, .p] rfl ?_
      refine ow_nil ?_
      refine x_qs ?_
      refine c_if rfl (fun hb => ?_) (fun hb => ?_)
      · have H := of_if_t hb H
        refine c_skip ?_
        refine x_qs ?_
        refine c_block ?_
        refine c_seq ?_
        refine c_reg ?_
        refine ow_batch [.p, .p, .p] rfl ?_
        refine ow_nil ?_
        refine x_qs ?_
        refine c_join1 (fun (i25 : Int) => St w [] []) (fun (i25 : Int) => [(0, .int .i64 i17), (3, .bool (decide (p0 < 0))), (4, vS s18), (5, .int .i64 i25)]) (fun (i25 : Int) => spec_Digits_J1 s18 (spec_Digits_L1 p0 k1) i17 i25 = some r) (fun i25 H => ?_) (fun J1 => ?_)
        · unfold spec_Digits_J1 at H
          refine c_seq ?_
          refine c_reg ?_
          refine ow_batch [.p, .p, .cv 3 5 .u8 us3 in5] rfl ?_
          refine ow_blit (val := Value.int .u8) (h1 := fun _ => rfl) [IntKind.u8.wrap (IntKind.i64.wrap (48 + i25))] [(0, [.int .u8 (IntKind.u8.wrap (IntKind.i64.wrap (48 + i25)))])] rfl rfl rfl rfl rfl sl122 ty5 rfl rfl rfl ⟨rfl, rfl, Nat.le_of_ble_eq_true rfl,  trivial⟩ rfl rfl (fun _ => kp) (fun b26 => ?_)
          refine ow_r rfl (dstOk_lt rfl) (ry_bts (xs := ([IntKind.u8.wrap (IntKind.i64.wrap (48 + i25))] : List Int)) rfl rfl sl122 in5 st9 (fun w1 hw1 => rds_own (e := eList (eVal (Value.int .u8) (fun _ => rfl)) 5) (r := 0) rfl w1 hw1)) ?_
          refine ow_batch [.p] rfl ?_
          obtain ⟨s27, h28, H⟩ := of_bind H
          refine ow_r rfl (dstOk_lt rfl) (ry_sadd rfl rfl rfl h28) ?_
          refine ow_batch [.p] rfl ?_
          refine ow_nil ?_
          refine x_qs ?_
          refine c_reg ?_
          refine ow_batch [.p, .p, .p] rfl ?_
          refine ow_nil ?_
          refine x_qb ?_
          exact x_ql (RW.at (ihk1 (IntKind.i64.wrap (Int.tdiv i17 10)) (s27) (H)) (fun _ h => St.sel [] rfl rfl h) ⟨rfl, rfl, rfl, trivial⟩)
        · refine c_seq ?_
          refine c_reg ?_
          refine ow_batch [.p, .p] rfl ?_
          refine ow_nil ?_
          refine x_qs ?_
          refine c_if rfl (fun hb => ?_) (fun hb => ?_)
          · have H := of_if_t hb H
            refine c_reg ?_
            refine ow_batch [.p, .p, .p] rfl ?_
            refine ow_nil ?_
            exact XW.at (J1 (IntKind.i64.wrap (0 - (Int.tmod i17 10))) (H)) (fun _ h => St.sel [] rfl rfl h) ⟨rfl, rfl, rfl, rfl, trivial⟩
          · have H := of_if_f hb H
            refine c_skip ?_
            exact XW.at (J1 (Int.tmod i17 10) (H)) (fun _ h => St.sel [] rfl rfl h) ⟨rfl, rfl, rfl, rfl, trivial⟩
      · have H := of_if_f hb H
        refine c_exit ?_
        refine x_qs_exit ?_
        refine x_ql_exit ?_
        refine x_qb_here ?_
        refine x_qs ?_
        refine c_seq ?_
        refine c_seq ?_
        refine c_reg ?_
        refine ow_batch [.p] rfl ?_
        refine ow_nil ?_
        refine x_qs ?_
        refine c_if rfl (fun hb => ?_) (fun hb => ?_)
        · have H := of_if_t hb H
          refine c_seq ?_
          refine c_reg ?_
          refine ow_batch [.p] rfl ?_
          obtain ⟨s29, h30, H⟩ := of_bind H
          refine ow_r rfl (dstOk_lt rfl) (ry_sadd rfl rfl rfl h30) ?_
          refine ow_batch [.p] rfl ?_
          refine ow_nil ?_
          refine x_qs ?_
          refine c_ret ?_
          refine x_qs_ret ?_
          exact x_retR (rs := [.tmp 2]) (vs := [vS s29]) rfl ⟨rfl, trivial⟩ (fun w' hw' => by
              obtain rfl := of_some H
              exact ⟨rfl, hw'.ext⟩)
        · have H := of_if_f hb H
          refine c_skip ?_
          refine x_qs ?_
          refine c_seq ?_
          refine c_reg ?_
          refine ow_batch [.p, .p] rfl ?_
          refine ow_nil ?_
          refine x_qs ?_
          refine c_ret ?_
          exact x_retR (rs := [.tmp 2]) (vs := [vS s18]) rfl ⟨rfl, trivial⟩ (fun w' hw' => by
              obtain rfl := of_some H
              exact ⟨rfl, hw'.ext⟩)

set_option maxHeartbeats 4000000 in
set_option maxRecDepth 100000 in
theorem impl_within_ok (w : World) {p0 : Int} {p1 : Int} {p2 : Int}  {r : Bool} (H : impl_within p0 p1 p2 = some r)   :
    Calls Tryd.prog 95 #[.int .i64 p0, .int .i64 p1, .int .i64 p2] w (fun en w' => en = .returned (.bool r) ∧ Ext [] w w') := by
  unfold impl_within at H
  refine f_enter (vs := [.int .i64 p0, .int .i64 p1, .int .i64 p2]) Tryd.func95 rfl Tryd.ntmps95 rfl (St.init w []) ?_
  refine c_seq ?_
  refine c_reg ?_
  refine ow_batch [.p] rfl ?_
  refine ow_nil ?_
  refine x_qs ?_
  refine c_seq ?_
  refine c_reg ?_
  refine ow_batch [.p, .p, .p, .p] rfl ?_
  refine ow_cut [(14, .bool ((decide (p0 ≥ p1)) && (decide (p0 ≤ p2)))), (6, .bool false)] 4 ?_ (fun key => OW.sub (R := [(0, .int .i64 p0), (2, .int .i64 p2), (6, .bool false), (10, .bool (decide (p0 ≥ p1)))]) ?_ ⟨rfl, rfl, rfl, rfl, trivial⟩)
  · refine ow_batch [.p] rfl ?_
    refine ow_nil ?_
    refine x_qs ?_
    refine c_ret ?_
    exact x_retR (rs := [.tmp 6]) (vs := [.bool ((decide (p0 ≥ p1)) && (decide (p0 ≤ p2)))]) rfl ⟨rfl, trivial⟩ (fun w' hw' => by
        obtain rfl := of_some H
        exact ⟨rfl, hw'.ext⟩)
  · generalize (decide (p0 ≥ p1)) = t11 at key ⊢
    cases t11
    · refine ow_batch [.p, .p, .p, .p] rfl ?_
      exact OW.sub key ⟨rfl, rfl, trivial⟩
    · refine ow_batch [.p, .p, .p] rfl ?_
      refine ow_batch [.p] rfl ?_
      exact OW.sub key ⟨rfl, rfl, trivial⟩

set_option maxHeartbeats 4000000 in
set_option maxRecDepth 100000 in
theorem impl_Digits_ok (w : World) {p0 : Int}  {r : List UInt8} (H : impl_Digits p0 = some r)  (gT : (ePow10 Tryd.prog).rd w [] () []) :
    Calls Tryd.prog 45 #[.int .i64 p0] w (fun en w' => en = .returned (vS r) ∧ Ext [] w w') := by
  unfold impl_Digits at H
  refine f_enter (vs := [.int .i64 p0]) Tryd.func45 rfl Tryd.ntmps45 rfl (St.init w []) ?_
  refine c_seq ?_
  refine c_reg ?_
  refine ow_batch [.p] rfl ?_
  refine ow_nil ?_
  refine x_qs ?_
  refine c_seq ?_
  refine c_reg ?_
  refine ow_batch [.p] rfl ?_
  obtain ⟨s10, h11, H⟩ := of_bind H
  refine ow_q rfl rfl (dstOk_lt rfl) (qy_call rfl fn98 rfl (fun w1 hw1 => itoa_ok Tryd.laysM171 w1 h11 (rds_bor gT w1 hw1))) (fun _ _ => trivial) ?_
  refine ow_batch [.p] rfl ?_
  refine ow_nil ?_
  refine x_qs ?_
  refine c_ret ?_
  exact x_retR (rs := [.tmp 2]) (vs := [vS s10]) rfl ⟨rfl, trivial⟩ (fun w' hw' => by
      obtain rfl := of_some H
      exact ⟨rfl, hw'.ext⟩)

set_option maxHeartbeats 4000000 in
set_option maxRecDepth 100000 in
theorem laws_eqIntS_ok (w : World) {p0 : List Int} {p1 : List Int} {a_0 : Option Addr} {n_0 c_0 : Nat} {a_1 : Option Addr} {n_1 c_1 : Nat} {r : Bool} (H : laws_eqIntS p0 p1 = some r)  (g0 : (eList (eVal (Value.int .i64) (fun _ => rfl)) 3).rd w [] p0 [.slice a_0 n_0 c_0]) (g1 : (eList (eVal (Value.int .i64) (fun _ => rfl)) 3).rd w [] p1 [.slice a_1 n_1 c_1]) :
    Calls Tryd.prog 11 #[.slice a_0 n_0 c_0, .slice a_1 n_1 c_1] w (fun en w' => en = .returned (.bool r) ∧ Ext [] w w') := by
  obtain rfl := rd_n g0
  obtain rfl := rd_n g1
  unfold laws_eqIntS at H
  refine f_enter (vs := [.slice a_0 p0.length c_0, .slice a_1 p1.length c_1]) Tryd.func11 rfl Tryd.ntmps11 rfl (St.init w []) ?_
  refine c_seq ?_
  refine c_reg ?_
  refine ow_batch [.p] rfl ?_
  refine ow_nil ?_
  refine x_qs ?_
  refine c_seq ?_
  refine c_seq ?_
  refine c_reg ?_
  refine ow_batch [.p, .lenS 22 3 sl22, .p, .lenS 22 3 sl22, .p] rfl ?_
  refine ow_nil ?_
  refine x_qs ?_
  refine c_if rfl (fun hb => ?_) (fun hb => ?_)
  · have H := of_if_t hb H
    refine c_seq ?_
    refine c_reg ?_
    refine ow_batch [.p] rfl ?_
    refine ow_nil ?_
    refine x_qs ?_
    refine c_ret ?_
    refine x_qs_ret ?_
    exact x_retR (rs := [.tmp 4]) (vs := [.bool false]) rfl ⟨rfl, trivial⟩ (fun w' hw' => by
        obtain rfl := of_some H
        exact ⟨rfl, hw'.ext⟩)
  · have H := of_if_f hb H
    refine c_skip ?_
    refine x_qs ?_
    refine c_seq ?_
    refine c_seq ?_
    refine c_reg ?_
    refine ow_batch [.p] rfl ?_
    refine ow_nil ?_
    refine x_qs ?_
    refine c_block ?_
    refine CW.at (loopI1 (fun (i15 : Int) => St w [] []) (fun (i15 : Int) => [(0, .slice a_0 p0.length c_0), (1, .slice a_1 p1.length c_1), (5, .int .i64 i15)]) (fun kk => fun (i15 : Int) => laws_eqIntS_L1 p0 p1 kk i15 = some r) (fun _ H => ?_) (fun k1 ihk1 i15 H => ?_) Fuel (0) (H)) (fun _ h => St.sel [] rfl rfl h) ⟨rfl, rfl, rfl,  trivial⟩
    · unfold laws_eqIntS_L1 at H
      exact absurd H (by simp)
    · unfold laws_eqIntS_L1 at H
      refine c_seq ?_
      refine c_seq ?_
      refine c_reg ?_
      refine ow_batch [.p, .p, .lenS 22 3 sl22, .p] rfl ?_
      refine ow_nil ?_
      refine x_qs ?_
      refine c_if rfl (fun hb => ?_) (fun hb => ?_)
      · have H := of_if_t hb H
        refine c_skip ?_
        refine x_qs ?_
        refine c_seq ?_
        refine c_block ?_
        refine c_seq ?_
        refine c_regQ mixed (by kernel_rfl) ?_
        refine ow_batch [.p, .p] rfl ?_
        obtain ⟨e21, h22, H⟩ := of_bind H
        refine ow_ixE (e := eVal (Value.int .i64) (fun _ => rfl)) (xs := p0) (j := i15) rfl rfl rfl rfl rfl sl22 ty3 rfl (fun w1 hw1 => rds_bor g0 w1 hw1) h22 (by rw [Nat.mul_one]) ?_
        refine ow_r rfl (dstOk_lt rfl) (ry_load1 rfl rfl ty3 (at_elV (fun w1 hw1 => rds_bor g0 w1 hw1) h22)) ?_
        refine ow_batch [.p, .p] rfl ?_
        obtain ⟨e23, h24, H⟩ := of_bind H
        refine ow_ixE (e := eVal (Value.int .i64) (fun _ => rfl)) (xs := p1) (j := i15) rfl rfl rfl rfl rfl sl22 ty3 rfl (fun w1 hw1 => rds_bor g1 w1 hw1) h24 (by rw [Nat.mul_one]) ?_
        refine ow_r rfl (dstOk_lt rfl) (ry_load1 rfl rfl ty3 (at_elV (fun w1 hw1 => rds_bor g1 w1 hw1) h24)) ?_
        refine ow_batch [.p] rfl ?_
        refine ow_nilQ ?_
        refine x_qs ?_
        refine c_if rfl (fun hb => ?_) (fun hb => ?_)
        · have H := of_if_t hb H
          refine c_seq ?_
          refine c_reg ?_
          refine ow_batch [.p] rfl ?_
          refine ow_nil ?_
          refine x_qs ?_
          refine c_ret ?_
          refine x_qb_ret ?_
          refine x_qs_ret ?_
          refine x_ql_ret ?_
          refine x_qb_ret ?_
          refine x_qs_ret ?_
          exact x_retR (rs := [.tmp 4]) (vs := [.bool false]) rfl ⟨rfl, trivial⟩ (fun w' hw' => by
              obtain rfl := of_some H
              exact ⟨rfl, hw'.ext⟩)
        · have H := of_if_f hb H
          refine c_skip ?_
          refine x_qb ?_
          refine x_qs ?_
          refine c_reg ?_
          refine ow_batch [.p, .p, .p] rfl ?_
          refine ow_nil ?_
          exact x_ql (RW.at (ihk1 (IntKind.i64.wrap (i15 + 1)) (H)) (fun _ h => St.sel [] rfl rfl h) ⟨rfl, rfl, rfl, trivial⟩)
      · have H := of_if_f hb H
        refine c_exit ?_
        refine x_qs_exit ?_
        refine x_ql_exit ?_
        refine x_qb_here ?_
        refine x_qs ?_
        refine c_seq ?_
        refine c_reg ?_
        refine ow_batch [.p] rfl ?_
        refine ow_nil ?_
        refine x_qs ?_
        refine c_ret ?_
        exact x_retR (rs := [.tmp 4]) (vs := [.bool true]) rfl ⟨rfl, trivial⟩ (fun w' hw' => by
            obtain rfl := of_some H
            exact ⟨rfl, hw'.ext⟩)

set_option maxHeartbeats 4000000 in
set_option maxRecDepth 100000 in
theorem laws_eqIntSS_ok (w : World) {p0 : List (List Int)} {p1 : List (List Int)} {a_0 : Option Addr} {n_0 c_0 : Nat} {a_1 : Option Addr} {n_1 c_1 : Nat} {r : Bool} (H : laws_eqIntSS p0 p1 = some r)  (g0 : (eList (eList (eVal (Value.int .i64) (fun _ => rfl)) 3) 22).rd w [] p0 [.slice a_0 n_0 c_0]) (g1 : (eList (eList (eVal (Value.int .i64) (fun _ => rfl)) 3) 22).rd w [] p1 [.slice a_1 n_1 c_1]) :
    Calls Tryd.prog 49 #[.slice a_0 n_0 c_0, .slice a_1 n_1 c_1] w (fun en w' => en = .returned (.bool r) ∧ Ext [] w w') := by
  obtain rfl := rd_n g0
  obtain rfl := rd_n g1
  unfold laws_eqIntSS at H
  refine f_enter (vs := [.slice a_0 p0.length c_0, .slice a_1 p1.length c_1]) Tryd.func49 rfl Tryd.ntmps49 rfl (St.init w []) ?_
  refine c_seq ?_
  refine c_reg ?_
  refine ow_batch [.p] rfl ?_
  refine ow_nil ?_
  refine x_qs ?_
  refine c_seq ?_
  refine c_seq ?_
  refine c_reg ?_
  refine ow_batch [.p, .lenS 27 22 sl27, .p, .lenS 27 22 sl27, .p] rfl ?_
  refine ow_nil ?_
  refine x_qs ?_
  refine c_if rfl (fun hb => ?_) (fun hb => ?_)
  · have H := of_if_t hb H
    refine c_seq ?_
    refine c_reg ?_
    refine ow_batch [.p] rfl ?_
    refine ow_nil ?_
    refine x_qs ?_
    refine c_ret ?_
    refine x_qs_ret ?_
    exact x_retR (rs := [.tmp 4]) (vs := [.bool false]) rfl ⟨rfl, trivial⟩ (fun w' hw' => by
        obtain rfl := of_some H
        exact ⟨rfl, hw'.ext⟩)
  · have H := of_if_f hb H
    refine c_skip ?_
    refine x_qs ?_
    refine c_seq ?_
    refine c_seq ?_
    refine c_reg ?_
    refine ow_batch [.p] rfl ?_
    refine ow_nil ?_
    refine x_qs ?_
    refine c_block ?_
    refine CW.at (loopI1 (fun (i29 : Int) => St w [] []) (fun (i29 : Int) => [(0, .slice a_0 p0.length c_0), (1, .slice a_1 p1.length c_1), (5, .int .i64 i29)]) (fun kk => fun (i29 : Int) => laws_eqIntSS_L1 p0 p1 kk i29 = some r) (fun _ H => ?_) (fun k1 ihk1 i29 H => ?_) Fuel (0) (H)) (fun _ h => St.sel [] rfl rfl h) ⟨rfl, rfl, rfl,  trivial⟩
    · unfold laws_eqIntSS_L1 at H
      exact absurd H (by simp)
    · unfold laws_eqIntSS_L1 at H
      refine c_seq ?_
      refine c_seq ?_
      refine c_reg ?_
      refine ow_batch [.p, .p, .lenS 27 22 sl27, .p] rfl ?_
      refine ow_nil ?_
      refine x_qs ?_
      refine c_if rfl (fun hb => ?_) (fun hb => ?_)
      · have H := of_if_t hb H
        refine c_skip ?_
        refine x_qs ?_
        refine c_seq ?_
        refine c_block ?_
        refine c_seq ?_
        refine c_regQ mixed (by kernel_rfl) ?_
        refine ow_batch [.p, .p] rfl ?_
        obtain ⟨e49, h50, H⟩ := of_bind H
        refine ow_ixB rfl rfl rfl rfl rfl sl27 ty22 rfl g0 h50 (fun q53 c54 hd51 hA52 => ?_)
        obtain ⟨a55, c56, rfl⟩ := rd_sl1 hd51
        refine ow_r rfl (dstOk_lt rfl) (ry_load1 rfl rfl ty22 (at_bor bor hA52)) ?_
        refine ow_batch [.p, .p] rfl ?_
        obtain ⟨e57, h58, H⟩ := of_bind H
        refine ow_ixB rfl rfl rfl rfl rfl sl27 ty22 rfl g1 h58 (fun q61 c62 hd59 hA60 => ?_)
        obtain ⟨a63, c64, rfl⟩ := rd_sl1 hd59
        refine ow_r rfl (dstOk_lt rfl) (ry_load1 rfl rfl ty22 (at_bor bor hA60)) ?_
        obtain ⟨y65, h66, H⟩ := of_bind H
        refine ow_q rfl rfl (dstOk_lt rfl) (qy_call rfl fn11 rfl (fun w1 hw1 => laws_eqIntS_ok w1  h66 (rds_bor hd51 w1 hw1) (rds_bor hd59 w1 hw1))) (fun _ _ => trivial) ?_
        refine ow_batch [.p] rfl ?_
        refine ow_nilQ ?_
        refine x_qs ?_
        refine c_if rfl (fun hb => ?_) (fun hb => ?_)
        · have H := of_if_t hb H
          refine c_seq ?_
          refine c_reg ?_
          refine ow_batch [.p] rfl ?_
          refine ow_nil ?_
          refine x_qs ?_
          refine c_ret ?_
          refine x_qb_ret ?_
          refine x_qs_ret ?_
          refine x_ql_ret ?_
          refine x_qb_ret ?_
          refine x_qs_ret ?_
          exact x_retR (rs := [.tmp 4]) (vs := [.bool false]) rfl ⟨rfl, trivial⟩ (fun w' hw' => by
              obtain rfl := of_some H
              exact ⟨rfl, hw'.ext⟩)
        · have H := of_if_f hb H
          refine c_skip ?_
          refine x_qb ?_
          refine x_qs ?_
          refine c_reg ?_
          refine ow_batch [.p, .p, .p] rfl ?_
          refine ow_nil ?_
          exact x_ql (RW.at (ihk1 (IntKind.i64.wrap (i29 + 1)) (H)) (fun _ h => St.sel [] rfl rfl h) ⟨rfl, rfl, rfl, trivial⟩)
      · have H := of_if_f hb H
        refine c_exit ?_
        refine x_qs_exit ?_
        refine x_ql_exit ?_
        refine x_qb_here ?_
        refine x_qs ?_
        refine c_seq ?_
        refine c_reg ?_
        refine ow_batch [.p] rfl ?_
        refine ow_nil ?_
        refine x_qs ?_
        refine c_ret ?_
        exact x_retR (rs := [.tmp 4]) (vs := [.bool true]) rfl ⟨rfl, trivial⟩ (fun w' hw' => by
            obtain rfl := of_some H
            exact ⟨rfl, hw'.ext⟩)

set_option maxHeartbeats 4000000 in
set_option maxRecDepth 100000 in
theorem spec_l16Power_ok (w : World) {p0 : Int}  {r : Int} (H : spec_l16Power p0 = some r)   :
    Calls Tryd.prog 70 #[.int .i64 p0] w (fun en w' => en = .returned (.int .i64 r) ∧ Ext [] w w') := by
  unfold spec_l16Power at H
  refine f_enter (vs := [.int .i64 p0]) Tryd.func70 rfl Tryd.ntmps70 rfl (St.init w []) ?_
  refine c_seq ?_
  refine c_reg ?_
  refine ow_batch [.p] rfl ?_
  refine ow_nil ?_
  refine x_qs ?_
  refine c_seq ?_
  refine c_reg ?_
  refine ow_batch [.p] rfl ?_
  refine ow_nil ?_
  refine x_qs ?_
  refine c_seq ?_
  refine c_seq ?_
  refine c_reg ?_
  refine ow_batch [.p] rfl ?_
  refine ow_nil ?_
  refine x_qs ?_
  refine c_block ?_
  refine CW.at (loopI2 (fun (i12 : Int) (i13 : Int) => St w [] []) (fun (i12 : Int) (i13 : Int) => [(0, .int .i64 p0), (3, .int .i64 i12), (4, .int .i64 i13)]) (fun kk => fun (i12 : Int) (i13 : Int) => spec_l16Power_L1 p0 kk i12 i13 = some r) (fun _ _ H => ?_) (fun k1 ihk1 i12 i13 H => ?_) Fuel (1) (0) (H)) (fun _ h => St.sel [] rfl rfl h) ⟨rfl, rfl, rfl,  trivial⟩
  · unfold spec_l16Power_L1 at H
    exact absurd H (by simp)
  · unfold spec_l16Power_L1 at H
    refine c_seq ?_
    refine c_seq ?_
    refine c_reg ?_
    refine ow_batch [.p, .p, .p] rfl ?_
    refine ow_nil ?_
    refine x_qs ?_
    refine c_if rfl (fun hb => ?_) (fun hb => ?_)
    · have H := of_if_t hb H
      refine c_skip ?_
      refine x_qs ?_
      refine c_seq ?_
      refine c_block ?_
      refine c_reg ?_
      refine ow_batch [.p, .p, .p] rfl ?_
      refine ow_nil ?_
      refine x_qb ?_
      refine x_qs ?_
      refine c_reg ?_
      refine ow_batch [.p, .p, .p] rfl ?_
      refine ow_nil ?_
      exact x_ql (RW.at (ihk1 (IntKind.i64.wrap (i12 * 2)) (IntKind.i64.wrap (i13 + 1)) (H)) (fun _ h => St.sel [] rfl rfl h) ⟨rfl, rfl, rfl, trivial⟩)
    · have H := of_if_f hb H
      refine c_exit ?_
      refine x_qs_exit ?_
      refine x_ql_exit ?_
      refine x_qb_here ?_
      refine x_qs ?_
      refine c_seq ?_
      refine c_reg ?_
      refine ow_batch [.p, .p] rfl ?_
      refine ow_nil ?_
      refine x_qs ?_
      refine c_ret ?_
      exact x_retR (rs := [.tmp 2]) (vs := [.int .i64 i12]) rfl ⟨rfl, trivial⟩ (fun w' hw' => by
          obtain rfl := of_some H
          exact ⟨rfl, hw'.ext⟩)

set_option maxHeartbeats 4000000 in
set_option maxRecDepth 100000 in
theorem laws_szWindow_ok (w : World) {p0 : Tlaws_Window} {p1 : Int} {cs0 : List Value} {r : Int} (H : laws_szWindow p0 p1 = some r)  (g0 : (eTlaws_Window).rd w [] p0 cs0) :
    Calls Tryd.prog 12 #[.agg cs0.toArray, .int .i64 p1] w (fun en w' => en = .returned (.int .i64 r) ∧ Ext [] w w') := by
  obtain ⟨c10, rfl, g11⟩ := rdo_Tlaws_Window g0
  obtain ⟨a12, c13, rfl⟩ := rd_sl1 g11
  unfold laws_szWindow at H
  refine f_enter (vs := [.agg #[.slice a12 p0.Rows_.length c13], .int .i64 p1]) Tryd.func12 rfl Tryd.ntmps12 rfl (St.init w []) ?_
  refine c_seq ?_
  refine c_reg ?_
  refine ow_box (cs := [.slice a12 p0.Rows_.length c13]) rfl rfl rfl rfl rfl rfl (fun _ => kp) (fun b14 => ?_)
  refine ow_batch [.p] rfl ?_
  refine ow_nil ?_
  refine x_qs ?_
  refine c_seq ?_
  refine c_reg ?_
  refine ow_batch [.fa 29 0 0 fa29_0] rfl ?_
  refine ow_r rfl (dstOk_lt rfl) (ry_box1 (off := 0) rfl rfl ty27 (boxIn (i := 0) rfl) rfl) ?_
  refine ow_batch [.p] rfl ?_
  obtain ⟨y15, h16, H⟩ := of_bind H
  refine ow_q rfl rfl (dstOk_lt rfl) (qy_call rfl fn38 rfl (fun w1 hw1 => laws_szIntSS_ok w1  h16 (rds_bor g11 w1 hw1))) (fun _ _ => trivial) ?_
  refine ow_batch [.p] rfl ?_
  refine ow_nil ?_
  refine x_qs ?_
  refine c_seq ?_
  refine c_seq ?_
  refine c_reg ?_
  refine ow_batch [.p, .p] rfl ?_
  refine ow_nil ?_
  refine x_qs ?_
  refine c_if rfl (fun hb => ?_) (fun hb => ?_)
  · have H := of_if_t hb H
    refine c_seq ?_
    refine c_reg ?_
    refine ow_batch [.p] rfl ?_
    refine ow_nil ?_
    refine x_qs ?_
    refine c_ret ?_
    refine x_qs_ret ?_
    exact x_retR (rs := [.tmp 4]) (vs := [.int .i64 (-1)]) rfl ⟨rfl, trivial⟩ (fun w' hw' => by
        obtain rfl := of_some H
        exact ⟨rfl, hw'.ext⟩)
  · have H := of_if_f hb H
    refine c_skip ?_
    refine x_qs ?_
    refine c_seq ?_
    refine c_reg ?_
    refine ow_batch [.p, .p] rfl ?_
    refine ow_nil ?_
    refine x_qs ?_
    refine c_ret ?_
    exact x_retR (rs := [.tmp 4]) (vs := [.int .i64 y15]) rfl ⟨rfl, trivial⟩ (fun w' hw' => by
        obtain rfl := of_some H
        exact ⟨rfl, hw'.ext⟩)

set_option maxHeartbeats 4000000 in
set_option maxRecDepth 100000 in
theorem laws_toWindow_ok (w : World) {M0 : List Nat} {p0 : Tlaws_Window} {cs0 : List Value} {r : Timpl_Window} (H : laws_toWindow p0 = some r) (HS : St w M0 [] w) (g0 : (eTlaws_Window).rd w M0 p0 cs0) :
    Calls Tryd.prog 14 #[.agg cs0.toArray] w (fun en w' => ∃ v, en = .returned v ∧ ∃ (a0 : Option Addr), ∃ (n0 : Nat), ∃ (c0 : Nat), ∃ (F0 : List Nat), v = .agg #[.slice a0 n0 c0] ∧ St w M0 [Res.own (eList (eList (eVal (Value.int .i64) (fun _ => rfl)) 3) 22) F0 r.Rows_ [.slice a0 n0 c0]] w') := by
  obtain ⟨c10, rfl, g11⟩ := rdo_Tlaws_Window g0
  obtain ⟨a12, c13, rfl⟩ := rd_sl1 g11
  unfold laws_toWindow at H
  refine f_enter (vs := [.agg #[.slice a12 p0.Rows_.length c13]]) Tryd.func14 rfl Tryd.ntmps14 rfl (HS) ?_
  refine c_seq ?_
  refine c_reg ?_
  refine ow_box (cs := [.slice a12 p0.Rows_.length c13]) rfl rfl rfl rfl rfl rfl (fun _ => kp) (fun b14 => ?_)
  refine ow_alloc rfl rfl rfl rfl ty32 (fun _ => kp) (fun b15 => ?_)
  refine ow_nil ?_
  refine x_qs ?_
  refine c_seq ?_
  refine c_reg ?_
  refine ow_alloc rfl rfl rfl rfl ty32 (fun _ => kp) (fun b16 => ?_)
  refine ow_nil ?_
  refine x_qs ?_
  refine c_seq ?_
  refine c_reg ?_
  refine ow_batch [.fa 29 0 0 fa29_0] rfl ?_
  refine ow_r rfl (dstOk_lt rfl) (ry_box1 (off := 0) rfl rfl ty27 (boxIn (i := 0) rfl) rfl) ?_
  obtain ⟨y17, h18, H⟩ := of_bind H
  refine ow_callS rfl fn43 rfl rfl rfl rfl (fun w1 hw1 => laws_toIntSS_ok w1  h18 (hw1.carve [] rfl rfl) (rds_bor g11 w1 hw1)) (fun v19 w1 w2 hw1 hR21 => ?_)
  obtain ⟨a22, n23, c24, F25, rfl, hS20⟩ := hR21
  obtain rfl := own_nS (i := 0) hS20 rfl
  refine ⟨St w M0 [_, _, _, _], hw1.comp [] rfl rfl hS20, fun _ _ => trivial, ?_⟩
  refine ow_batch [.fa 32 0 0 fa32_0] rfl ?_
  refine ow_storeC (off := 0) [.slice a22 y17.length c24] [_] (i := 2) rfl rfl rfl rfl rfl rfl ty27 rfl rfl (by intro u hu; simp only [List.mem_cons, List.not_mem_nil, or_false] at hu; rcases hu with rfl <;> rfl) rfl rfl rfl kp ?_
  refine ow_nil ?_
  refine x_qs ?_
  refine c_seq ?_
  refine c_reg ?_
  refine ow_r rfl (dstOk_lt rfl) (ry_box (off := 0) (ds := [.slice a22 y17.length c24]) rfl rfl ty32 (boxIn (i := 2) rfl) rfl rfl) ?_
  refine ow_storeC (off := 0) [.slice a22 y17.length c24] [_] (i := 1) rfl rfl rfl rfl rfl rfl ty32 rfl rfl (by intro u hu; simp only [List.mem_cons, List.not_mem_nil, or_false] at hu; rcases hu with rfl <;> rfl) rfl rfl rfl kp ?_
  refine ow_nil ?_
  refine x_qs ?_
  refine c_ret ?_
  exact x_retR (rs := [.cell 2 32]) (vs := [.agg #[.slice a22 y17.length c24]]) rfl ⟨⟨_, [.slice a22 y17.length c24], _, _, _, rfl, ty32, (at_box (T := 32) 0 (boxIn (i := 1) rfl) rfl), rfl, rfl⟩, trivial⟩ (fun w' hw' => by
      obtain rfl := of_some H
      exact ⟨_, rfl, a22, y17.length, c24, F25, rfl, hw'.sel [3] rfl rfl⟩)

set_option maxHeartbeats 4000000 in
set_option maxRecDepth 100000 in
theorem spec_WindowOk_ok (w : World) {p0 : Timpl_Window} {cs0 : List Value} {r : Bool} (H : spec_WindowOk p0 = some r)  (g0 : (eTimpl_Window).rd w [] p0 cs0) :
    Calls Tryd.prog 39 #[.agg cs0.toArray] w (fun en w' => en = .returned (.bool r) ∧ Ext [] w w') := by
  obtain ⟨c10, rfl, g11⟩ := rdo_Timpl_Window g0
  obtain ⟨a12, c13, rfl⟩ := rd_sl1 g11
  unfold spec_WindowOk at H
  refine f_enter (vs := [.agg #[.slice a12 p0.Rows_.length c13]]) Tryd.func39 rfl Tryd.ntmps39 rfl (St.init w []) ?_
  refine c_seq ?_
  refine c_reg ?_
  refine ow_box (cs := [.slice a12 p0.Rows_.length c13]) rfl rfl rfl rfl rfl rfl (fun _ => kp) (fun b14 => ?_)
  refine ow_batch [.p] rfl ?_
  refine ow_nil ?_
  refine x_qs ?_
  refine c_seq ?_
  refine c_seq ?_
  refine c_reg ?_
  refine ow_batch [.fa 32 0 0 fa32_0] rfl ?_
  refine ow_r rfl (dstOk_lt rfl) (ry_box1 (off := 0) rfl rfl ty27 (boxIn (i := 0) rfl) rfl) ?_
  refine ow_batch [.lenS 27 22 sl27, .p] rfl ?_
  refine ow_nil ?_
  refine x_qs ?_
  refine c_if rfl (fun hb => ?_) (fun hb => ?_)
  · have H := of_if_t hb H
    refine c_seq ?_
    refine c_reg ?_
    refine ow_batch [.p] rfl ?_
    refine ow_nil ?_
    refine x_qs ?_
    refine c_ret ?_
    refine x_qs_ret ?_
    exact x_retR (rs := [.tmp 2]) (vs := [.bool false]) rfl ⟨rfl, trivial⟩ (fun w' hw' => by
        obtain rfl := of_some H
        exact ⟨rfl, hw'.ext⟩)
  · have H := of_if_f hb H
    refine c_skip ?_
    refine x_qs ?_
    refine c_seq ?_
    refine c_seq ?_
    refine c_reg ?_
    refine ow_batch [.p] rfl ?_
    refine ow_nil ?_
    refine x_qs ?_
    refine c_block ?_
    refine CW.at (loopI1 (fun (i95 : Int) => St w [] [Res.box b14 32 [.slice a12 p0.Rows_.length c13]]) (fun (i95 : Int) => [(1, .pointer (some ⟨b14, 0, none⟩)), (3, .int .i64 i95)]) (fun kk => fun (i95 : Int) => spec_WindowOk_L1 p0 kk i95 = some r) (fun _ H => ?_) (fun k1 ihk1 i95 H => ?_) Fuel (0) (H)) (fun _ h => St.sel [0] rfl rfl h) ⟨rfl, rfl,  trivial⟩
    · unfold spec_WindowOk_L1 at H
      exact absurd H (by simp)
    · unfold spec_WindowOk_L1 at H
      refine c_seq ?_
      refine c_seq ?_
      refine c_reg ?_
      refine ow_batch [.p, .fa 32 0 0 fa32_0] rfl ?_
      refine ow_r rfl (dstOk_lt rfl) (ry_box1 (off := 0) rfl rfl ty27 (boxIn (i := 0) rfl) rfl) ?_
      refine ow_batch [.lenS 27 22 sl27, .p] rfl ?_
      refine ow_nil ?_
      refine x_qs ?_
      refine c_if rfl (fun hb => ?_) (fun hb => ?_)
      · have H := of_if_t hb H
        refine c_skip ?_
        refine x_qs ?_
        refine c_seq ?_
        refine c_block ?_
        refine c_seq ?_
        refine c_seq ?_
        refine c_reg ?_
        refine ow_batch [.fa 32 0 0 fa32_0] rfl ?_
        refine ow_r rfl (dstOk_lt rfl) (ry_box1 (off := 0) rfl rfl ty27 (boxIn (i := 0) rfl) rfl) ?_
        refine ow_batch [.p] rfl ?_
        obtain ⟨e176, h177, H⟩ := of_bind H
        refine ow_ixB rfl rfl rfl rfl rfl sl27 ty22 rfl g11 h177 (fun q180 c181 hd178 hA179 => ?_)
        obtain ⟨a182, c183, rfl⟩ := rd_sl1 hd178
        refine ow_r rfl (dstOk_lt rfl) (ry_load1 rfl rfl ty22 (at_bor bor hA179)) ?_
        refine ow_batch [.lenS 22 3 sl22] rfl ?_
        obtain ⟨y184, h185, H⟩ := of_bind H
        refine ow_q rfl rfl (dstOk_lt rfl) (qy_call rfl fn94 rfl (fun w1 hw1 => spec_l1In_ok w1  h185)) (fun _ _ => trivial) ?_
        refine ow_batch [.p] rfl ?_
        refine ow_nil ?_
        refine x_qs ?_
        refine c_if rfl (fun hb => ?_) (fun hb => ?_)
        · have H := of_if_t hb H
          refine c_seq ?_
          refine c_reg ?_
          refine ow_batch [.p] rfl ?_
          refine ow_nil ?_
          refine x_qs ?_
          refine c_ret ?_
          refine x_qs_ret ?_
          refine x_qb_ret ?_
          refine x_qs_ret ?_
          refine x_ql_ret ?_
          refine x_qb_ret ?_
          refine x_qs_ret ?_
          exact x_retR (rs := [.tmp 2]) (vs := [.bool false]) rfl ⟨rfl, trivial⟩ (fun w' hw' => by
              obtain rfl := of_some H
              exact ⟨rfl, hw'.ext⟩)
        · have H := of_if_f hb H
          refine c_skip ?_
          refine x_qs ?_
          refine c_seq ?_
          refine c_reg ?_
          refine ow_batch [.p] rfl ?_
          refine ow_nil ?_
          refine x_qs ?_
          refine c_block ?_
          refine CW.at (loopI1 (fun (i209 : Int) => St w [] [Res.box b14 32 [.slice a12 p0.Rows_.length c13]]) (fun (i209 : Int) => [(1, .pointer (some ⟨b14, 0, none⟩)), (3, .int .i64 i95), (4, .int .i64 i209)]) (fun kk => fun (i209 : Int) => spec_WindowOk_L2 p0 i95 (spec_WindowOk_L1 p0 k1) kk i209 = some r) (fun _ H => ?_) (fun k2 ihk2 i209 H => ?_) Fuel (0) (H)) (fun _ h => St.sel [0] rfl rfl h) ⟨rfl, rfl, rfl,  trivial⟩
          · unfold spec_WindowOk_L2 at H
            exact absurd H (by simp)
          · unfold spec_WindowOk_L2 at H
            refine c_seq ?_
            refine c_seq ?_
            refine c_reg ?_
            refine ow_batch [.p, .fa 32 0 0 fa32_0] rfl ?_
            refine ow_r rfl (dstOk_lt rfl) (ry_box1 (off := 0) rfl rfl ty27 (boxIn (i := 0) rfl) rfl) ?_
            refine ow_batch [.p] rfl ?_
            obtain ⟨e233, h234, H⟩ := of_bind H
            refine ow_ixB rfl rfl rfl rfl rfl sl27 ty22 rfl g11 h234 (fun q237 c238 hd235 hA236 => ?_)
            obtain ⟨a239, c240, rfl⟩ := rd_sl1 hd235
            refine ow_r rfl (dstOk_lt rfl) (ry_load1 rfl rfl ty22 (at_bor bor hA236)) ?_
            refine ow_batch [.lenS 22 3 sl22, .p] rfl ?_
            refine ow_nil ?_
            refine x_qs ?_
            refine c_if rfl (fun hb => ?_) (fun hb => ?_)
            · have H := of_if_t hb H
              refine c_skip ?_
              refine x_qs ?_
              refine c_seq ?_
              refine c_block ?_
              refine c_seq ?_
              refine c_regQ mixed (by kernel_rfl) ?_
              refine ow_batch [.fa 32 0 0 fa32_0] rfl ?_
              refine ow_r rfl (dstOk_lt rfl) (ry_box1 (off := 0) rfl rfl ty27 (boxIn (i := 0) rfl) rfl) ?_
              refine ow_batch [.p] rfl ?_
              obtain ⟨e241, h242, H⟩ := of_bind H
              refine ow_ixB rfl rfl rfl rfl rfl sl27 ty22 rfl g11 h242 (fun q245 c246 hd243 hA244 => ?_)
              obtain ⟨a247, c248, rfl⟩ := rd_sl1 hd243
              refine ow_r rfl (dstOk_lt rfl) (ry_load1 rfl rfl ty22 (at_bor bor hA244)) ?_
              refine ow_batch [.p] rfl ?_
              obtain ⟨e249, h250, H⟩ := of_bind H
              refine ow_ixE (e := eVal (Value.int .i64) (fun _ => rfl)) (xs := e241) (j := i209) rfl rfl rfl rfl rfl sl22 ty3 rfl (fun w1 hw1 => rds_bor hd243 w1 hw1) h250 (by rw [Nat.mul_one]) ?_
              refine ow_r rfl (dstOk_lt rfl) (ry_load1 rfl rfl ty3 (at_elV (fun w1 hw1 => rds_bor hd243 w1 hw1) h250)) ?_
              refine ow_batch [.p] rfl ?_
              obtain ⟨y251, h252, H⟩ := of_bind H
              refine ow_q rfl rfl (dstOk_lt rfl) (qy_call rfl fn70 rfl (fun w1 hw1 => spec_l16Power_ok w1  h252)) (fun _ _ => trivial) ?_
              obtain ⟨y253, h254, H⟩ := of_bind H
              refine ow_q rfl rfl (dstOk_lt rfl) (qy_call rfl fn94 rfl (fun w1 hw1 => spec_l1In_ok w1  h254)) (fun _ _ => trivial) ?_
              refine ow_batch [.p] rfl ?_
              refine ow_nilQ ?_
              refine x_qs ?_
              refine c_if rfl (fun hb => ?_) (fun hb => ?_)
              · have H := of_if_t hb H
                refine c_seq ?_
                refine c_reg ?_
                refine ow_batch [.p] rfl ?_
                refine ow_nil ?_
                refine x_qs ?_
                refine c_ret ?_
                refine x_qb_ret ?_
                refine x_qs_ret ?_
                refine x_ql_ret ?_
                refine x_qb_ret ?_
                refine x_qb_ret ?_
                refine x_qs_ret ?_
                refine x_ql_ret ?_
                refine x_qb_ret ?_
                refine x_qs_ret ?_
                exact x_retR (rs := [.tmp 2]) (vs := [.bool false]) rfl ⟨rfl, trivial⟩ (fun w' hw' => by
                    obtain rfl := of_some H
                    exact ⟨rfl, hw'.ext⟩)
              · have H := of_if_f hb H
                refine c_skip ?_
                refine x_qb ?_
                refine x_qs ?_
                refine c_reg ?_
                refine ow_batch [.p, .p, .p] rfl ?_
                refine ow_nil ?_
                exact x_ql (RW.at (ihk2 (IntKind.i64.wrap (i209 + 1)) (H)) (fun _ h => St.sel [0] rfl rfl h) ⟨rfl, rfl, rfl, trivial⟩)
            · have H := of_if_f hb H
              refine c_exit ?_
              refine x_qs_exit ?_
              refine x_ql_exit ?_
              refine x_qb_here ?_
              refine x_qb ?_
              refine x_qs ?_
              refine c_reg ?_
              refine ow_batch [.p, .p, .p] rfl ?_
              refine ow_nil ?_
              exact x_ql (RW.at (ihk1 (IntKind.i64.wrap (i95 + 1)) (H)) (fun _ h => St.sel [0] rfl rfl h) ⟨rfl, rfl, trivial⟩)
      · have H := of_if_f hb H
        refine c_exit ?_
        refine x_qs_exit ?_
        refine x_ql_exit ?_
        refine x_qb_here ?_
        refine x_qs ?_
        refine c_seq ?_
        refine c_reg ?_
        refine ow_batch [.p] rfl ?_
        refine ow_nil ?_
        refine x_qs ?_
        refine c_ret ?_
        exact x_retR (rs := [.tmp 2]) (vs := [.bool true]) rfl ⟨rfl, trivial⟩ (fun w' hw' => by
            obtain rfl := of_some H
            exact ⟨rfl, hw'.ext⟩)

set_option maxHeartbeats 4000000 in
set_option maxRecDepth 100000 in
theorem spec_Buckets_ok (w : World) {M0 : List Nat} {p0 : Timpl_Window} {cs0 : List Value} {r : List Timpl_Bucket} (H : spec_Buckets p0 = some r) (HS : St w M0 [] w) (g0 : (eTimpl_Window).rd w M0 p0 cs0) :
    Calls Tryd.prog 42 #[.agg cs0.toArray] w (fun en w' => ∃ v, en = .returned v ∧ ∃ (a0 : Option Addr), ∃ (n0 : Nat), ∃ (c0 : Nat), ∃ (F0 : List Nat), v = .slice a0 n0 c0 ∧ St w M0 [Res.own (eList (eTimpl_Bucket) 89) F0 r [.slice a0 n0 c0]] w') := by
  obtain ⟨c10, rfl, g11⟩ := rdo_Timpl_Window g0
  obtain ⟨a12, c13, rfl⟩ := rd_sl1 g11
  unfold spec_Buckets at H
  refine f_enter (vs := [.agg #[.slice a12 p0.Rows_.length c13]]) Tryd.func42 rfl Tryd.ntmps42 rfl (HS) ?_
  refine c_seq ?_
  refine c_reg ?_
  refine ow_box (cs := [.slice a12 p0.Rows_.length c13]) rfl rfl rfl rfl rfl rfl (fun _ => kp) (fun b14 => ?_)
  refine ow_batch [.p] rfl ?_
  refine ow_nil ?_
  refine x_qs ?_
  refine c_seq ?_
  refine c_reg ?_
  refine ow_blit0 (e := eTimpl_Bucket) rfl rfl rfl rfl sl86 ty89 (fun _ => kp) (fun b15 => ?_)
  refine ow_batch [.p] rfl ?_
  refine ow_nil ?_
  refine x_qs ?_
  refine c_seq ?_
  refine c_seq ?_
  refine c_reg ?_
  refine ow_r rfl (dstOk_lt rfl) (ry_box (off := 0) (ds := [.slice a12 p0.Rows_.length c13]) rfl rfl ty32 (boxIn (i := 0) rfl) rfl rfl) ?_
  obtain ⟨y16, h17, H⟩ := of_bind H
  refine ow_q rfl rfl (dstOk_lt rfl) (qy_call rfl fn39 rfl (fun w1 hw1 => spec_WindowOk_ok w1 (cs0 := [.slice a12 p0.Rows_.length c13]) h17 (rdm_Timpl_Window (x := p0) (c0 := [.slice a12 p0.Rows_.length c13]) (rds_bor g11 w1 hw1)))) (fun _ _ => trivial) ?_
  refine ow_batch [.p] rfl ?_
  refine ow_nil ?_
  refine x_qs ?_
  refine c_if rfl (fun hb => ?_) (fun hb => ?_)
  · have H := of_if_t hb H
    refine c_seq ?_
    refine c_reg ?_
    refine ow_batch [.p, .p] rfl ?_
    refine ow_nil ?_
    refine x_qs ?_
    refine c_ret ?_
    refine x_qs_ret ?_
    exact x_retR (rs := [.tmp 2]) (vs := [.slice (some ⟨b15, 0, none⟩) 0 0]) rfl ⟨rfl, trivial⟩ (fun w' hw' => by
        obtain rfl := of_some H
        exact ⟨_, rfl, (some ⟨b15, 0, none⟩), 0, 0, [b15], rfl, hw'.sel [1] rfl rfl⟩)
  · have H := of_if_f hb H
    refine c_skip ?_
    refine x_qs ?_
    refine c_seq ?_
    refine c_seq ?_
    refine c_reg ?_
    refine ow_batch [.fa 32 0 0 fa32_0] rfl ?_
    refine ow_r rfl (dstOk_lt rfl) (ry_box1 (off := 0) rfl rfl ty27 (boxIn (i := 0) rfl) rfl) ?_
    refine ow_batch [.lenS 27 22 sl27, .p, .p] rfl ?_
    refine ow_nil ?_
    refine x_qs ?_
    refine c_block ?_
    refine CW.at (loopI5 (fun (l162 : List Timpl_Bucket) (a163 : Option Addr) (c164 : Nat) (F165 : List Nat) (i167 : Int) => St w M0 [Res.box b14 32 [.slice a12 p0.Rows_.length c13], Res.own (eList (eTimpl_Bucket) 89) F165 l162 [.slice a163 l162.length c164]]) (fun (l162 : List Timpl_Bucket) (a163 : Option Addr) (c164 : Nat) (F165 : List Nat) (i167 : Int) => [(1, .pointer (some ⟨b14, 0, none⟩)), (3, .slice a163 l162.length c164), (4, .int .i64 i167)]) (fun kk => fun (l162 : List Timpl_Bucket) (a163 : Option Addr) (c164 : Nat) (F165 : List Nat) (i167 : Int) => a163.isNone = false ∧ spec_Buckets_L1 p0 kk l162 i167 = some r) (fun _ _ _ _ _ H => ?_) (fun k1 ihk1 l162 a163 c164 F165 i167 ⟨hz166, H⟩ => ?_) Fuel (([] : List Timpl_Bucket)) ((some ⟨b15, 0, none⟩)) (0) ([b15]) (IntKind.i64.wrap ((p0.Rows_.length : Int) - 1)) (⟨rfl, H⟩)) (fun _ h => St.sel [0, 1] rfl rfl h) ⟨rfl, rfl, rfl,  trivial⟩
    · unfold spec_Buckets_L1 at H
      exact absurd H (by simp)
    · unfold spec_Buckets_L1 at H
      refine c_seq ?_
      refine c_seq ?_
      refine c_reg ?_
      refine ow_batch [.p, .p] rfl ?_
      refine ow_nil ?_
      refine x_qs ?_
      refine c_if rfl (fun hb => ?_) (fun hb => ?_)
      · have H := of_if_t hb H
        refine c_skip ?_
        refine x_qs ?_
        refine c_seq ?_
        refine c_block ?_
        refine c_seq ?_
        refine c_reg ?_
        refine ow_batch [.p] rfl ?_
        refine ow_nil ?_
        refine x_qs ?_
        refine c_block ?_
        refine CW.at (loopI5 (fun (l358 : List Timpl_Bucket) (a359 : Option Addr) (c360 : Nat) (F361 : List Nat) (i363 : Int) => St w M0 [Res.box b14 32 [.slice a12 p0.Rows_.length c13], Res.own (eList (eTimpl_Bucket) 89) F361 l358 [.slice a359 l358.length c360]]) (fun (l358 : List Timpl_Bucket) (a359 : Option Addr) (c360 : Nat) (F361 : List Nat) (i363 : Int) => [(1, .pointer (some ⟨b14, 0, none⟩)), (3, .slice a359 l358.length c360), (4, .int .i64 i167), (5, .int .i64 i363)]) (fun kk => fun (l358 : List Timpl_Bucket) (a359 : Option Addr) (c360 : Nat) (F361 : List Nat) (i363 : Int) => a359.isNone = false ∧ spec_Buckets_L2 p0 i167 (spec_Buckets_L1 p0 k1) kk l358 i363 = some r) (fun _ _ _ _ _ H => ?_) (fun k2 ihk2 l358 a359 c360 F361 i363 ⟨hz362, H⟩ => ?_) Fuel (l162) (a163) (c164) (F165) (0) (⟨hz166, H⟩)) (fun _ h => St.sel [0, 1] rfl rfl h) ⟨rfl, rfl, rfl, rfl,  trivial⟩
        · unfold spec_Buckets_L2 at H
          exact absurd H (by simp)
        · unfold spec_Buckets_L2 at H
          refine c_seq ?_
          refine c_seq ?_
          refine c_reg ?_
          refine ow_batch [.p, .fa 32 0 0 fa32_0] rfl ?_
          refine ow_r rfl (dstOk_lt rfl) (ry_box1 (off := 0) rfl rfl ty27 (boxIn (i := 0) rfl) rfl) ?_
          refine ow_batch [.p] rfl ?_
          obtain ⟨e410, h411, H⟩ := of_bind H
          refine ow_ixB rfl rfl rfl rfl rfl sl27 ty22 rfl g11 h411 (fun q414 c415 hd412 hA413 => ?_)
          obtain ⟨a416, c417, rfl⟩ := rd_sl1 hd412
          refine ow_r rfl (dstOk_lt rfl) (ry_load1 rfl rfl ty22 (at_bor bor hA413)) ?_
          refine ow_batch [.lenS 22 3 sl22, .p] rfl ?_
          refine ow_nil ?_
          refine x_qs ?_
          refine c_if rfl (fun hb => ?_) (fun hb => ?_)
          · have H := of_if_t hb H
            refine c_skip ?_
            refine x_qs ?_
            refine c_seq ?_
            refine c_block ?_
            refine c_regHT 13 [(0, true), (1, true), (3, true), (4, true), (5, true), (6, true), (7, true), (8, true), (9, true), (10, true), (2, false), (11, true), (12, false)] (St w M0 [Res.box b14 32 [.slice a12 p0.Rows_.length c13], Res.own (eList (eTimpl_Bucket) 89) F361 l358 [.slice a359 l358.length c360]]) mixed (by kernel_rfl) (panicOk_qb (panicOk_qs (panicOk_ql (panicOk_qb (panicOk_qb (panicOk_qs (panicOk_ql (panicOk_qb (panicOk_qs panicOk_body))))))))) (fun _ h => St.mask [true, true] rfl h) ?_
            refine ow_batch [.p, .p, .fa 32 0 0 fa32_0] rfl ?_
            refine ow_rH rfl (dstOk_lt rfl) (ry_box1 (off := 0) rfl rfl ty27 (boxIn (i := 0) rfl) rfl) ?_
            refine ow_batch [.p] rfl ?_
            obtain ⟨e431, h432, H⟩ := of_bind H
            refine ow_ixB rfl rfl rfl rfl rfl sl27 ty22 rfl g11 h432 (fun q435 c436 hd433 hA434 => ?_)
            obtain ⟨a437, c438, rfl⟩ := rd_sl1 hd433
            refine ow_rH rfl (dstOk_lt rfl) (ry_load1 rfl rfl ty22 (at_bor (fun _ h => h.ext) hA434)) ?_
            refine ow_batch [.p] rfl ?_
            obtain ⟨e439, h440, H⟩ := of_bind H
            refine ow_ixE (e := eVal (Value.int .i64) (fun _ => rfl)) (xs := e431) (j := i363) rfl rfl rfl rfl rfl sl22 ty3 rfl (fun w1 hw1 => rds_bor hd433 w1 hw1) h440 (by rw [Nat.mul_one]) ?_
            refine ow_rH rfl (dstOk_lt rfl) (ry_load1 rfl rfl ty3 (at_elV (fun w1 hw1 => rds_bor hd433 w1 hw1) h440)) ?_
            obtain ⟨y441, h442, H⟩ := of_bind H
            refine ow_q rfl rfl (dstOk_lt rfl) (qy_call rfl fn70 rfl (fun w1 hw1 => spec_l16Power_ok w1  h442)) (fun _ h => St.mask [true, true] rfl h) ?_
            refine ow_rH rfl (dstOk_lt rfl) (ry_build2 [(0, [.int .i64 y441]), (1, [.int .i64 e439])] [.int .i64 y441, .int .i64 e439] rfl rfl ty89 fs89 rfl ⟨rfl, rfl, Nat.le_of_ble_eq_true rfl, rfl, rfl, Nat.le_of_ble_eq_true rfl,  trivial⟩ rfl) ?_
            refine ow_blitF ([(Timpl_Bucket.mk y441 e439)] : List Timpl_Bucket) [(0, [.int .i64 y441, .int .i64 e439])] rfl rfl rfl rfl rfl sl86 ty89 rfl rfl rfl rfl ⟨rfl, rfl, Nat.le_of_ble_eq_true rfl,  trivial⟩ rfl (fun _ => (fun _ h => St.mask [true, true] rfl h)) (fun b443 => (?_ : OW _ _ _ (St w M0 [Res.box b14 32 [.slice a12 p0.Rows_.length c13], Res.own (eList (eTimpl_Bucket) 89) F361 l358 [.slice a359 l358.length c360], Res.own (eList (eTimpl_Bucket) 89) [b443] [(Timpl_Bucket.mk y441 e439)] [.slice (some ⟨b443, 0, none⟩) ([(Timpl_Bucket.mk y441 e439)] : List Timpl_Bucket).length 1]]) _ _ _))
            refine ow_nilH ?_
            refine x_qt ?_
            obtain ⟨l444, h445, H⟩ := of_bind H
            refine ow_appF (r := 1) (ys := ([(Timpl_Bucket.mk y441 e439)] : List Timpl_Bucket)) rfl rfl rfl rfl rfl rfl sl86 ty89 rfl rfl rfl rfl rfl (fun w1 hw1 => rds_own (e := eList (eTimpl_Bucket) 89) (r := 2) rfl w1 hw1) h445 (fun _ _ _ => kp) (fun a446 c447 F448 => ?_)
            refine ow_fact rfl (fun w1 hw1 => own_nn (i := 1) hw1 rfl (app_ne h445)) (fun hz449 => ?_)
            refine ow_batch [.p] rfl ?_
            refine ow_nil ?_
            refine x_qb ?_
            refine x_qs ?_
            refine c_reg ?_
            refine ow_batch [.p, .p, .p] rfl ?_
            refine ow_nil ?_
            exact x_ql (RW.at (ihk2 (l444) (a446) (c447) (F448) (IntKind.i64.wrap (i363 + 1)) (⟨hz449, H⟩)) (fun _ h => St.sel [0, 1] rfl rfl h) ⟨rfl, rfl, rfl, rfl, trivial⟩)
          · have H := of_if_f hb H
            refine c_exit ?_
            refine x_qs_exit ?_
            refine x_ql_exit ?_
            refine x_qb_here ?_
            refine x_qb ?_
            refine x_qs ?_
            refine c_reg ?_
            refine ow_batch [.p, .p, .p] rfl ?_
            refine ow_nil ?_
            exact x_ql (RW.at (ihk1 (l358) (a359) (c360) (F361) (IntKind.i64.wrap (i167 - 1)) (⟨hz362, H⟩)) (fun _ h => St.sel [0, 1] rfl rfl h) ⟨rfl, rfl, rfl, trivial⟩)
      · have H := of_if_f hb H
        refine c_exit ?_
        refine x_qs_exit ?_
        refine x_ql_exit ?_
        refine x_qb_here ?_
        refine x_qs ?_
        refine c_seq ?_
        refine c_reg ?_
        refine ow_batch [.p, .p] rfl ?_
        refine ow_nil ?_
        refine x_qs ?_
        refine c_ret ?_
        exact x_retR (rs := [.tmp 2]) (vs := [.slice a163 l162.length c164]) rfl ⟨rfl, trivial⟩ (fun w' hw' => by
            obtain rfl := of_some H
            exact ⟨_, rfl, a163, l162.length, c164, F165, rfl, hw'.sel [1] rfl rfl⟩)

set_option maxHeartbeats 4000000 in
set_option maxRecDepth 100000 in
theorem spec_WindowOnes_ok (w : World) {p0 : Timpl_Window} {cs0 : List Value} {r : Int} (H : spec_WindowOnes p0 = some r)  (g0 : (eTimpl_Window).rd w [] p0 cs0) :
    Calls Tryd.prog 40 #[.agg cs0.toArray] w (fun en w' => en = .returned (.int .i64 r) ∧ Ext [] w w') := by
  obtain ⟨c10, rfl, g11⟩ := rdo_Timpl_Window g0
  obtain ⟨a12, c13, rfl⟩ := rd_sl1 g11
  unfold spec_WindowOnes at H
  refine f_enter (vs := [.agg #[.slice a12 p0.Rows_.length c13]]) Tryd.func40 rfl Tryd.ntmps40 rfl (St.init w []) ?_
  refine c_seq ?_
  refine c_reg ?_
  refine ow_box (cs := [.slice a12 p0.Rows_.length c13]) rfl rfl rfl rfl rfl rfl (fun _ => kp) (fun b14 => ?_)
  refine ow_batch [.p] rfl ?_
  refine ow_nil ?_
  refine x_qs ?_
  refine c_seq ?_
  refine c_reg ?_
  refine ow_batch [.p] rfl ?_
  refine ow_nil ?_
  refine x_qs ?_
  refine c_seq ?_
  refine c_reg ?_
  refine ow_r rfl (dstOk_lt rfl) (ry_box (off := 0) (ds := [.slice a12 p0.Rows_.length c13]) rfl rfl ty32 (boxIn (i := 0) rfl) rfl rfl) ?_
  obtain ⟨y15, h16, H⟩ := of_bind H
  refine ow_callS rfl fn42 rfl rfl rfl rfl (fun w1 hw1 => spec_Buckets_ok w1 (cs0 := [.slice a12 p0.Rows_.length c13]) h16 (hw1.carve [] rfl rfl) (rdm_Timpl_Window (x := p0) (c0 := [.slice a12 p0.Rows_.length c13]) (rds_bor g11 w1 hw1))) (fun v17 w1 w2 hw1 hR19 => ?_)
  obtain ⟨a20, n21, c22, F23, rfl, hS18⟩ := hR19
  obtain rfl := own_nS (i := 0) hS18 rfl
  refine ⟨St w [] [_, _], hw1.comp [] rfl rfl hS18, fun _ _ => trivial, ?_⟩
  refine ow_batch [.p] rfl ?_
  refine ow_nil ?_
  refine x_qs ?_
  refine c_seq ?_
  refine c_seq ?_
  refine c_reg ?_
  refine ow_batch [.p] rfl ?_
  refine ow_nil ?_
  refine x_qs ?_
  refine c_block ?_
  refine CW.at (loopI2 (fun (i28 : Int) (i29 : Int) => St w [] [Res.own (eList (eTimpl_Bucket) 89) F23 y15 [.slice a20 y15.length c22]]) (fun (i28 : Int) (i29 : Int) => [(3, .int .i64 i28), (4, .slice a20 y15.length c22), (5, .int .i64 i29)]) (fun kk => fun (i28 : Int) (i29 : Int) => spec_WindowOnes_L1 y15 kk i28 i29 = some r) (fun _ _ H => ?_) (fun k1 ihk1 i28 i29 H => ?_) Fuel (0) (0) (H)) (fun _ h => St.sel [1] rfl rfl h) ⟨rfl, rfl, rfl,  trivial⟩
  · unfold spec_WindowOnes_L1 at H
    exact absurd H (by simp)
  · unfold spec_WindowOnes_L1 at H
    refine c_seq ?_
    refine c_seq ?_
    refine c_reg ?_
    refine ow_batch [.p, .p, .lenS 86 89 sl86, .p] rfl ?_
    refine ow_nil ?_
    refine x_qs ?_
    refine c_if rfl (fun hb => ?_) (fun hb => ?_)
    · have H := of_if_t hb H
      refine c_skip ?_
      refine x_qs ?_
      refine c_seq ?_
      refine c_block ?_
      refine c_reg ?_
      refine ow_batch [.p, .p, .p] rfl ?_
      obtain ⟨e35, h36, H⟩ := of_bind H
      refine ow_ixE (e := eTimpl_Bucket) (xs := y15) (j := i29) rfl rfl rfl rfl rfl sl86 ty89 rfl (fun w1 hw1 => rds_own (e := eList (eTimpl_Bucket) 89) (r := 0) rfl w1 hw1) h36 rfl ?_
      refine ow_batch [.fa 89 1 1 fa89_1] rfl ?_
      refine ow_r rfl (dstOk_lt rfl) (ry_load1 rfl rfl ty3 (at_KA (at_castA (at_eltE (fun w1 hw1 => rds_own (e := eList (eTimpl_Bucket) 89) (r := 0) rfl w1 hw1) h36 (fun _ _ h => h)) rfl) 1 1)) ?_
      refine ow_batch [.p, .p] rfl ?_
      refine ow_nil ?_
      refine x_qb ?_
      refine x_qs ?_
      refine c_reg ?_
      refine ow_batch [.p, .p, .p] rfl ?_
      refine ow_nil ?_
      exact x_ql (RW.at (ihk1 (IntKind.i64.wrap (i28 + e35.Ones_)) (IntKind.i64.wrap (i29 + 1)) (H)) (fun _ h => St.sel [0] rfl rfl h) ⟨rfl, rfl, rfl, trivial⟩)
    · have H := of_if_f hb H
      refine c_exit ?_
      refine x_qs_exit ?_
      refine x_ql_exit ?_
      refine x_qb_here ?_
      refine x_qs ?_
      refine c_seq ?_
      refine c_reg ?_
      refine ow_batch [.p, .p] rfl ?_
      refine ow_nil ?_
      refine x_qs ?_
      refine c_ret ?_
      exact x_retR (rs := [.tmp 2]) (vs := [.int .i64 i28]) rfl ⟨rfl, trivial⟩ (fun w' hw' => by
          obtain rfl := of_some H
          exact ⟨rfl, hw'.ext⟩)

set_option maxHeartbeats 4000000 in
set_option maxRecDepth 100000 in
theorem spec_WindowTotal_ok (w : World) {p0 : Timpl_Window} {cs0 : List Value} {r : Int} (H : spec_WindowTotal p0 = some r)  (g0 : (eTimpl_Window).rd w [] p0 cs0) :
    Calls Tryd.prog 41 #[.agg cs0.toArray] w (fun en w' => en = .returned (.int .i64 r) ∧ Ext [] w w') := by
  obtain ⟨c10, rfl, g11⟩ := rdo_Timpl_Window g0
  obtain ⟨a12, c13, rfl⟩ := rd_sl1 g11
  unfold spec_WindowTotal at H
  refine f_enter (vs := [.agg #[.slice a12 p0.Rows_.length c13]]) Tryd.func41 rfl Tryd.ntmps41 rfl (St.init w []) ?_
  refine c_seq ?_
  refine c_reg ?_
  refine ow_box (cs := [.slice a12 p0.Rows_.length c13]) rfl rfl rfl rfl rfl rfl (fun _ => kp) (fun b14 => ?_)
  refine ow_batch [.p] rfl ?_
  refine ow_nil ?_
  refine x_qs ?_
  refine c_seq ?_
  refine c_reg ?_
  refine ow_batch [.p] rfl ?_
  refine ow_nil ?_
  refine x_qs ?_
  refine c_seq ?_
  refine c_reg ?_
  refine ow_r rfl (dstOk_lt rfl) (ry_box (off := 0) (ds := [.slice a12 p0.Rows_.length c13]) rfl rfl ty32 (boxIn (i := 0) rfl) rfl rfl) ?_
  obtain ⟨y15, h16, H⟩ := of_bind H
  refine ow_callS rfl fn42 rfl rfl rfl rfl (fun w1 hw1 => spec_Buckets_ok w1 (cs0 := [.slice a12 p0.Rows_.length c13]) h16 (hw1.carve [] rfl rfl) (rdm_Timpl_Window (x := p0) (c0 := [.slice a12 p0.Rows_.length c13]) (rds_bor g11 w1 hw1))) (fun v17 w1 w2 hw1 hR19 => ?_)
  obtain ⟨a20, n21, c22, F23, rfl, hS18⟩ := hR19
  obtain rfl := own_nS (i := 0) hS18 rfl
  refine ⟨St w [] [_, _], hw1.comp [] rfl rfl hS18, fun _ _ => trivial, ?_⟩
  refine ow_batch [.p] rfl ?_
  refine ow_nil ?_
  refine x_qs ?_
  refine c_seq ?_
  refine c_seq ?_
  refine c_reg ?_
  refine ow_batch [.p] rfl ?_
  refine ow_nil ?_
  refine x_qs ?_
  refine c_block ?_
  refine CW.at (loopI2 (fun (i28 : Int) (i29 : Int) => St w [] [Res.own (eList (eTimpl_Bucket) 89) F23 y15 [.slice a20 y15.length c22]]) (fun (i28 : Int) (i29 : Int) => [(3, .int .i64 i28), (4, .slice a20 y15.length c22), (5, .int .i64 i29)]) (fun kk => fun (i28 : Int) (i29 : Int) => spec_WindowTotal_L1 y15 kk i28 i29 = some r) (fun _ _ H => ?_) (fun k1 ihk1 i28 i29 H => ?_) Fuel (0) (0) (H)) (fun _ h => St.sel [1] rfl rfl h) ⟨rfl, rfl, rfl,  trivial⟩
  · unfold spec_WindowTotal_L1 at H
    exact absurd H (by simp)
  · unfold spec_WindowTotal_L1 at H
    refine c_seq ?_
    refine c_seq ?_
    refine c_reg ?_
    refine ow_batch [.p, .p, .lenS 86 89 sl86, .p] rfl ?_
    refine ow_nil ?_
    refine x_qs ?_
    refine c_if rfl (fun hb => ?_) (fun hb => ?_)
    · have H := of_if_t hb H
      refine c_skip ?_
      refine x_qs ?_
      refine c_seq ?_
      refine c_block ?_
      refine c_reg ?_
      refine ow_batch [.p, .p, .p] rfl ?_
      obtain ⟨e35, h36, H⟩ := of_bind H
      refine ow_ixE (e := eTimpl_Bucket) (xs := y15) (j := i29) rfl rfl rfl rfl rfl sl86 ty89 rfl (fun w1 hw1 => rds_own (e := eList (eTimpl_Bucket) 89) (r := 0) rfl w1 hw1) h36 rfl ?_
      refine ow_batch [.fa 89 0 0 fa89_0] rfl ?_
      refine ow_r rfl (dstOk_lt rfl) (ry_load1 rfl rfl ty3 (at_KA (at_castA (at_eltE (fun w1 hw1 => rds_own (e := eList (eTimpl_Bucket) 89) (r := 0) rfl w1 hw1) h36 (fun _ _ h => h)) rfl) 0 1)) ?_
      refine ow_batch [.p, .p] rfl ?_
      refine ow_nil ?_
      refine x_qb ?_
      refine x_qs ?_
      refine c_reg ?_
      refine ow_batch [.p, .p, .p] rfl ?_
      refine ow_nil ?_
      exact x_ql (RW.at (ihk1 (IntKind.i64.wrap (i28 + e35.Size_)) (IntKind.i64.wrap (i29 + 1)) (H)) (fun _ h => St.sel [0] rfl rfl h) ⟨rfl, rfl, rfl, trivial⟩)
    · have H := of_if_f hb H
      refine c_exit ?_
      refine x_qs_exit ?_
      refine x_ql_exit ?_
      refine x_qb_here ?_
      refine x_qs ?_
      refine c_seq ?_
      refine c_reg ?_
      refine ow_batch [.p, .p] rfl ?_
      refine ow_nil ?_
      refine x_qs ?_
      refine c_ret ?_
      exact x_retR (rs := [.tmp 2]) (vs := [.int .i64 i28]) rfl ⟨rfl, trivial⟩ (fun w' hw' => by
          obtain rfl := of_some H
          exact ⟨rfl, hw'.ext⟩)

set_option maxHeartbeats 4000000 in
set_option maxRecDepth 100000 in
theorem spec_WindowText_ok (w : World) {p0 : Timpl_Window} {cs0 : List Value} {r : List UInt8} (H : spec_WindowText p0 = some r)  (g0 : (eTimpl_Window).rd w [] p0 cs0) :
    Calls Tryd.prog 13 #[.agg cs0.toArray] w (fun en w' => en = .returned (vS r) ∧ Ext [] w w') := by
  obtain ⟨c10, rfl, g11⟩ := rdo_Timpl_Window g0
  obtain ⟨a12, c13, rfl⟩ := rd_sl1 g11
  unfold spec_WindowText at H
  refine f_enter (vs := [.agg #[.slice a12 p0.Rows_.length c13]]) Tryd.func13 rfl Tryd.ntmps13 rfl (St.init w []) ?_
  refine c_seq ?_
  refine c_reg ?_
  refine ow_box (cs := [.slice a12 p0.Rows_.length c13]) rfl rfl rfl rfl rfl rfl (fun _ => kp) (fun b14 => ?_)
  refine ow_batch [.p] rfl ?_
  refine ow_nil ?_
  refine x_qs ?_
  refine c_seq ?_
  refine c_seq ?_
  refine c_reg ?_
  refine ow_r rfl (dstOk_lt rfl) (ry_box (off := 0) (ds := [.slice a12 p0.Rows_.length c13]) rfl rfl ty32 (boxIn (i := 0) rfl) rfl rfl) ?_
  obtain ⟨y15, h16, H⟩ := of_bind H
  refine ow_q rfl rfl (dstOk_lt rfl) (qy_call rfl fn39 rfl (fun w1 hw1 => spec_WindowOk_ok w1 (cs0 := [.slice a12 p0.Rows_.length c13]) h16 (rdm_Timpl_Window (x := p0) (c0 := [.slice a12 p0.Rows_.length c13]) (rds_bor g11 w1 hw1)))) (fun _ _ => trivial) ?_
  refine ow_batch [.p] rfl ?_
  refine ow_nil ?_
  refine x_qs ?_
  refine c_if rfl (fun hb => ?_) (fun hb => ?_)
  · have H := of_if_t hb H
    refine c_seq ?_
    refine c_reg ?_
    refine ow_batch [.p] rfl ?_
    refine ow_nil ?_
    refine x_qs ?_
    refine c_ret ?_
    refine x_qs_ret ?_
    exact x_retR (rs := [.tmp 2]) (vs := [vS ([] : List UInt8)]) rfl ⟨rfl, trivial⟩ (fun w' hw' => by
        obtain rfl := of_some H
        exact ⟨rfl, hw'.ext⟩)
  · have H := of_if_f hb H
    refine c_skip ?_
    refine x_qs ?_
    refine c_seq ?_
    refine c_regQ mixed (by kernel_rfl) ?_
    refine ow_r rfl (dstOk_lt rfl) (ry_box (off := 0) (ds := [.slice a12 p0.Rows_.length c13]) rfl rfl ty32 (boxIn (i := 0) rfl) rfl rfl) ?_
    obtain ⟨y17, h18, H⟩ := of_bind H
    refine ow_q rfl rfl (dstOk_lt rfl) (qy_call rfl fn40 rfl (fun w1 hw1 => spec_WindowOnes_ok w1 (cs0 := [.slice a12 p0.Rows_.length c13]) h18 (rdm_Timpl_Window (x := p0) (c0 := [.slice a12 p0.Rows_.length c13]) (rds_bor g11 w1 hw1)))) (fun _ _ => trivial) ?_
    obtain ⟨y19, h20, H⟩ := of_bind H
    refine ow_q rfl rfl (dstOk_lt rfl) (qy_call rfl fn35 rfl (fun w1 hw1 => spec_Digits_ok w1  h20)) (fun _ _ => trivial) ?_
    obtain ⟨s21, h22, H⟩ := of_bind H
    refine ow_r rfl (dstOk_lt rfl) (ry_sadd rfl rfl rfl h22) ?_
    refine ow_r rfl (dstOk_lt rfl) (ry_box (off := 0) (ds := [.slice a12 p0.Rows_.length c13]) rfl rfl ty32 (boxIn (i := 0) rfl) rfl rfl) ?_
    obtain ⟨y23, h24, H⟩ := of_bind H
    refine ow_q rfl rfl (dstOk_lt rfl) (qy_call rfl fn41 rfl (fun w1 hw1 => spec_WindowTotal_ok w1 (cs0 := [.slice a12 p0.Rows_.length c13]) h24 (rdm_Timpl_Window (x := p0) (c0 := [.slice a12 p0.Rows_.length c13]) (rds_bor g11 w1 hw1)))) (fun _ _ => trivial) ?_
    obtain ⟨y25, h26, H⟩ := of_bind H
    refine ow_q rfl rfl (dstOk_lt rfl) (qy_call rfl fn35 rfl (fun w1 hw1 => spec_Digits_ok w1  h26)) (fun _ _ => trivial) ?_
    obtain ⟨s27, h28, H⟩ := of_bind H
    refine ow_r rfl (dstOk_lt rfl) (ry_sadd rfl rfl rfl h28) ?_
    refine ow_batch [.p] rfl ?_
    refine ow_nilQ ?_
    refine x_qs ?_
    refine c_seq ?_
    refine c_reg ?_
    refine ow_r rfl (dstOk_lt rfl) (ry_box (off := 0) (ds := [.slice a12 p0.Rows_.length c13]) rfl rfl ty32 (boxIn (i := 0) rfl) rfl rfl) ?_
    obtain ⟨y29, h30, H⟩ := of_bind H
    refine ow_callS rfl fn42 rfl rfl rfl rfl (fun w1 hw1 => spec_Buckets_ok w1 (cs0 := [.slice a12 p0.Rows_.length c13]) h30 (hw1.carve [] rfl rfl) (rdm_Timpl_Window (x := p0) (c0 := [.slice a12 p0.Rows_.length c13]) (rds_bor g11 w1 hw1))) (fun v31 w1 w2 hw1 hR33 => ?_)
    obtain ⟨a34, n35, c36, F37, rfl, hS32⟩ := hR33
    obtain rfl := own_nS (i := 0) hS32 rfl
    refine ⟨St w [] [_, _], hw1.comp [] rfl rfl hS32, fun _ _ => trivial, ?_⟩
    refine ow_batch [.p] rfl ?_
    refine ow_nil ?_
    refine x_qs ?_
    refine c_seq ?_
    refine c_seq ?_
    refine c_reg ?_
    refine ow_batch [.p] rfl ?_
    refine ow_nil ?_
    refine x_qs ?_
    refine c_block ?_
    refine CW.at (loopI2 (fun (s56 : List UInt8) (i57 : Int) => St w [] [Res.own (eList (eTimpl_Bucket) 89) F37 y29 [.slice a34 y29.length c36]]) (fun (s56 : List UInt8) (i57 : Int) => [(3, vS s56), (4, .slice a34 y29.length c36), (5, .int .i64 i57)]) (fun kk => fun (s56 : List UInt8) (i57 : Int) => spec_WindowText_L1 y29 kk s56 i57 = some r) (fun _ _ H => ?_) (fun k1 ihk1 s56 i57 H => ?_) Fuel (s27) (0) (H)) (fun _ h => St.sel [1] rfl rfl h) ⟨rfl, rfl, rfl,  trivial⟩
    · unfold spec_WindowText_L1 at H
      exact absurd H (by simp)
    · unfold spec_WindowText_L1 at H
      refine c_seq ?_
      refine c_seq ?_
      refine c_reg ?_
      refine ow_batch [.p, .p, .lenS 86 89 sl86, .p] rfl ?_
      refine ow_nil ?_
      refine x_qs ?_
      refine c_if rfl (fun hb => ?_) (fun hb => ?_)
      · have H := of_if_t hb H
        refine c_skip ?_
        refine x_qs ?_
        refine c_seq ?_
        refine c_block ?_
        refine c_regQ mixed (by kernel_rfl) ?_
        refine ow_batch [.p] rfl ?_
        obtain ⟨s76, h77, H⟩ := of_bind H
        refine ow_r rfl (dstOk_lt rfl) (ry_sadd rfl rfl rfl h77) ?_
        refine ow_batch [.p, .p] rfl ?_
        obtain ⟨e78, h79, H⟩ := of_bind H
        refine ow_ixE (e := eTimpl_Bucket) (xs := y29) (j := i57) rfl rfl rfl rfl rfl sl86 ty89 rfl (fun w1 hw1 => rds_own (e := eList (eTimpl_Bucket) 89) (r := 0) rfl w1 hw1) h79 rfl ?_
        refine ow_batch [.fa 89 1 1 fa89_1] rfl ?_
        refine ow_r rfl (dstOk_lt rfl) (ry_load1 rfl rfl ty3 (at_KA (at_castA (at_eltE (fun w1 hw1 => rds_own (e := eList (eTimpl_Bucket) 89) (r := 0) rfl w1 hw1) h79 (fun _ _ h => h)) rfl) 1 1)) ?_
        obtain ⟨y80, h81, H⟩ := of_bind H
        refine ow_q rfl rfl (dstOk_lt rfl) (qy_call rfl fn35 rfl (fun w1 hw1 => spec_Digits_ok w1  h81)) (fun _ _ => trivial) ?_
        obtain ⟨s82, h83, H⟩ := of_bind H
        refine ow_r rfl (dstOk_lt rfl) (ry_sadd rfl rfl rfl h83) ?_
        obtain ⟨s84, h85, H⟩ := of_bind H
        refine ow_r rfl (dstOk_lt rfl) (ry_sadd rfl rfl rfl h85) ?_
        refine ow_batch [.p, .p] rfl ?_
        obtain ⟨e86, h87, H⟩ := of_bind H
        refine ow_ixE (e := eTimpl_Bucket) (xs := y29) (j := i57) rfl rfl rfl rfl rfl sl86 ty89 rfl (fun w1 hw1 => rds_own (e := eList (eTimpl_Bucket) 89) (r := 0) rfl w1 hw1) h87 rfl ?_
        refine ow_batch [.fa 89 0 0 fa89_0] rfl ?_
        refine ow_r rfl (dstOk_lt rfl) (ry_load1 rfl rfl ty3 (at_KA (at_castA (at_eltE (fun w1 hw1 => rds_own (e := eList (eTimpl_Bucket) 89) (r := 0) rfl w1 hw1) h87 (fun _ _ h => h)) rfl) 0 1)) ?_
        obtain ⟨y88, h89, H⟩ := of_bind H
        refine ow_q rfl rfl (dstOk_lt rfl) (qy_call rfl fn35 rfl (fun w1 hw1 => spec_Digits_ok w1  h89)) (fun _ _ => trivial) ?_
        obtain ⟨s90, h91, H⟩ := of_bind H
        refine ow_r rfl (dstOk_lt rfl) (ry_sadd rfl rfl rfl h91) ?_
        refine ow_batch [.p] rfl ?_
        refine ow_nilQ ?_
        refine x_qb ?_
        refine x_qs ?_
        refine c_reg ?_
        refine ow_batch [.p, .p, .p] rfl ?_
        refine ow_nil ?_
        exact x_ql (RW.at (ihk1 (s90) (IntKind.i64.wrap (i57 + 1)) (H)) (fun _ h => St.sel [0] rfl rfl h) ⟨rfl, rfl, rfl, trivial⟩)
      · have H := of_if_f hb H
        refine c_exit ?_
        refine x_qs_exit ?_
        refine x_ql_exit ?_
        refine x_qb_here ?_
        refine x_qs ?_
        refine c_seq ?_
        refine c_reg ?_
        refine ow_batch [.p, .p] rfl ?_
        refine ow_nil ?_
        refine x_qs ?_
        refine c_ret ?_
        exact x_retR (rs := [.tmp 2]) (vs := [vS s56]) rfl ⟨rfl, trivial⟩ (fun w' hw' => by
            obtain rfl := of_some H
            exact ⟨rfl, hw'.ext⟩)

set_option maxHeartbeats 4000000 in
set_option maxRecDepth 100000 in
theorem impl_WindowOk_1_ok (w : World) {p0 : Int} {p1 : Int} {q_1 : Addr} {cs_1 : List Value} {r : Bool} (H : impl_WindowOk_1 p0 p1 = some r)  (g_1 : (eVal (Value.int .i64) (fun _ => rfl)).rd w [] p1 cs_1) (hA_1 : At w [] q_1 cs_1) :
    Calls Tryd.prog 97 #[.int .i64 p0, .pointer (some q_1)] w (fun en w' => en = .returned (.bool r) ∧ Ext [] w w') := by
  obtain rfl : cs_1 = [.int .i64 p1] := g_1
  unfold impl_WindowOk_1 at H
  refine f_enter (vs := [.int .i64 p0, .pointer (some q_1)]) Tryd.func97 rfl Tryd.ntmps97 rfl (St.init w []) ?_
  refine c_seq ?_
  refine c_reg ?_
  refine ow_batch [.p] rfl ?_
  refine ow_nil ?_
  refine x_qs ?_
  refine c_seq ?_
  refine c_reg ?_
  refine ow_batch [.p] rfl ?_
  refine ow_r rfl (dstOk_lt rfl) (ry_load1 rfl rfl ty3 (at_bor bor hA_1)) ?_
  obtain ⟨x10, h11, H⟩ := of_bind H
  refine ow_r rfl (dstOk_lt rfl) (ry_shl rfl rfl rfl h11) ?_
  obtain ⟨y12, h13, H⟩ := of_bind H
  refine ow_q rfl rfl (dstOk_lt rfl) (qy_call rfl fn95 rfl (fun w1 hw1 => impl_within_ok w1  h13)) (fun _ _ => trivial) ?_
  refine ow_batch [.p, .p] rfl ?_
  refine ow_nil ?_
  refine x_qs ?_
  refine c_ret ?_
  exact x_retR (rs := [.tmp 3]) (vs := [.bool (!y12)]) rfl ⟨rfl, trivial⟩ (fun w' hw' => by
      obtain rfl := of_some H
      exact ⟨rfl, hw'.ext⟩)

set_option maxHeartbeats 4000000 in
set_option maxRecDepth 100000 in
theorem lib_slices_IndexFunc___int_int___impl_WindowOk_1_ok (w : World) {p0 : List Int} {p1_0 : Int} {a_0 : Option Addr} {n_0 c_0 : Nat} {q_1_0 : Addr} {cs_1_0 : List Value} {r : Int} (H : lib_slices_IndexFunc___int_int___impl_WindowOk_1 p0 p1_0 = some r)  (g0 : (eList (eVal (Value.int .i64) (fun _ => rfl)) 3).rd w [] p0 [.slice a_0 n_0 c_0]) (g_1_0 : (eVal (Value.int .i64) (fun _ => rfl)).rd w [] p1_0 cs_1_0) (hA_1_0 : At w [] q_1_0 cs_1_0) :
    Calls Tryd.prog 122 #[.slice a_0 n_0 c_0, .func (.func 97) #[] #[.pointer (some q_1_0)]] w (fun en w' => en = .returned (.int .i64 r) ∧ Ext [] w w') := by
  obtain rfl := rd_n g0
  obtain rfl : cs_1_0 = [.int .i64 p1_0] := g_1_0
  unfold lib_slices_IndexFunc___int_int___impl_WindowOk_1 at H
  refine f_enter (vs := [.slice a_0 p0.length c_0, .func (.func 97) #[] #[.pointer (some q_1_0)]]) Tryd.func122 rfl Tryd.ntmps122 rfl (St.init w []) ?_
  refine c_seq ?_
  refine c_reg ?_
  refine ow_batch [.p] rfl ?_
  refine ow_nil ?_
  refine x_qs ?_
  refine c_seq ?_
  refine c_seq ?_
  refine c_reg ?_
  refine ow_batch [.p, .lenS 22 3 sl22, .p] rfl ?_
  refine ow_nil ?_
  refine x_qs ?_
  refine c_block ?_
  refine CW.at (loopI1 (fun (i15 : Int) => St w [] []) (fun (i15 : Int) => [(0, .slice a_0 p0.length c_0), (1, .func (.func 97) #[] #[.pointer (some q_1_0)]), (7, .int .i64 (p0.length : Int)), (8, .int .i64 i15)]) (fun kk => fun (i15 : Int) => lib_slices_IndexFunc___int_int___impl_WindowOk_1_L1 p0 p1_0 kk i15 = some r) (fun _ H => ?_) (fun k1 ihk1 i15 H => ?_) Fuel (0) (H)) (fun _ h => St.sel [] rfl rfl h) ⟨rfl, rfl, rfl, rfl,  trivial⟩
  · unfold lib_slices_IndexFunc___int_int___impl_WindowOk_1_L1 at H
    exact absurd H (by simp)
  · unfold lib_slices_IndexFunc___int_int___impl_WindowOk_1_L1 at H
    refine c_seq ?_
    refine c_reg ?_
    refine ow_batch [.p] rfl ?_
    refine ow_nil ?_
    refine x_qs ?_
    refine c_seq ?_
    refine c_if rfl (fun hb => ?_) (fun hb => ?_)
    · have H := of_if_t hb H
      refine c_skip ?_
      refine x_qs ?_
      refine c_seq ?_
      refine c_block ?_
      refine c_seq ?_
      refine c_reg ?_
      refine ow_batch [.p, .p] rfl ?_
      refine ow_nil ?_
      refine x_qs ?_
      refine c_seq ?_
      refine c_reg ?_
      refine ow_batch [.p, .p, .p] rfl ?_
      obtain ⟨e21, h22, H⟩ := of_bind H
      refine ow_ixE (e := eVal (Value.int .i64) (fun _ => rfl)) (xs := p0) (j := i15) rfl rfl rfl rfl rfl sl22 ty3 rfl (fun w1 hw1 => rds_bor g0 w1 hw1) h22 (by rw [Nat.mul_one]) ?_
      refine ow_r rfl (dstOk_lt rfl) (ry_load1 rfl rfl ty3 (at_elV (fun w1 hw1 => rds_bor g0 w1 hw1) h22)) ?_
      obtain ⟨y23, h24, H⟩ := of_bind H
      refine ow_q rfl rfl (dstOk_lt rfl) (qy_callV (cap := [.pointer (some q_1_0)]) rfl fn97 rfl rfl (fun w1 hw1 => impl_WindowOk_1_ok w1 (cs_1 := [.int .i64 p1_0]) h24 rfl (at_bor bor hA_1_0 w1 hw1))) (fun _ _ => trivial) ?_
      refine ow_nil ?_
      refine x_qs ?_
      refine c_if rfl (fun hb => ?_) (fun hb => ?_)
      · have H := of_if_t hb H
        refine c_seq ?_
        refine c_reg ?_
        refine ow_batch [.p, .p] rfl ?_
        refine ow_nil ?_
        refine x_qs ?_
        refine c_ret ?_
        refine x_qb_ret ?_
        refine x_qs_ret ?_
        refine x_ql_ret ?_
        refine x_qb_ret ?_
        refine x_qs_ret ?_
        exact x_retR (rs := [.tmp 4]) (vs := [.int .i64 i15]) rfl ⟨rfl, trivial⟩ (fun w' hw' => by
            obtain rfl := of_some H
            exact ⟨rfl, hw'.ext⟩)
      · have H := of_if_f hb H
        refine c_skip ?_
        refine x_qb ?_
        refine x_qs ?_
        refine c_reg ?_
        refine ow_batch [.p, .p] rfl ?_
        refine ow_nil ?_
        exact x_ql (RW.at (ihk1 (IntKind.i64.wrap (i15 + 1)) (H)) (fun _ h => St.sel [] rfl rfl h) ⟨rfl, rfl, rfl, rfl, trivial⟩)
    · have H := of_if_f hb H
      refine c_exit ?_
      refine x_qs_exit ?_
      refine x_ql_exit ?_
      refine x_qb_here ?_
      refine x_qs ?_
      refine c_seq ?_
      refine c_reg ?_
      refine ow_batch [.p] rfl ?_
      refine ow_nil ?_
      refine x_qs ?_
      refine c_ret ?_
      exact x_retR (rs := [.tmp 4]) (vs := [.int .i64 (-1)]) rfl ⟨rfl, trivial⟩ (fun w' hw' => by
          obtain rfl := of_some H
          exact ⟨rfl, hw'.ext⟩)

set_option maxHeartbeats 4000000 in
set_option maxRecDepth 100000 in
theorem lib_slices_ContainsFunc___int_int___impl_WindowOk_1_ok (w : World) {p0 : List Int} {p1_0 : Int} {a_0 : Option Addr} {n_0 c_0 : Nat} {q_1_0 : Addr} {cs_1_0 : List Value} {r : Bool} (H : lib_slices_ContainsFunc___int_int___impl_WindowOk_1 p0 p1_0 = some r)  (g0 : (eList (eVal (Value.int .i64) (fun _ => rfl)) 3).rd w [] p0 [.slice a_0 n_0 c_0]) (g_1_0 : (eVal (Value.int .i64) (fun _ => rfl)).rd w [] p1_0 cs_1_0) (hA_1_0 : At w [] q_1_0 cs_1_0) :
    Calls Tryd.prog 96 #[.slice a_0 n_0 c_0, .func (.func 97) #[] #[.pointer (some q_1_0)]] w (fun en w' => en = .returned (.bool r) ∧ Ext [] w w') := by
  obtain rfl := rd_n g0
  obtain rfl : cs_1_0 = [.int .i64 p1_0] := g_1_0
  unfold lib_slices_ContainsFunc___int_int___impl_WindowOk_1 at H
  refine f_enter (vs := [.slice a_0 p0.length c_0, .func (.func 97) #[] #[.pointer (some q_1_0)]]) Tryd.func96 rfl Tryd.ntmps96 rfl (St.init w []) ?_
  refine c_seq ?_
  refine c_reg ?_
  refine ow_batch [.p] rfl ?_
  refine ow_nil ?_
  refine x_qs ?_
  refine c_seq ?_
  refine c_reg ?_
  refine ow_batch [.p, .p] rfl ?_
  obtain ⟨y10, h11, H⟩ := of_bind H
  refine ow_q rfl rfl (dstOk_lt rfl) (qy_call rfl fn122 rfl (fun w1 hw1 => lib_slices_IndexFunc___int_int___impl_WindowOk_1_ok w1 (cs_1_0 := [.int .i64 p1_0]) h11 (rds_bor g0 w1 hw1) rfl (at_bor bor hA_1_0 w1 hw1))) (fun _ _ => trivial) ?_
  refine ow_batch [.p, .p] rfl ?_
  refine ow_nil ?_
  refine x_qs ?_
  refine c_ret ?_
  exact x_retR (rs := [.tmp 4]) (vs := [.bool (decide (y10 ≥ 0))]) rfl ⟨rfl, trivial⟩ (fun w' hw' => by
      obtain rfl := of_some H
      exact ⟨rfl, hw'.ext⟩)

set_option maxHeartbeats 4000000 in
set_option maxRecDepth 100000 in
theorem impl_WindowOk_ok (w : World) {p0 : Timpl_Window} {cs0 : List Value} {r : Bool} (H : impl_WindowOk p0 = some r)  (g0 : (eTimpl_Window).rd w [] p0 cs0) :
    Calls Tryd.prog 44 #[.agg cs0.toArray] w (fun en w' => en = .returned (.bool r) ∧ Ext [] w w') := by
  obtain ⟨c10, rfl, g11⟩ := rdo_Timpl_Window g0
  obtain ⟨a12, c13, rfl⟩ := rd_sl1 g11
  unfold impl_WindowOk at H
  refine f_enter (vs := [.agg #[.slice a12 p0.Rows_.length c13]]) Tryd.func44 rfl Tryd.ntmps44 rfl (St.init w []) ?_
  refine c_seq ?_
  refine c_reg ?_
  refine ow_box (cs := [.slice a12 p0.Rows_.length c13]) rfl rfl rfl rfl rfl rfl (fun _ => kp) (fun b14 => ?_)
  refine ow_batch [.p] rfl ?_
  refine ow_nil ?_
  refine x_qs ?_
  refine c_seq ?_
  refine c_seq ?_
  refine c_reg ?_
  refine ow_batch [.fa 32 0 0 fa32_0] rfl ?_
  refine ow_r rfl (dstOk_lt rfl) (ry_box1 (off := 0) rfl rfl ty27 (boxIn (i := 0) rfl) rfl) ?_
  refine ow_batch [.lenS 27 22 sl27, .p] rfl ?_
  refine ow_nil ?_
  refine x_qs ?_
  refine c_if rfl (fun hb => ?_) (fun hb => ?_)
  · have H := of_if_t hb H
    refine c_seq ?_
    refine c_reg ?_
    refine ow_batch [.p] rfl ?_
    refine ow_nil ?_
    refine x_qs ?_
    refine c_ret ?_
    refine x_qs_ret ?_
    exact x_retR (rs := [.tmp 2]) (vs := [.bool false]) rfl ⟨rfl, trivial⟩ (fun w' hw' => by
        obtain rfl := of_some H
        exact ⟨rfl, hw'.ext⟩)
  · have H := of_if_f hb H
    refine c_skip ?_
    refine x_qs ?_
    refine c_seq ?_
    refine c_seq ?_
    refine c_reg ?_
    refine ow_batch [.fa 32 0 0 fa32_0] rfl ?_
    refine ow_r rfl (dstOk_lt rfl) (ry_box1 (off := 0) rfl rfl ty27 (boxIn (i := 0) rfl) rfl) ?_
    refine ow_batch [.lenS 27 22 sl27, .p] rfl ?_
    refine ow_nil ?_
    refine x_qs ?_
    refine c_block ?_
    refine CW.at (loopI1 (fun (i33 : Int) => St w [] []) (fun (i33 : Int) => [(10, .slice a12 p0.Rows_.length c13), (11, .int .i64 (p0.Rows_.length : Int)), (12, .int .i64 i33)]) (fun kk => fun (i33 : Int) => impl_WindowOk_L1 p0 kk i33 = some r) (fun _ H => ?_) (fun k1 ihk1 i33 H => ?_) Fuel (0) (H)) (fun _ h => St.sel [] rfl rfl h) ⟨rfl, rfl, rfl,  trivial⟩
    · unfold impl_WindowOk_L1 at H
      exact absurd H (by simp)
    · unfold impl_WindowOk_L1 at H
      refine c_seq ?_
      refine c_reg ?_
      refine ow_batch [.p] rfl ?_
      refine ow_nil ?_
      refine x_qs ?_
      refine c_seq ?_
      refine c_if rfl (fun hb => ?_) (fun hb => ?_)
      · have H := of_if_t hb H
        refine c_skip ?_
        refine x_qs ?_
        refine c_seq ?_
        refine c_block ?_
        refine c_seq ?_
        refine c_reg ?_
        refine ow_batch [.p] rfl ?_
        obtain ⟨e51, h52, H⟩ := of_bind H
        refine ow_ixB rfl rfl rfl rfl rfl sl27 ty22 rfl g11 h52 (fun q55 c56 hd53 hA54 => ?_)
        obtain ⟨a57, c58, rfl⟩ := rd_sl1 hd53
        refine ow_r rfl (dstOk_lt rfl) (ry_load1 rfl rfl ty22 (at_bor bor hA54)) ?_
        refine ow_alloc rfl rfl rfl rfl ty3 (fun _ => kp) (fun b59 => ?_)
        refine ow_storeC (off := 0) [.int .i64 i33] [_] (i := 0) rfl rfl rfl rfl rfl rfl ty3 rfl rfl (by intro u hu; simp only [List.mem_cons, List.not_mem_nil, or_false] at hu; rcases hu with rfl <;> rfl) rfl rfl rfl kp ?_
        refine ow_batch [.p] rfl ?_
        refine ow_nil ?_
        refine x_qs ?_
        refine c_seq ?_
        refine c_reg ?_
        refine ow_batch [.p, .lenS 22 3 sl22] rfl ?_
        obtain ⟨y60, h61, H⟩ := of_bind H
        refine ow_q rfl rfl (dstOk_lt rfl) (qy_call rfl fn95 rfl (fun w1 hw1 => impl_within_ok w1  h61)) (fun _ _ => trivial) ?_
        refine ow_batch [.p, .p] rfl ?_
        obtain ⟨u62, hu66, H⟩ := of_bind H
        refine ow_cut [(25, .bool u62), (10, .slice a12 p0.Rows_.length c13), (11, .int .i64 (p0.Rows_.length : Int)), (12, .int .i64 i33)] 4 ?_ (fun key => OW.sub (R := [(3, .pointer (some ⟨b59, 0, none⟩)), (4, .slice a57 e51.length c58), (10, .slice a12 p0.Rows_.length c13), (11, .int .i64 (p0.Rows_.length : Int)), (12, .int .i64 i33), (21, .bool (!y60))]) ?_ ⟨rfl, rfl, rfl, rfl, rfl, rfl, trivial⟩)
        · refine ow_nil ?_
          refine x_qs ?_
          refine c_if rfl (fun hb => ?_) (fun hb => ?_)
          · have H := of_if_t hb H
            refine c_seq ?_
            refine c_reg ?_
            refine ow_batch [.p] rfl ?_
            refine ow_nil ?_
            refine x_qs ?_
            refine c_ret ?_
            refine x_qb_ret ?_
            refine x_qs_ret ?_
            refine x_ql_ret ?_
            refine x_qb_ret ?_
            refine x_qs_ret ?_
            exact x_retR (rs := [.tmp 2]) (vs := [.bool false]) rfl ⟨rfl, trivial⟩ (fun w' hw' => by
                obtain rfl := of_some H
                exact ⟨rfl, hw'.ext⟩)
          · have H := of_if_f hb H
            refine c_skip ?_
            refine x_qb ?_
            refine x_qs ?_
            refine c_reg ?_
            refine ow_batch [.p, .p] rfl ?_
            refine ow_nil ?_
            exact x_ql (RW.at (ihk1 (IntKind.i64.wrap (i33 + 1)) (H)) (fun _ h => St.sel [] rfl rfl h) ⟨rfl, rfl, rfl, trivial⟩)
        · clear H
          have H := hu66
          clear hu66
          generalize (!y60) = t65 at H key ⊢
          cases t65
          · have H := of_if_f rfl H
            refine ow_batch [.p] rfl ?_
            refine ow_r rfl (dstOk_lt rfl) (ry_makeFunc rfl rfl) ?_
            obtain ⟨y63, h64, H⟩ := of_bind H
            refine ow_q rfl rfl (dstOk_lt rfl) (qy_call rfl fn96 rfl (fun w1 hw1 => lib_slices_ContainsFunc___int_int___impl_WindowOk_1_ok w1 (cs_1_0 := [.int .i64 i33]) h64 (rds_bor hd53 w1 hw1) rfl (at_box (T := 3) 0 (boxIn (i := 0) rfl) rfl w1 hw1))) (fun _ _ => trivial) ?_
            refine ow_batch [.p] rfl ?_
            obtain rfl := of_some H
            exact OW.sub key ⟨rfl, rfl, rfl, rfl, trivial⟩
          · have H := of_if_t rfl H
            refine ow_batch [.p, .p, .p, .p] rfl ?_
            obtain rfl := of_some H
            exact OW.sub key ⟨rfl, rfl, rfl, rfl, trivial⟩
      · have H := of_if_f hb H
        refine c_exit ?_
        refine x_qs_exit ?_
        refine x_ql_exit ?_
        refine x_qb_here ?_
        refine x_qs ?_
        refine c_seq ?_
        refine c_reg ?_
        refine ow_batch [.p] rfl ?_
        refine ow_nil ?_
        refine x_qs ?_
        refine c_ret ?_
        exact x_retR (rs := [.tmp 2]) (vs := [.bool true]) rfl ⟨rfl, trivial⟩ (fun w' hw' => by
            obtain rfl := of_some H
            exact ⟨rfl, hw'.ext⟩)

set_option maxHeartbeats 4000000 in
set_option maxRecDepth 100000 in
theorem impl_Buckets_ok (w : World) {M0 : List Nat} {p0 : Timpl_Window} {cs0 : List Value} {r : List Timpl_Bucket} (H : impl_Buckets p0 = some r) (HS : St w M0 [] w) (g0 : (eTimpl_Window).rd w M0 p0 cs0) :
    Calls Tryd.prog 48 #[.agg cs0.toArray] w (fun en w' => ∃ v, en = .returned v ∧ ∃ (a0 : Option Addr), ∃ (n0 : Nat), ∃ (c0 : Nat), ∃ (F0 : List Nat), v = .slice a0 n0 c0 ∧ St w M0 [Res.own (eList (eTimpl_Bucket) 89) F0 r [.slice a0 n0 c0]] w') := by
  obtain ⟨c10, rfl, g11⟩ := rdo_Timpl_Window g0
  obtain ⟨a12, c13, rfl⟩ := rd_sl1 g11
  unfold impl_Buckets at H
  refine f_enter (vs := [.agg #[.slice a12 p0.Rows_.length c13]]) Tryd.func48 rfl Tryd.ntmps48 rfl (HS) ?_
  refine c_seq ?_
  refine c_reg ?_
  refine ow_box (cs := [.slice a12 p0.Rows_.length c13]) rfl rfl rfl rfl rfl rfl (fun _ => kp) (fun b14 => ?_)
  refine ow_batch [.p] rfl ?_
  refine ow_nil ?_
  refine x_qs ?_
  refine c_seq ?_
  refine c_seq ?_
  refine c_reg ?_
  refine ow_r rfl (dstOk_lt rfl) (ry_box (off := 0) (ds := [.slice a12 p0.Rows_.length c13]) rfl rfl ty32 (boxIn (i := 0) rfl) rfl rfl) ?_
  obtain ⟨y15, h16, H⟩ := of_bind H
  refine ow_q rfl rfl (dstOk_lt rfl) (qy_call rfl fn44 rfl (fun w1 hw1 => impl_WindowOk_ok w1 (cs0 := [.slice a12 p0.Rows_.length c13]) h16 (rdm_Timpl_Window (x := p0) (c0 := [.slice a12 p0.Rows_.length c13]) (rds_bor g11 w1 hw1)))) (fun _ _ => trivial) ?_
  refine ow_batch [.p] rfl ?_
  refine ow_nil ?_
  refine x_qs ?_
  refine c_if rfl (fun hb => ?_) (fun hb => ?_)
  · have H := of_if_t hb H
    refine c_seq ?_
    refine c_reg ?_
    refine ow_batch [.p] rfl ?_
    refine ow_nil ?_
    refine x_qs ?_
    refine c_ret ?_
    refine x_qs_ret ?_
    refine xw_st (fun _ h => St.pushNil (e := eTimpl_Bucket) (T := 89) h) ?_
    exact x_retR (rs := [.tmp 2]) (vs := [.slice none 0 0]) rfl ⟨rfl, trivial⟩ (fun w' hw' => by
        obtain rfl := of_some H
        exact ⟨_, rfl, none, 0, 0, [], rfl, hw'.sel [1] rfl rfl⟩)
  · have H := of_if_f hb H
    refine c_skip ?_
    refine x_qs ?_
    refine c_seq ?_
    refine c_reg ?_
    refine ow_blit0 (e := eTimpl_Bucket) rfl rfl rfl rfl sl86 ty89 (fun _ => kp) (fun b17 => ?_)
    refine ow_batch [.p] rfl ?_
    refine ow_nil ?_
    refine x_qs ?_
    refine c_seq ?_
    refine c_seq ?_
    refine c_reg ?_
    refine ow_batch [.fa 32 0 0 fa32_0] rfl ?_
    refine ow_r rfl (dstOk_lt rfl) (ry_box1 (off := 0) rfl rfl ty27 (boxIn (i := 0) rfl) rfl) ?_
    refine ow_batch [.lenS 27 22 sl27, .p, .p] rfl ?_
    refine ow_nil ?_
    refine x_qs ?_
    refine c_block ?_
    refine CW.at (loopI5 (fun (l83 : List Timpl_Bucket) (a84 : Option Addr) (c85 : Nat) (F86 : List Nat) (i88 : Int) => St w M0 [Res.box b14 32 [.slice a12 p0.Rows_.length c13], Res.own (eList (eTimpl_Bucket) 89) F86 l83 [.slice a84 l83.length c85]]) (fun (l83 : List Timpl_Bucket) (a84 : Option Addr) (c85 : Nat) (F86 : List Nat) (i88 : Int) => [(1, .pointer (some ⟨b14, 0, none⟩)), (3, .slice a84 l83.length c85), (4, .int .i64 i88)]) (fun kk => fun (l83 : List Timpl_Bucket) (a84 : Option Addr) (c85 : Nat) (F86 : List Nat) (i88 : Int) => a84.isNone = false ∧ impl_Buckets_L1 p0 kk l83 i88 = some r) (fun _ _ _ _ _ H => ?_) (fun k1 ihk1 l83 a84 c85 F86 i88 ⟨hz87, H⟩ => ?_) Fuel (([] : List Timpl_Bucket)) ((some ⟨b17, 0, none⟩)) (0) ([b17]) (IntKind.i64.wrap ((p0.Rows_.length : Int) - 1)) (⟨rfl, H⟩)) (fun _ h => St.sel [0, 1] rfl rfl h) ⟨rfl, rfl, rfl,  trivial⟩
    · unfold impl_Buckets_L1 at H
      exact absurd H (by simp)
    · unfold impl_Buckets_L1 at H
      refine c_seq ?_
      refine c_seq ?_
      refine c_reg ?_
      refine ow_batch [.p, .p] rfl ?_
      refine ow_nil ?_
      refine x_qs ?_
      refine c_if rfl (fun hb => ?_) (fun hb => ?_)
      · have H := of_if_t hb H
        refine c_skip ?_
        refine x_qs ?_
        refine c_seq ?_
        refine c_block ?_
        refine c_seq ?_
        refine c_reg ?_
        refine ow_batch [.fa 32 0 0 fa32_0] rfl ?_
        refine ow_r rfl (dstOk_lt rfl) (ry_box1 (off := 0) rfl rfl ty27 (boxIn (i := 0) rfl) rfl) ?_
        refine ow_batch [.p] rfl ?_
        obtain ⟨e154, h155, H⟩ := of_bind H
        refine ow_ixB rfl rfl rfl rfl rfl sl27 ty22 rfl g11 h155 (fun q158 c159 hd156 hA157 => ?_)
        obtain ⟨a160, c161, rfl⟩ := rd_sl1 hd156
        refine ow_r rfl (dstOk_lt rfl) (ry_load1 rfl rfl ty22 (at_bor bor hA157)) ?_
        refine ow_batch [.lenS 22 3 sl22, .p] rfl ?_
        refine ow_nil ?_
        refine x_qs ?_
        refine c_block ?_
        refine CW.at (loopI5 (fun (i179 : Int) (l180 : List Timpl_Bucket) (a181 : Option Addr) (c182 : Nat) (F183 : List Nat) => St w M0 [Res.box b14 32 [.slice a12 p0.Rows_.length c13], Res.own (eList (eTimpl_Bucket) 89) F183 l180 [.slice a181 l180.length c182]]) (fun (i179 : Int) (l180 : List Timpl_Bucket) (a181 : Option Addr) (c182 : Nat) (F183 : List Nat) => [(1, .pointer (some ⟨b14, 0, none⟩)), (3, .slice a181 l180.length c182), (4, .int .i64 i88), (23, .slice a160 e154.length c161), (24, .int .i64 (e154.length : Int)), (25, .int .i64 i179)]) (fun kk => fun (i179 : Int) (l180 : List Timpl_Bucket) (a181 : Option Addr) (c182 : Nat) (F183 : List Nat) => a181.isNone = false ∧ impl_Buckets_L2 e154 i88 (impl_Buckets_L1 p0 k1) kk i179 l180 = some r) (fun _ _ _ _ _ H => ?_) (fun k2 ihk2 i179 l180 a181 c182 F183 ⟨hz184, H⟩ => ?_) Fuel (0) (l83) (a84) (c85) (F86) (⟨hz87, H⟩)) (fun _ h => St.sel [0, 1] rfl rfl h) ⟨rfl, rfl, rfl, rfl, rfl, rfl,  trivial⟩
        · unfold impl_Buckets_L2 at H
          exact absurd H (by simp)
        · unfold impl_Buckets_L2 at H
          refine c_seq ?_
          refine c_reg ?_
          refine ow_batch [.p] rfl ?_
          refine ow_nil ?_
          refine x_qs ?_
          refine c_seq ?_
          refine c_if rfl (fun hb => ?_) (fun hb => ?_)
          · have H := of_if_t hb H
            refine c_skip ?_
            refine x_qs ?_
            refine c_seq ?_
            refine c_block ?_
            refine c_seq ?_
            refine c_reg ?_
            obtain ⟨e202, h203, H⟩ := of_bind H
            refine ow_ixE (e := eVal (Value.int .i64) (fun _ => rfl)) (xs := e154) (j := i179) rfl rfl rfl rfl rfl sl22 ty3 rfl (fun w1 hw1 => rds_bor hd156 w1 hw1) h203 (by rw [Nat.mul_one]) ?_
            refine ow_r rfl (dstOk_lt rfl) (ry_load1 rfl rfl ty3 (at_elV (fun w1 hw1 => rds_bor hd156 w1 hw1) h203)) ?_
            refine ow_batch [.p] rfl ?_
            refine ow_nil ?_
            refine x_qs ?_
            refine c_reg ?_
            refine ow_batch [.p, .p] rfl ?_
            obtain ⟨x204, h205, H⟩ := of_bind H
            refine ow_r rfl (dstOk_lt rfl) (ry_shl rfl rfl rfl h205) ?_
            refine ow_batch [.p] rfl ?_
            refine ow_r rfl (dstOk_lt rfl) (ry_build2 [(0, [.int .i64 x204]), (1, [.int .i64 e202])] [.int .i64 x204, .int .i64 e202] rfl rfl ty89 fs89 rfl ⟨rfl, rfl, Nat.le_of_ble_eq_true rfl, rfl, rfl, Nat.le_of_ble_eq_true rfl,  trivial⟩ rfl) ?_
            refine ow_blitF ([(Timpl_Bucket.mk x204 e202)] : List Timpl_Bucket) [(0, [.int .i64 x204, .int .i64 e202])] rfl rfl rfl rfl rfl sl86 ty89 rfl rfl rfl rfl ⟨rfl, rfl, Nat.le_of_ble_eq_true rfl,  trivial⟩ rfl (fun _ => kp) (fun b206 => (?_ : OW _ _ _ (St w M0 [Res.box b14 32 [.slice a12 p0.Rows_.length c13], Res.own (eList (eTimpl_Bucket) 89) F183 l180 [.slice a181 l180.length c182], Res.own (eList (eTimpl_Bucket) 89) [b206] [(Timpl_Bucket.mk x204 e202)] [.slice (some ⟨b206, 0, none⟩) ([(Timpl_Bucket.mk x204 e202)] : List Timpl_Bucket).length 1]]) _ _ _))
            obtain ⟨l207, h208, H⟩ := of_bind H
            refine ow_appF (r := 1) (ys := ([(Timpl_Bucket.mk x204 e202)] : List Timpl_Bucket)) rfl rfl rfl rfl rfl rfl sl86 ty89 rfl rfl rfl rfl rfl (fun w1 hw1 => rds_own (e := eList (eTimpl_Bucket) 89) (r := 2) rfl w1 hw1) h208 (fun _ _ _ => kp) (fun a209 c210 F211 => ?_)
            refine ow_fact rfl (fun w1 hw1 => own_nn (i := 1) hw1 rfl (app_ne h208)) (fun hz212 => ?_)
            refine ow_batch [.p] rfl ?_
            refine ow_nil ?_
            refine x_qb ?_
            refine x_qs ?_
            refine c_reg ?_
            refine ow_batch [.p, .p] rfl ?_
            refine ow_nil ?_
            exact x_ql (RW.at (ihk2 (IntKind.i64.wrap (i179 + 1)) (l207) (a209) (c210) (F211) (⟨hz212, H⟩)) (fun _ h => St.sel [0, 1] rfl rfl h) ⟨rfl, rfl, rfl, rfl, rfl, rfl, trivial⟩)
          · have H := of_if_f hb H
            refine c_exit ?_
            refine x_qs_exit ?_
            refine x_ql_exit ?_
            refine x_qb_here ?_
            refine x_qb ?_
            refine x_qs ?_
            refine c_reg ?_
            refine ow_batch [.p, .p, .p] rfl ?_
            refine ow_nil ?_
            exact x_ql (RW.at (ihk1 (l180) (a181) (c182) (F183) (IntKind.i64.wrap (i88 - 1)) (⟨hz184, H⟩)) (fun _ h => St.sel [0, 1] rfl rfl h) ⟨rfl, rfl, rfl, trivial⟩)
      · have H := of_if_f hb H
        refine c_exit ?_
        refine x_qs_exit ?_
        refine x_ql_exit ?_
        refine x_qb_here ?_
        refine x_qs ?_
        refine c_seq ?_
        refine c_reg ?_
        refine ow_batch [.p, .p] rfl ?_
        refine ow_nil ?_
        refine x_qs ?_
        refine c_ret ?_
        exact x_retR (rs := [.tmp 2]) (vs := [.slice a84 l83.length c85]) rfl ⟨rfl, trivial⟩ (fun w' hw' => by
            obtain rfl := of_some H
            exact ⟨_, rfl, a84, l83.length, c85, F86, rfl, hw'.sel [1] rfl rfl⟩)

set_option maxHeartbeats 4000000 in
set_option maxRecDepth 100000 in
theorem impl_WindowOnes_ok (w : World) {p0 : Timpl_Window} {cs0 : List Value} {r : Int} (H : impl_WindowOnes p0 = some r)  (g0 : (eTimpl_Window).rd w [] p0 cs0) :
    Calls Tryd.prog 46 #[.agg cs0.toArray] w (fun en w' => en = .returned (.int .i64 r) ∧ Ext [] w w') := by
  obtain ⟨c10, rfl, g11⟩ := rdo_Timpl_Window g0
  obtain ⟨a12, c13, rfl⟩ := rd_sl1 g11
  unfold impl_WindowOnes at H
  refine f_enter (vs := [.agg #[.slice a12 p0.Rows_.length c13]]) Tryd.func46 rfl Tryd.ntmps46 rfl (St.init w []) ?_
  refine c_seq ?_
  refine c_reg ?_
  refine ow_box (cs := [.slice a12 p0.Rows_.length c13]) rfl rfl rfl rfl rfl rfl (fun _ => kp) (fun b14 => ?_)
  refine ow_batch [.p] rfl ?_
  refine ow_nil ?_
  refine x_qs ?_
  refine c_seq ?_
  refine c_reg ?_
  refine ow_batch [.p] rfl ?_
  refine ow_nil ?_
  refine x_qs ?_
  refine c_seq ?_
  refine c_seq ?_
  refine c_reg ?_
  refine ow_r rfl (dstOk_lt rfl) (ry_box (off := 0) (ds := [.slice a12 p0.Rows_.length c13]) rfl rfl ty32 (boxIn (i := 0) rfl) rfl rfl) ?_
  obtain ⟨y15, h16, H⟩ := of_bind H
  refine ow_callS rfl fn48 rfl rfl rfl rfl (fun w1 hw1 => impl_Buckets_ok w1 (cs0 := [.slice a12 p0.Rows_.length c13]) h16 (hw1.carve [] rfl rfl) (rdm_Timpl_Window (x := p0) (c0 := [.slice a12 p0.Rows_.length c13]) (rds_bor g11 w1 hw1))) (fun v17 w1 w2 hw1 hR19 => ?_)
  obtain ⟨a20, n21, c22, F23, rfl, hS18⟩ := hR19
  obtain rfl := own_nS (i := 0) hS18 rfl
  refine ⟨St w [] [_, _], hw1.comp [] rfl rfl hS18, fun _ _ => trivial, ?_⟩
  refine ow_batch [.lenS 86 89 sl86, .p] rfl ?_
  refine ow_nil ?_
  refine x_qs ?_
  refine c_block ?_
  refine CW.at (loopI2 (fun (i29 : Int) (i30 : Int) => St w [] [Res.own (eList (eTimpl_Bucket) 89) F23 y15 [.slice a20 y15.length c22]]) (fun (i29 : Int) (i30 : Int) => [(3, .int .i64 i29), (7, .slice a20 y15.length c22), (8, .int .i64 (y15.length : Int)), (9, .int .i64 i30)]) (fun kk => fun (i29 : Int) (i30 : Int) => impl_WindowOnes_L1 y15 kk i29 i30 = some r) (fun _ _ H => ?_) (fun k1 ihk1 i29 i30 H => ?_) Fuel (0) (0) (H)) (fun _ h => St.sel [1] rfl rfl h) ⟨rfl, rfl, rfl, rfl,  trivial⟩
  · unfold impl_WindowOnes_L1 at H
    exact absurd H (by simp)
  · unfold impl_WindowOnes_L1 at H
    refine c_seq ?_
    refine c_reg ?_
    refine ow_batch [.p] rfl ?_
    refine ow_nil ?_
    refine x_qs ?_
    refine c_seq ?_
    refine c_if rfl (fun hb => ?_) (fun hb => ?_)
    · have H := of_if_t hb H
      refine c_skip ?_
      refine x_qs ?_
      refine c_seq ?_
      refine c_block ?_
      refine c_seq ?_
      refine c_reg ?_
      obtain ⟨e36, h37, H⟩ := of_bind H
      refine ow_ixE (e := eTimpl_Bucket) (xs := y15) (j := i30) rfl rfl rfl rfl rfl sl86 ty89 rfl (fun w1 hw1 => rds_own (e := eList (eTimpl_Bucket) 89) (r := 0) rfl w1 hw1) h37 rfl ?_
      refine ow_r rfl (dstOk_lt rfl) (ry_load (cs := [.int .i64 e36.Size_, .int .i64 e36.Ones_]) rfl rfl ty89 (at_castA (at_eltE (fun w1 hw1 => rds_own (e := eList (eTimpl_Bucket) 89) (r := 0) rfl w1 hw1) h37 (fun _ _ h => h)) rfl) rfl) ?_
      refine ow_alloc rfl rfl rfl rfl ty89 (fun _ => kp) (fun b38 => ?_)
      refine ow_storeC (off := 0) [.int .i64 e36.Size_, .int .i64 e36.Ones_] [_, _] (i := 1) rfl rfl rfl rfl rfl rfl ty89 rfl rfl (by intro u hu; simp only [List.mem_cons, List.not_mem_nil, or_false] at hu; rcases hu with rfl | rfl <;> rfl) rfl rfl rfl kp ?_
      refine ow_nil ?_
      refine x_qs ?_
      refine c_reg ?_
      refine ow_batch [.p, .fa 89 1 1 fa89_1] rfl ?_
      refine ow_r rfl (dstOk_lt rfl) (ry_box1 (off := 1) rfl rfl ty3 (boxIn (i := 1) rfl) rfl) ?_
      refine ow_batch [.p, .p] rfl ?_
      refine ow_nil ?_
      refine x_qb ?_
      refine x_qs ?_
      refine c_reg ?_
      refine ow_batch [.p, .p] rfl ?_
      refine ow_nil ?_
      exact x_ql (RW.at (ihk1 (IntKind.i64.wrap (i29 + e36.Ones_)) (IntKind.i64.wrap (i30 + 1)) (H)) (fun _ h => St.sel [0] rfl rfl h) ⟨rfl, rfl, rfl, rfl, trivial⟩)
    · have H := of_if_f hb H
      refine c_exit ?_
      refine x_qs_exit ?_
      refine x_ql_exit ?_
      refine x_qb_here ?_
      refine x_qs ?_
      refine c_seq ?_
      refine c_reg ?_
      refine ow_batch [.p, .p] rfl ?_
      refine ow_nil ?_
      refine x_qs ?_
      refine c_ret ?_
      exact x_retR (rs := [.tmp 2]) (vs := [.int .i64 i29]) rfl ⟨rfl, trivial⟩ (fun w' hw' => by
          obtain rfl := of_some H
          exact ⟨rfl, hw'.ext⟩)

set_option maxHeartbeats 4000000 in
set_option maxRecDepth 100000 in
theorem impl_WindowTotal_ok (w : World) {p0 : Timpl_Window} {cs0 : List Value} {r : Int} (H : impl_WindowTotal p0 = some r)  (g0 : (eTimpl_Window).rd w [] p0 cs0) :
    Calls Tryd.prog 47 #[.agg cs0.toArray] w (fun en w' => en = .returned (.int .i64 r) ∧ Ext [] w w') := by
  obtain ⟨c10, rfl, g11⟩ := rdo_Timpl_Window g0
  obtain ⟨a12, c13, rfl⟩ := rd_sl1 g11
  unfold impl_WindowTotal at H
  refine f_enter (vs := [.agg #[.slice a12 p0.Rows_.length c13]]) Tryd.func47 rfl Tryd.ntmps47 rfl (St.init w []) ?_
  refine c_seq ?_
  refine c_reg ?_
  refine ow_box (cs := [.slice a12 p0.Rows_.length c13]) rfl rfl rfl rfl rfl rfl (fun _ => kp) (fun b14 => ?_)
  refine ow_batch [.p] rfl ?_
  refine ow_nil ?_
  refine x_qs ?_
  refine c_seq ?_
  refine c_reg ?_
  refine ow_batch [.p] rfl ?_
  refine ow_nil ?_
  refine x_qs ?_
  refine c_seq ?_
  refine c_seq ?_
  refine c_reg ?_
  refine ow_r rfl (dstOk_lt rfl) (ry_box (off := 0) (ds := [.slice a12 p0.Rows_.length c13]) rfl rfl ty32 (boxIn (i := 0) rfl) rfl rfl) ?_
  obtain ⟨y15, h16, H⟩ := of_bind H
  refine ow_callS rfl fn48 rfl rfl rfl rfl (fun w1 hw1 => impl_Buckets_ok w1 (cs0 := [.slice a12 p0.Rows_.length c13]) h16 (hw1.carve [] rfl rfl) (rdm_Timpl_Window (x := p0) (c0 := [.slice a12 p0.Rows_.length c13]) (rds_bor g11 w1 hw1))) (fun v17 w1 w2 hw1 hR19 => ?_)
  obtain ⟨a20, n21, c22, F23, rfl, hS18⟩ := hR19
  obtain rfl := own_nS (i := 0) hS18 rfl
  refine ⟨St w [] [_, _], hw1.comp [] rfl rfl hS18, fun _ _ => trivial, ?_⟩
  refine ow_batch [.lenS 86 89 sl86, .p] rfl ?_
  refine ow_nil ?_
  refine x_qs ?_
  refine c_block ?_
  refine CW.at (loopI2 (fun (i29 : Int) (i30 : Int) => St w [] [Res.own (eList (eTimpl_Bucket) 89) F23 y15 [.slice a20 y15.length c22]]) (fun (i29 : Int) (i30 : Int) => [(3, .int .i64 i29), (7, .slice a20 y15.length c22), (8, .int .i64 (y15.length : Int)), (9, .int .i64 i30)]) (fun kk => fun (i29 : Int) (i30 : Int) => impl_WindowTotal_L1 y15 kk i29 i30 = some r) (fun _ _ H => ?_) (fun k1 ihk1 i29 i30 H => ?_) Fuel (0) (0) (H)) (fun _ h => St.sel [1] rfl rfl h) ⟨rfl, rfl, rfl, rfl,  trivial⟩
  · unfold impl_WindowTotal_L1 at H
    exact absurd H (by simp)
  · unfold impl_WindowTotal_L1 at H
    refine c_seq ?_
    refine c_reg ?_
    refine ow_batch [.p] rfl ?_
    refine ow_nil ?_
    refine x_qs ?_
    refine c_seq ?_
    refine c_if rfl (fun hb => ?_) (fun hb => ?_)
    · have H := of_if_t hb H
      refine c_skip ?_
      refine x_qs ?_
      refine c_seq ?_
      refine c_block ?_
      refine c_seq ?_
      refine c_reg ?_
      obtain ⟨e36, h37, H⟩ := of_bind H
      refine ow_ixE (e := eTimpl_Bucket) (xs := y15) (j := i30) rfl rfl rfl rfl rfl sl86 ty89 rfl (fun w1 hw1 => rds_own (e := eList (eTimpl_Bucket) 89) (r := 0) rfl w1 hw1) h37 rfl ?_
      refine ow_r rfl (dstOk_lt rfl) (ry_load (cs := [.int .i64 e36.Size_, .int .i64 e36.Ones_]) rfl rfl ty89 (at_castA (at_eltE (fun w1 hw1 => rds_own (e := eList (eTimpl_Bucket) 89) (r := 0) rfl w1 hw1) h37 (fun _ _ h => h)) rfl) rfl) ?_
      refine ow_alloc rfl rfl rfl rfl ty89 (fun _ => kp) (fun b38 => ?_)
      refine ow_storeC (off := 0) [.int .i64 e36.Size_, .int .i64 e36.Ones_] [_, _] (i := 1) rfl rfl rfl rfl rfl rfl ty89 rfl rfl (by intro u hu; simp only [List.mem_cons, List.not_mem_nil, or_false] at hu; rcases hu with rfl | rfl <;> rfl) rfl rfl rfl kp ?_
      refine ow_nil ?_
      refine x_qs ?_
      refine c_reg ?_
      refine ow_batch [.p, .fa 89 0 0 fa89_0] rfl ?_
      refine ow_r rfl (dstOk_lt rfl) (ry_box1 (off := 0) rfl rfl ty3 (boxIn (i := 1) rfl) rfl) ?_
      refine ow_batch [.p, .p] rfl ?_
      refine ow_nil ?_
      refine x_qb ?_
      refine x_qs ?_
      refine c_reg ?_
      refine ow_batch [.p, .p] rfl ?_
      refine ow_nil ?_
      exact x_ql (RW.at (ihk1 (IntKind.i64.wrap (i29 + e36.Size_)) (IntKind.i64.wrap (i30 + 1)) (H)) (fun _ h => St.sel [0] rfl rfl h) ⟨rfl, rfl, rfl, rfl, trivial⟩)
    · have H := of_if_f hb H
      refine c_exit ?_
      refine x_qs_exit ?_
      refine x_ql_exit ?_
      refine x_qb_here ?_
      refine x_qs ?_
      refine c_seq ?_
      refine c_reg ?_
      refine ow_batch [.p, .p] rfl ?_
      refine ow_nil ?_
      refine x_qs ?_
      refine c_ret ?_
      exact x_retR (rs := [.tmp 2]) (vs := [.int .i64 i29]) rfl ⟨rfl, trivial⟩ (fun w' hw' => by
          obtain rfl := of_some H
          exact ⟨rfl, hw'.ext⟩)

set_option maxHeartbeats 4000000 in
set_option maxRecDepth 100000 in
theorem impl_WindowText_ok (w : World) {p0 : Timpl_Window} {cs0 : List Value} {r : List UInt8} (H : impl_WindowText p0 = some r)  (g0 : (eTimpl_Window).rd w [] p0 cs0) (gT : (ePow10 Tryd.prog).rd w [] () []) :
    Calls Tryd.prog 15 #[.agg cs0.toArray] w (fun en w' => en = .returned (vS r) ∧ Ext [] w w') := by
  obtain ⟨c10, rfl, g11⟩ := rdo_Timpl_Window g0
  obtain ⟨a12, c13, rfl⟩ := rd_sl1 g11
  unfold impl_WindowText at H
  refine f_enter (vs := [.agg #[.slice a12 p0.Rows_.length c13]]) Tryd.func15 rfl Tryd.ntmps15 rfl (St.init w []) ?_
  refine c_seq ?_
  refine c_reg ?_
  refine ow_box (cs := [.slice a12 p0.Rows_.length c13]) rfl rfl rfl rfl rfl rfl (fun _ => kp) (fun b14 => ?_)
  refine ow_batch [.p] rfl ?_
  refine ow_nil ?_
  refine x_qs ?_
  refine c_seq ?_
  refine c_seq ?_
  refine c_reg ?_
  refine ow_r rfl (dstOk_lt rfl) (ry_box (off := 0) (ds := [.slice a12 p0.Rows_.length c13]) rfl rfl ty32 (boxIn (i := 0) rfl) rfl rfl) ?_
  obtain ⟨y15, h16, H⟩ := of_bind H
  refine ow_q rfl rfl (dstOk_lt rfl) (qy_call rfl fn44 rfl (fun w1 hw1 => impl_WindowOk_ok w1 (cs0 := [.slice a12 p0.Rows_.length c13]) h16 (rdm_Timpl_Window (x := p0) (c0 := [.slice a12 p0.Rows_.length c13]) (rds_bor g11 w1 hw1)))) (fun _ _ => trivial) ?_
  refine ow_batch [.p] rfl ?_
  refine ow_nil ?_
  refine x_qs ?_
  refine c_if rfl (fun hb => ?_) (fun hb => ?_)
  · have H := of_if_t hb H
    refine c_seq ?_
    refine c_reg ?_
    refine ow_batch [.p] rfl ?_
    refine ow_nil ?_
    refine x_qs ?_
    refine c_ret ?_
    refine x_qs_ret ?_
    exact x_retR (rs := [.tmp 2]) (vs := [vS ([] : List UInt8)]) rfl ⟨rfl, trivial⟩ (fun w' hw' => by
        obtain rfl := of_some H
        exact ⟨rfl, hw'.ext⟩)
  · have H := of_if_f hb H
    refine c_skip ?_
    refine x_qs ?_
    refine c_seq ?_
    refine c_regQ mixed (by kernel_rfl) ?_
    refine ow_r rfl (dstOk_lt rfl) (ry_box (off := 0) (ds := [.slice a12 p0.Rows_.length c13]) rfl rfl ty32 (boxIn (i := 0) rfl) rfl rfl) ?_
    obtain ⟨y17, h18, H⟩ := of_bind H
    refine ow_q rfl rfl (dstOk_lt rfl) (qy_call rfl fn46 rfl (fun w1 hw1 => impl_WindowOnes_ok w1 (cs0 := [.slice a12 p0.Rows_.length c13]) h18 (rdm_Timpl_Window (x := p0) (c0 := [.slice a12 p0.Rows_.length c13]) (rds_bor g11 w1 hw1)))) (fun _ _ => trivial) ?_
    obtain ⟨y19, h20, H⟩ := of_bind H
    refine ow_q rfl rfl (dstOk_lt rfl) (qy_call rfl fn45 rfl (fun w1 hw1 => impl_Digits_ok w1  h20 (rds_bor gT w1 hw1))) (fun _ _ => trivial) ?_
    obtain ⟨s21, h22, H⟩ := of_bind H
    refine ow_r rfl (dstOk_lt rfl) (ry_sadd rfl rfl rfl h22) ?_
    refine ow_r rfl (dstOk_lt rfl) (ry_box (off := 0) (ds := [.slice a12 p0.Rows_.length c13]) rfl rfl ty32 (boxIn (i := 0) rfl) rfl rfl) ?_
    obtain ⟨y23, h24, H⟩ := of_bind H
    refine ow_q rfl rfl (dstOk_lt rfl) (qy_call rfl fn47 rfl (fun w1 hw1 => impl_WindowTotal_ok w1 (cs0 := [.slice a12 p0.Rows_.length c13]) h24 (rdm_Timpl_Window (x := p0) (c0 := [.slice a12 p0.Rows_.length c13]) (rds_bor g11 w1 hw1)))) (fun _ _ => trivial) ?_
    obtain ⟨y25, h26, H⟩ := of_bind H
    refine ow_q rfl rfl (dstOk_lt rfl) (qy_call rfl fn45 rfl (fun w1 hw1 => impl_Digits_ok w1  h26 (rds_bor gT w1 hw1))) (fun _ _ => trivial) ?_
    obtain ⟨s27, h28, H⟩ := of_bind H
    refine ow_r rfl (dstOk_lt rfl) (ry_sadd rfl rfl rfl h28) ?_
    refine ow_batch [.p] rfl ?_
    refine ow_nilQ ?_
    refine x_qs ?_
    refine c_seq ?_
    refine c_seq ?_
    refine c_reg ?_
    refine ow_r rfl (dstOk_lt rfl) (ry_box (off := 0) (ds := [.slice a12 p0.Rows_.length c13]) rfl rfl ty32 (boxIn (i := 0) rfl) rfl rfl) ?_
    obtain ⟨y29, h30, H⟩ := of_bind H
    refine ow_callS rfl fn48 rfl rfl rfl rfl (fun w1 hw1 => impl_Buckets_ok w1 (cs0 := [.slice a12 p0.Rows_.length c13]) h30 (hw1.carve [] rfl rfl) (rdm_Timpl_Window (x := p0) (c0 := [.slice a12 p0.Rows_.length c13]) (rds_bor g11 w1 hw1))) (fun v31 w1 w2 hw1 hR33 => ?_)
    obtain ⟨a34, n35, c36, F37, rfl, hS32⟩ := hR33
    obtain rfl := own_nS (i := 0) hS32 rfl
    refine ⟨St w [] [_, _], hw1.comp [] rfl rfl hS32, fun _ _ => trivial, ?_⟩
    refine ow_batch [.lenS 86 89 sl86, .p] rfl ?_
    refine ow_nil ?_
    refine x_qs ?_
    refine c_block ?_
    refine CW.at (loopI2 (fun (i55 : Int) (s56 : List UInt8) => St w [] [Res.own (eList (eTimpl_Bucket) 89) F37 y29 [.slice a34 y29.length c36]]) (fun (i55 : Int) (s56 : List UInt8) => [(3, vS s56), (18, .slice a34 y29.length c36), (19, .int .i64 (y29.length : Int)), (20, .int .i64 i55)]) (fun kk => fun (i55 : Int) (s56 : List UInt8) => impl_WindowText_L1 y29 kk i55 s56 = some r) (fun _ _ H => ?_) (fun k1 ihk1 i55 s56 H => ?_) Fuel (0) (s27) (H)) (fun _ h => St.sel [1] rfl rfl h) ⟨rfl, rfl, rfl, rfl,  trivial⟩
    · unfold impl_WindowText_L1 at H
      exact absurd H (by simp)
    · unfold impl_WindowText_L1 at H
      refine c_seq ?_
      refine c_reg ?_
      refine ow_batch [.p] rfl ?_
      refine ow_nil ?_
      refine x_qs ?_
      refine c_seq ?_
      refine c_if rfl (fun hb => ?_) (fun hb => ?_)
      · have H := of_if_t hb H
        refine c_skip ?_
        refine x_qs ?_
        refine c_seq ?_
        refine c_block ?_
        refine c_seq ?_
        refine c_reg ?_
        obtain ⟨e74, h75, H⟩ := of_bind H
        refine ow_ixE (e := eTimpl_Bucket) (xs := y29) (j := i55) rfl rfl rfl rfl rfl sl86 ty89 rfl (fun w1 hw1 => rds_own (e := eList (eTimpl_Bucket) 89) (r := 0) rfl w1 hw1) h75 rfl ?_
        refine ow_r rfl (dstOk_lt rfl) (ry_load (cs := [.int .i64 e74.Size_, .int .i64 e74.Ones_]) rfl rfl ty89 (at_castA (at_eltE (fun w1 hw1 => rds_own (e := eList (eTimpl_Bucket) 89) (r := 0) rfl w1 hw1) h75 (fun _ _ h => h)) rfl) rfl) ?_
        refine ow_alloc rfl rfl rfl rfl ty89 (fun _ => kp) (fun b76 => ?_)
        refine ow_storeC (off := 0) [.int .i64 e74.Size_, .int .i64 e74.Ones_] [_, _] (i := 1) rfl rfl rfl rfl rfl rfl ty89 rfl rfl (by intro u hu; simp only [List.mem_cons, List.not_mem_nil, or_false] at hu; rcases hu with rfl | rfl <;> rfl) rfl rfl rfl kp ?_
        refine ow_nil ?_
        refine x_qs ?_
        refine c_regQ mixed (by kernel_rfl) ?_
        refine ow_batch [.p, .fa 89 1 1 fa89_1] rfl ?_
        refine ow_r rfl (dstOk_lt rfl) (ry_box1 (off := 1) rfl rfl ty3 (boxIn (i := 1) rfl) rfl) ?_
        obtain ⟨y77, h78, H⟩ := of_bind H
        refine ow_q rfl rfl (dstOk_lt rfl) (qy_call rfl fn45 rfl (fun w1 hw1 => impl_Digits_ok w1  h78 (rds_bor gT w1 hw1))) (fun _ _ => trivial) ?_
        obtain ⟨s79, h80, H⟩ := of_bind H
        refine ow_r rfl (dstOk_lt rfl) (ry_sadd rfl rfl rfl h80) ?_
        obtain ⟨s81, h82, H⟩ := of_bind H
        refine ow_r rfl (dstOk_lt rfl) (ry_sadd rfl rfl rfl h82) ?_
        refine ow_batch [.fa 89 0 0 fa89_0] rfl ?_
        refine ow_r rfl (dstOk_lt rfl) (ry_box1 (off := 0) rfl rfl ty3 (boxIn (i := 1) rfl) rfl) ?_
        obtain ⟨y83, h84, H⟩ := of_bind H
        refine ow_q rfl rfl (dstOk_lt rfl) (qy_call rfl fn45 rfl (fun w1 hw1 => impl_Digits_ok w1  h84 (rds_bor gT w1 hw1))) (fun _ _ => trivial) ?_
        obtain ⟨s85, h86, H⟩ := of_bind H
        refine ow_r rfl (dstOk_lt rfl) (ry_sadd rfl rfl rfl h86) ?_
        obtain ⟨s87, h88, H⟩ := of_bind H
        refine ow_r rfl (dstOk_lt rfl) (ry_sadd rfl rfl rfl h88) ?_
        refine ow_batch [.p] rfl ?_
        refine ow_nilQ ?_
        refine x_qb ?_
        refine x_qs ?_
        refine c_reg ?_
        refine ow_batch [.p, .p] rfl ?_
        refine ow_nil ?_
        exact x_ql (RW.at (ihk1 (IntKind.i64.wrap (i55 + 1)) (s87) (H)) (fun _ h => St.sel [0] rfl rfl h) ⟨rfl, rfl, rfl, rfl, trivial⟩)
      · have H := of_if_f hb H
        refine c_exit ?_
        refine x_qs_exit ?_
        refine x_ql_exit ?_
        refine x_qb_here ?_
        refine x_qs ?_
        refine c_seq ?_
        refine c_reg ?_
        refine ow_batch [.p, .p] rfl ?_
        refine ow_nil ?_
        refine x_qs ?_
        refine c_ret ?_
        exact x_retR (rs := [.tmp 2]) (vs := [vS s56]) rfl ⟨rfl, trivial⟩ (fun w' hw' => by
            obtain rfl := of_some H
            exact ⟨rfl, hw'.ext⟩)

set_option maxHeartbeats 4000000 in
set_option maxRecDepth 100000 in
theorem laws_eqWindow_ok (w : World) {p0 : Timpl_Window} {p1 : Timpl_Window} {cs0 : List Value} {cs1 : List Value} {r : Bool} (H : laws_eqWindow p0 p1 = some r)  (g0 : (eTimpl_Window).rd w [] p0 cs0) (g1 : (eTimpl_Window).rd w [] p1 cs1) :
    Calls Tryd.prog 16 #[.agg cs0.toArray, .agg cs1.toArray] w (fun en w' => en = .returned (.bool r) ∧ Ext [] w w') := by
  obtain ⟨c10, rfl, g11⟩ := rdo_Timpl_Window g0
  obtain ⟨a12, c13, rfl⟩ := rd_sl1 g11
  obtain ⟨c14, rfl, g15⟩ := rdo_Timpl_Window g1
  obtain ⟨a16, c17, rfl⟩ := rd_sl1 g15
  unfold laws_eqWindow at H
  refine f_enter (vs := [.agg #[.slice a12 p0.Rows_.length c13], .agg #[.slice a16 p1.Rows_.length c17]]) Tryd.func16 rfl Tryd.ntmps16 rfl (St.init w []) ?_
  refine c_seq ?_
  refine c_reg ?_
  refine ow_box (cs := [.slice a12 p0.Rows_.length c13]) rfl rfl rfl rfl rfl rfl (fun _ => kp) (fun b18 => ?_)
  refine ow_box (cs := [.slice a16 p1.Rows_.length c17]) rfl rfl rfl rfl rfl rfl (fun _ => kp) (fun b19 => ?_)
  refine ow_batch [.p] rfl ?_
  refine ow_nil ?_
  refine x_qs ?_
  refine c_seq ?_
  refine c_seq ?_
  refine c_reg ?_
  refine ow_batch [.fa 32 0 0 fa32_0] rfl ?_
  refine ow_r rfl (dstOk_lt rfl) (ry_box1 (off := 0) rfl rfl ty27 (boxIn (i := 0) rfl) rfl) ?_
  refine ow_batch [.fa 32 0 0 fa32_0] rfl ?_
  refine ow_r rfl (dstOk_lt rfl) (ry_box1 (off := 0) rfl rfl ty27 (boxIn (i := 1) rfl) rfl) ?_
  obtain ⟨y20, h21, H⟩ := of_bind H
  refine ow_q rfl rfl (dstOk_lt rfl) (qy_call rfl fn49 rfl (fun w1 hw1 => laws_eqIntSS_ok w1  h21 (rds_bor g11 w1 hw1) (rds_bor g15 w1 hw1))) (fun _ _ => trivial) ?_
  refine ow_batch [.p] rfl ?_
  refine ow_nil ?_
  refine x_qs ?_
  refine c_if rfl (fun hb => ?_) (fun hb => ?_)
  · have H := of_if_t hb H
    refine c_seq ?_
    refine c_reg ?_
    refine ow_batch [.p] rfl ?_
    refine ow_nil ?_
    refine x_qs ?_
    refine c_ret ?_
    refine x_qs_ret ?_
    exact x_retR (rs := [.tmp 4]) (vs := [.bool false]) rfl ⟨rfl, trivial⟩ (fun w' hw' => by
        obtain rfl := of_some H
        exact ⟨rfl, hw'.ext⟩)
  · have H := of_if_f hb H
    refine c_skip ?_
    refine x_qs ?_
    refine c_seq ?_
    refine c_reg ?_
    refine ow_batch [.p] rfl ?_
    refine ow_nil ?_
    refine x_qs ?_
    refine c_ret ?_
    exact x_retR (rs := [.tmp 4]) (vs := [.bool true]) rfl ⟨rfl, trivial⟩ (fun w' hw' => by
        obtain rfl := of_some H
        exact ⟨rfl, hw'.ext⟩)

set_option maxHeartbeats 4000000 in
set_option maxRecDepth 100000 in
theorem laws_FnExactWindowText_ok (w : World) {p0 : Tlaws_Window} {cs0 : List Value} {r : Bool} (H : laws_FnExactWindowText p0 = some r)  (g0 : (eTlaws_Window).rd w [] p0 cs0) (gT : (ePow10 Tryd.prog).rd w [] () []) :
    Calls Tryd.prog 4 #[.agg cs0.toArray] w (fun en w' => en = .returned (.bool r) ∧ Ext [] w w') := by
  obtain ⟨c10, rfl, g11⟩ := rdo_Tlaws_Window g0
  obtain ⟨a12, c13, rfl⟩ := rd_sl1 g11
  unfold laws_FnExactWindowText at H
  refine f_enter (vs := [.agg #[.slice a12 p0.Rows_.length c13]]) Tryd.func4 rfl Tryd.ntmps4 rfl (St.init w []) ?_
  refine c_seq ?_
  refine c_reg ?_
  refine ow_box (cs := [.slice a12 p0.Rows_.length c13]) rfl rfl rfl rfl rfl rfl (fun _ => kp) (fun b14 => ?_)
  refine ow_batch [.p] rfl ?_
  refine ow_nil ?_
  refine x_qs ?_
  refine c_seq ?_
  refine c_reg ?_
  refine ow_batch [.p] rfl ?_
  refine ow_nil ?_
  refine x_qs ?_
  refine c_seq ?_
  refine c_reg ?_
  refine ow_r rfl (dstOk_lt rfl) (ry_box (off := 0) (ds := [.slice a12 p0.Rows_.length c13]) rfl rfl ty29 (boxIn (i := 0) rfl) rfl rfl) ?_
  refine ow_batch [.p] rfl ?_
  obtain ⟨y15, h16, H⟩ := of_bind H
  refine ow_q rfl rfl (dstOk_lt rfl) (qy_call rfl fn12 rfl (fun w1 hw1 => laws_szWindow_ok w1 (cs0 := [.slice a12 p0.Rows_.length c13]) h16 (rdm_Tlaws_Window (x := p0) (c0 := [.slice a12 p0.Rows_.length c13]) (rds_bor g11 w1 hw1)))) (fun _ _ => trivial) ?_
  refine ow_batch [.p] rfl ?_
  refine ow_nil ?_
  refine x_qs ?_
  refine c_seq ?_
  refine c_seq ?_
  refine c_reg ?_
  refine ow_batch [.p, .p] rfl ?_
  refine ow_nil ?_
  refine x_qs ?_
  refine c_if rfl (fun hb => ?_) (fun hb => ?_)
  · have H := of_if_t hb H
    refine c_seq ?_
    refine c_reg ?_
    refine ow_batch [.p] rfl ?_
    refine ow_nil ?_
    refine x_qs ?_
    refine c_ret ?_
    refine x_qs_ret ?_
    exact x_retR (rs := [.tmp 2]) (vs := [.bool true]) rfl ⟨rfl, trivial⟩ (fun w' hw' => by
        obtain rfl := of_some H
        exact ⟨rfl, hw'.ext⟩)
  · have H := of_if_f hb H
    refine c_skip ?_
    refine x_qs ?_
    refine c_seq ?_
    refine c_reg ?_
    refine ow_r rfl (dstOk_lt rfl) (ry_box (off := 0) (ds := [.slice a12 p0.Rows_.length c13]) rfl rfl ty29 (boxIn (i := 0) rfl) rfl rfl) ?_
    obtain ⟨y17, h18, H⟩ := of_bind H
    refine ow_callS rfl fn14 rfl rfl rfl rfl (fun w1 hw1 => laws_toWindow_ok w1 (cs0 := [.slice a12 p0.Rows_.length c13]) h18 (hw1.carve [] rfl rfl) (rdm_Tlaws_Window (x := p0) (c0 := [.slice a12 p0.Rows_.length c13]) (rds_bor g11 w1 hw1))) (fun v19 w1 w2 hw1 hR21 => ?_)
    obtain ⟨a22, n23, c24, F25, rfl, hS20⟩ := hR21
    obtain rfl := own_nS (i := 0) hS20 rfl
    refine ⟨St w [] [_, _], hw1.comp [] rfl rfl hS20, fun _ _ => trivial, ?_⟩
    obtain ⟨y26, h27, H⟩ := of_bind H
    refine ow_q rfl rfl (dstOk_lt rfl) (qy_call rfl fn13 rfl (fun w1 hw1 => spec_WindowText_ok w1 (cs0 := [.slice a22 y17.Rows_.length c24]) h27 (rdm_Timpl_Window (x := y17) (c0 := [.slice a22 y17.Rows_.length c24]) (rds_own (e := eList (eList (eVal (Value.int .i64) (fun _ => rfl)) 3) 22) (r := 1) rfl w1 hw1)))) (fun _ _ => trivial) ?_
    refine ow_batch [.p] rfl ?_
    refine ow_nil ?_
    refine x_qs ?_
    refine c_seq ?_
    refine c_reg ?_
    refine ow_r rfl (dstOk_lt rfl) (ry_box (off := 0) (ds := [.slice a12 p0.Rows_.length c13]) rfl rfl ty29 (boxIn (i := 0) rfl) rfl rfl) ?_
    obtain ⟨y28, h29, H⟩ := of_bind H
    refine ow_callS rfl fn14 rfl rfl rfl rfl (fun w1 hw1 => laws_toWindow_ok w1 (cs0 := [.slice a12 p0.Rows_.length c13]) h29 (hw1.carve [] rfl rfl) (rdm_Tlaws_Window (x := p0) (c0 := [.slice a12 p0.Rows_.length c13]) (rds_bor g11 w1 hw1))) (fun v30 w1 w2 hw1 hR32 => ?_)
    obtain ⟨a33, n34, c35, F36, rfl, hS31⟩ := hR32
    obtain rfl := own_nS (i := 0) hS31 rfl
    refine ⟨St w [] [_, _, _], hw1.comp [] rfl rfl hS31, fun _ _ => trivial, ?_⟩
    refine ow_alloc rfl rfl rfl rfl ty32 (fun _ => kp) (fun b37 => ?_)
    refine ow_storeC (off := 0) [.slice a33 y28.Rows_.length c35] [_] (i := 3) rfl rfl rfl rfl rfl rfl ty32 rfl rfl (by intro u hu; simp only [List.mem_cons, List.not_mem_nil, or_false] at hu; rcases hu with rfl <;> rfl) rfl rfl rfl kp ?_
    refine ow_nil ?_
    refine x_qs ?_
    refine c_seq ?_
    refine c_reg ?_
    refine ow_r rfl (dstOk_lt rfl) (ry_box (off := 0) (ds := [.slice a33 y28.Rows_.length c35]) rfl rfl ty32 (boxIn (i := 3) rfl) rfl rfl) ?_
    obtain ⟨y38, h39, H⟩ := of_bind H
    refine ow_q rfl rfl (dstOk_lt rfl) (qy_call rfl fn15 rfl (fun w1 hw1 => impl_WindowText_ok w1 (cs0 := [.slice a33 y28.Rows_.length c35]) h39 (rdm_Timpl_Window (x := y28) (c0 := [.slice a33 y28.Rows_.length c35]) (rds_own (e := eList (eList (eVal (Value.int .i64) (fun _ => rfl)) 3) 22) (r := 2) rfl w1 hw1)) (rds_bor gT w1 hw1))) (fun _ _ => trivial) ?_
    refine ow_batch [.p] rfl ?_
    refine ow_nil ?_
    refine x_qs ?_
    refine c_seq ?_
    refine c_seq ?_
    refine c_reg ?_
    refine ow_batch [.p, .p, .p] rfl ?_
    refine ow_nil ?_
    refine x_qs ?_
    refine c_if rfl (fun hb => ?_) (fun hb => ?_)
    · have H := of_if_t hb H
      refine c_seq ?_
      refine c_reg ?_
      refine ow_batch [.p] rfl ?_
      refine ow_nil ?_
      refine x_qs ?_
      refine c_ret ?_
      refine x_qs_ret ?_
      exact x_retR (rs := [.tmp 2]) (vs := [.bool false]) rfl ⟨rfl, trivial⟩ (fun w' hw' => by
          obtain rfl := of_some H
          exact ⟨rfl, hw'.ext⟩)
    · have H := of_if_f hb H
      refine c_skip ?_
      refine x_qs ?_
      refine c_seq ?_
      refine c_seq ?_
      refine c_regHT 3 [(0, true), (1, true), (2, false)] (St w [] [Res.box b14 29 [.slice a12 p0.Rows_.length c13], Res.own (eList (eList (eVal (Value.int .i64) (fun _ => rfl)) 3) 22) F25 y17.Rows_ [.slice a22 y17.Rows_.length c24], Res.own (eList (eList (eVal (Value.int .i64) (fun _ => rfl)) 3) 22) F36 y28.Rows_ [.slice a33 y28.Rows_.length c35], Res.box b37 32 [.slice a33 y28.Rows_.length c35]]) mixed (by kernel_rfl) (panicOk_qs (panicOk_qs panicOk_body)) (fun _ h => St.mask [true, true, true, true] rfl h) ?_
      refine ow_rH rfl (dstOk_lt rfl) (ry_box (off := 0) (ds := [.slice a33 y28.Rows_.length c35]) rfl rfl ty32 (boxIn (i := 3) rfl) rfl rfl) ?_
      refine ow_rH rfl (dstOk_lt rfl) (ry_box (off := 0) (ds := [.slice a12 p0.Rows_.length c13]) rfl rfl ty29 (boxIn (i := 0) rfl) rfl rfl) ?_
      obtain ⟨y49, h50, H⟩ := of_bind H
      refine ow_callS rfl fn14 rfl rfl rfl rfl (fun w1 hw1 => laws_toWindow_ok w1 (cs0 := [.slice a12 p0.Rows_.length c13]) h50 (hw1.carve [] rfl rfl) (rdm_Tlaws_Window (x := p0) (c0 := [.slice a12 p0.Rows_.length c13]) (rds_bor g11 w1 hw1))) (fun v51 w1 w2 hw1 hR53 => ?_)
      obtain ⟨a54, n55, c56, F57, rfl, hS52⟩ := hR53
      obtain rfl := own_nS (i := 0) hS52 rfl
      refine ⟨St w [] [_, _, _, _, _], hw1.comp [] rfl rfl hS52, (fun _ h => St.mask [true, true, true, true] rfl h), ?_⟩
      refine ow_nilH ?_
      refine x_qt ?_
      obtain ⟨y58, h59, H⟩ := of_bind H
      refine ow_q rfl rfl (dstOk_lt rfl) (qy_call rfl fn16 rfl (fun w1 hw1 => laws_eqWindow_ok w1 (cs0 := [.slice a33 y28.Rows_.length c35]) (cs1 := [.slice a54 y49.Rows_.length c56]) h59 (rdm_Timpl_Window (x := y28) (c0 := [.slice a33 y28.Rows_.length c35]) (rds_own (e := eList (eList (eVal (Value.int .i64) (fun _ => rfl)) 3) 22) (r := 2) rfl w1 hw1)) (rdm_Timpl_Window (x := y49) (c0 := [.slice a54 y49.Rows_.length c56]) (rds_own (e := eList (eList (eVal (Value.int .i64) (fun _ => rfl)) 3) 22) (r := 4) rfl w1 hw1)))) (fun _ _ => trivial) ?_
      refine ow_batch [.p] rfl ?_
      refine ow_nil ?_
      refine x_qs ?_
      refine c_if rfl (fun hb => ?_) (fun hb => ?_)
      · have H := of_if_t hb H
        refine c_seq ?_
        refine c_reg ?_
        refine ow_batch [.p] rfl ?_
        refine ow_nil ?_
        refine x_qs ?_
        refine c_ret ?_
        refine x_qs_ret ?_
        exact x_retR (rs := [.tmp 2]) (vs := [.bool false]) rfl ⟨rfl, trivial⟩ (fun w' hw' => by
            obtain rfl := of_some H
            exact ⟨rfl, hw'.ext⟩)
      · have H := of_if_f hb H
        refine c_skip ?_
        refine x_qs ?_
        refine c_seq ?_
        refine c_reg ?_
        refine ow_batch [.p] rfl ?_
        refine ow_nil ?_
        refine x_qs ?_
        refine c_ret ?_
        exact x_retR (rs := [.tmp 2]) (vs := [.bool true]) rfl ⟨rfl, trivial⟩ (fun w' hw' => by
            obtain rfl := of_some H
            exact ⟨rfl, hw'.ext⟩)

end Go.Vk
