/- The code does what the functions of data say. Printed by program. -/

import Derived.Test.YtejneofoabmojaaRF

import Derived.Test.YtejneofoabmojaaChecked

namespace Go.Vk

open Go.Proofs Go.RowKit



def eTlaws_Attr : Enc Tlaws_Attr := eIso (ePair (eStr) (ePair (eList (eVal (Value.int .i64) (fun _ => rfl)) 3) (eList (eStr) 9))) (fun x => (x.Name_, x.Cuts_, x.Values_))

theorem rdm_Tlaws_Attr {w : World} {X : List Nat} {x : Tlaws_Attr} {c0 c1 c2 : List Value} (h0 : (eStr).rd w X x.Name_ c0) (h1 : (eList (eVal (Value.int .i64) (fun _ => rfl)) 3).rd w X x.Cuts_ c1) (h2 : (eList (eStr) 9).rd w X x.Values_ c2) : (eTlaws_Attr).rd w X x (c0 ++ (c1 ++ c2)) := by
  show (ePair (eStr) (ePair (eList (eVal (Value.int .i64) (fun _ => rfl)) 3) (eList (eStr) 9))).rd w X (x.Name_, x.Cuts_, x.Values_) _
  exact (ePair_rd h0 (ePair_rd h1 h2))

theorem rdo_Tlaws_Attr {w : World} {X : List Nat} {x : Tlaws_Attr} {cs : List Value} (h : (eTlaws_Attr).rd w X x cs) : ∃ c0 c1 c2, cs = (c0 ++ (c1 ++ c2)) ∧ (eStr).rd w X x.Name_ c0 ∧ (eList (eVal (Value.int .i64) (fun _ => rfl)) 3).rd w X x.Cuts_ c1 ∧ (eList (eStr) 9).rd w X x.Values_ c2 := by
  have h : (ePair (eStr) (ePair (eList (eVal (Value.int .i64) (fun _ => rfl)) 3) (eList (eStr) 9))).rd w X (x.Name_, x.Cuts_, x.Values_) cs := h
  obtain ⟨c0, d0, rfl, h0, r0⟩ := h
  obtain ⟨c1, c2, rfl, h1, h2⟩ := r0
  exact ⟨c0, c1, c2, rfl, h0, h1, h2⟩

def eTimpl_Attr : Enc Timpl_Attr := eIso (ePair (eStr) (ePair (eList (eVal (Value.int .i64) (fun _ => rfl)) 3) (eList (eStr) 9))) (fun x => (x.Name_, x.Cuts_, x.Values_))

theorem rdm_Timpl_Attr {w : World} {X : List Nat} {x : Timpl_Attr} {c0 c1 c2 : List Value} (h0 : (eStr).rd w X x.Name_ c0) (h1 : (eList (eVal (Value.int .i64) (fun _ => rfl)) 3).rd w X x.Cuts_ c1) (h2 : (eList (eStr) 9).rd w X x.Values_ c2) : (eTimpl_Attr).rd w X x (c0 ++ (c1 ++ c2)) := by
  show (ePair (eStr) (ePair (eList (eVal (Value.int .i64) (fun _ => rfl)) 3) (eList (eStr) 9))).rd w X (x.Name_, x.Cuts_, x.Values_) _
  exact (ePair_rd h0 (ePair_rd h1 h2))

theorem rdo_Timpl_Attr {w : World} {X : List Nat} {x : Timpl_Attr} {cs : List Value} (h : (eTimpl_Attr).rd w X x cs) : ∃ c0 c1 c2, cs = (c0 ++ (c1 ++ c2)) ∧ (eStr).rd w X x.Name_ c0 ∧ (eList (eVal (Value.int .i64) (fun _ => rfl)) 3).rd w X x.Cuts_ c1 ∧ (eList (eStr) 9).rd w X x.Values_ c2 := by
  have h : (ePair (eStr) (ePair (eList (eVal (Value.int .i64) (fun _ => rfl)) 3) (eList (eStr) 9))).rd w X (x.Name_, x.Cuts_, x.Values_) cs := h
  obtain ⟨c0, d0, rfl, h0, r0⟩ := h
  obtain ⟨c1, c2, rfl, h1, h2⟩ := r0
  exact ⟨c0, c1, c2, rfl, h0, h1, h2⟩

theorem sl22 : isSl Try.prog 22 3 := isSl_of (by kernel_rfl)

theorem sl23 : isSl Try.prog 23 9 := isSl_of (by kernel_rfl)

theorem ty9 : isTy Try.prog 9 false 1 16 [vS []] := isTy_of (by kernel_rfl)

theorem st9 : isStr Try.prog 9 := isStr_of (by kernel_rfl)

theorem fa25_0 : isFa Try.prog 25 0 0 := isFa_of (by kernel_rfl)

theorem fa25_1 : isFa Try.prog 25 1 1 := isFa_of (by kernel_rfl)

theorem ty22 : isTy Try.prog 22 false 1 24 [.slice none 0 0] := isTy_of (by kernel_rfl)

theorem fn55 : isFn Try.prog 55 := ⟨Try.f55, Try.func55, rfl, by decide⟩

theorem fa25_2 : isFa Try.prog 25 2 2 := isFa_of (by kernel_rfl)

theorem ty23 : isTy Try.prog 23 false 1 24 [.slice none 0 0] := isTy_of (by kernel_rfl)

theorem fn56 : isFn Try.prog 56 := ⟨Try.f56, Try.func56, rfl, by decide⟩

theorem ty25 : isTy Try.prog 25 true 3 64 [vS [], .slice none 0 0, .slice none 0 0] := isTy_of (by kernel_rfl)

theorem fn11 : isFn Try.prog 11 := ⟨Try.f11, Try.func11, rfl, by decide⟩

theorem ty3 : isTy Try.prog 3 false 1 8 [.int .i64 0] := isTy_of (by kernel_rfl)

theorem ty28 : isTy Try.prog 28 true 3 64 [vS [], .slice none 0 0, .slice none 0 0] := isTy_of (by kernel_rfl)

theorem fa28_0 : isFa Try.prog 28 0 0 := isFa_of (by kernel_rfl)

theorem fn60 : isFn Try.prog 60 := ⟨Try.f60, Try.func60, rfl, by decide⟩

theorem fa28_1 : isFa Try.prog 28 1 1 := isFa_of (by kernel_rfl)

theorem fn61 : isFn Try.prog 61 := ⟨Try.f61, Try.func61, rfl, by decide⟩

theorem fa28_2 : isFa Try.prog 28 2 2 := isFa_of (by kernel_rfl)

theorem fn13 : isFn Try.prog 13 := ⟨Try.f13, Try.func13, rfl, by decide⟩

theorem fn71 : isFn Try.prog 71 := ⟨Try.f71, Try.func71, rfl, by decide⟩

theorem fn104 : isFn Try.prog 104 := ⟨Try.f104, Try.func104, rfl, by decide⟩

theorem mixed : Try.prog.follows .mixedOrders = true := by kernel_rfl

theorem fn105 : isFn Try.prog 105 := ⟨Try.f105, Try.func105, rfl, by decide⟩

theorem fn57 : isFn Try.prog 57 := ⟨Try.f57, Try.func57, rfl, by decide⟩

theorem fn59 : isFn Try.prog 59 := ⟨Try.f59, Try.func59, rfl, by decide⟩

theorem fn58 : isFn Try.prog 58 := ⟨Try.f58, Try.func58, rfl, by decide⟩

theorem fn12 : isFn Try.prog 12 := ⟨Try.f12, Try.func12, rfl, by decide⟩

theorem fn72 : isFn Try.prog 72 := ⟨Try.f72, Try.func72, rfl, by decide⟩

theorem fn117 : isFn Try.prog 117 := ⟨Try.f117, Try.func117, rfl, by decide⟩

theorem fn106 : isFn Try.prog 106 := ⟨Try.f106, Try.func106, rfl, by decide⟩

theorem fn112 : isFn Try.prog 112 := ⟨Try.f112, Try.func112, rfl, by decide⟩

theorem fn116 : isFn Try.prog 116 := ⟨Try.f116, Try.func116, rfl, by decide⟩

theorem fn113 : isFn Try.prog 113 := ⟨Try.f113, Try.func113, rfl, by decide⟩

theorem fn115 : isFn Try.prog 115 := ⟨Try.f115, Try.func115, rfl, by decide⟩

theorem fn118 : isFn Try.prog 118 := ⟨Try.f118, Try.func118, rfl, by decide⟩

theorem fn114 : isFn Try.prog 114 := ⟨Try.f114, Try.func114, rfl, by decide⟩

theorem fn107 : isFn Try.prog 107 := ⟨Try.f107, Try.func107, rfl, by decide⟩

theorem fn108 : isFn Try.prog 108 := ⟨Try.f108, Try.func108, rfl, by decide⟩

theorem fn62 : isFn Try.prog 62 := ⟨Try.f62, Try.func62, rfl, by decide⟩

theorem fn63 : isFn Try.prog 63 := ⟨Try.f63, Try.func63, rfl, by decide⟩

theorem fn14 : isFn Try.prog 14 := ⟨Try.f14, Try.func14, rfl, by decide⟩

theorem fn64 : isFn Try.prog 64 := ⟨Try.f64, Try.func64, rfl, by decide⟩

theorem fn65 : isFn Try.prog 65 := ⟨Try.f65, Try.func65, rfl, by decide⟩

theorem fn15 : isFn Try.prog 15 := ⟨Try.f15, Try.func15, rfl, by decide⟩

set_option maxHeartbeats 4000000 in
set_option maxRecDepth 100000 in
theorem laws_szIntS_ok (w : World) {p0 : List Int} {p1 : Int} {a_0 : Option Addr} {n_0 c_0 : Nat} {r : Int} (H : laws_szIntS p0 p1 = some r)  (g0 : (eList (eVal (Value.int .i64) (fun _ => rfl)) 3).rd w [] p0 [.slice a_0 n_0 c_0]) :
    Calls Try.prog 55 #[.slice a_0 n_0 c_0, .int .i64 p1] w (fun en w' => en = .returned (.int .i64 r) ∧ Ext [] w w') := by
  obtain rfl := rd_n g0
  unfold laws_szIntS at H
  refine f_enter (vs := [.slice a_0 p0.length c_0, .int .i64 p1]) Try.func55 rfl Try.ntmps55 rfl (St.init w []) ?_
  refine c_seq ?_
  refine c_reg ?_
  refine ow_batch [.p] rfl ?_
  refine ow_nil ?_
  refine x_qs ?_
  refine c_seq ?_
  refine c_reg ?_
  refine ow_batch [.p, .p, .lenS 22 3 sl22, .p, .p] rfl ?_
  refine ow_nil ?_
  refine x_qs ?_
  refine c_seq ?_
  refine c_seq ?_
  refine c_reg ?_
  refine ow_batch [.p, .p] rfl ?_
  refine ow_nil ?_
  refine x_qs ?_
  refine c_if rfl (fun hb => ?_) (fun hb => ?_)
  · have H := of_if_t hb H
    refine c_seq ?_
    refine c_reg ?_
    refine ow_batch [.p] rfl ?_
    refine ow_nil ?_
    refine x_qs ?_
    refine c_ret ?_
    refine x_qs_ret ?_
    exact x_retR (rs := [.tmp 4]) (vs := [.int .i64 (-1)]) rfl ⟨rfl, trivial⟩ (fun w' hw' => by
        obtain rfl := of_some H
        exact ⟨rfl, hw'.ext⟩)
  · have H := of_if_f hb H
    refine c_skip ?_
    refine x_qs ?_
    refine c_seq ?_
    refine c_reg ?_
    refine ow_batch [.p, .p] rfl ?_
    refine ow_nil ?_
    refine x_qs ?_
    refine c_ret ?_
    exact x_retR (rs := [.tmp 4]) (vs := [.int .i64 (IntKind.i64.wrap (p1 - (p0.length : Int)))]) rfl ⟨rfl, trivial⟩ (fun w' hw' => by
        obtain rfl := of_some H
        exact ⟨rfl, hw'.ext⟩)

set_option maxHeartbeats 4000000 in
set_option maxRecDepth 100000 in
theorem laws_szStringS_ok (w : World) {p0 : List (List UInt8)} {p1 : Int} {a_0 : Option Addr} {n_0 c_0 : Nat} {r : Int} (H : laws_szStringS p0 p1 = some r)  (g0 : (eList (eStr) 9).rd w [] p0 [.slice a_0 n_0 c_0]) :
    Calls Try.prog 56 #[.slice a_0 n_0 c_0, .int .i64 p1] w (fun en w' => en = .returned (.int .i64 r) ∧ Ext [] w w') := by
  obtain rfl := rd_n g0
  unfold laws_szStringS at H
  refine f_enter (vs := [.slice a_0 p0.length c_0, .int .i64 p1]) Try.func56 rfl Try.ntmps56 rfl (St.init w []) ?_
  refine c_seq ?_
  refine c_reg ?_
  refine ow_batch [.p] rfl ?_
  refine ow_nil ?_
  refine x_qs ?_
  refine c_seq ?_
  refine c_reg ?_
  refine ow_batch [.p, .p, .lenS 23 9 sl23, .p, .p] rfl ?_
  refine ow_nil ?_
  refine x_qs ?_
  refine c_seq ?_
  refine c_seq ?_
  refine c_reg ?_
  refine ow_batch [.p, .p] rfl ?_
  refine ow_nil ?_
  refine x_qs ?_
  refine c_if rfl (fun hb => ?_) (fun hb => ?_)
  · have H := of_if_t hb H
    refine c_seq ?_
    refine c_reg ?_
    refine ow_batch [.p] rfl ?_
    refine ow_nil ?_
    refine x_qs ?_
    refine c_ret ?_
    refine x_qs_ret ?_
    exact x_retR (rs := [.tmp 4]) (vs := [.int .i64 (-1)]) rfl ⟨rfl, trivial⟩ (fun w' hw' => by
        obtain rfl := of_some H
        exact ⟨rfl, hw'.ext⟩)
  · have H := of_if_f hb H
    refine c_skip ?_
    refine x_qs ?_
    refine c_seq ?_
    refine c_seq ?_
    refine c_reg ?_
    refine ow_batch [.p] rfl ?_
    refine ow_nil ?_
    refine x_qs ?_
    refine c_block ?_
    refine CW.at (loopI2 (fun (i5 : Int) (i6 : Int) => St w [] []) (fun (i5 : Int) (i6 : Int) => [(0, .slice a_0 p0.length c_0), (1, .int .i64 i5), (5, .int .i64 i6)]) (fun kk => fun (i5 : Int) (i6 : Int) => laws_szStringS_L1 p0 kk i5 i6 = some r) (fun _ _ H => ?_) (fun k1 ihk1 i5 i6 H => ?_) Fuel (IntKind.i64.wrap (p1 - (p0.length : Int))) (0) (H)) (fun _ h => St.sel [] rfl rfl h) ⟨rfl, rfl, rfl,  trivial⟩
    · unfold laws_szStringS_L1 at H
      exact absurd H (by simp)
    · unfold laws_szStringS_L1 at H
      refine c_seq ?_
      refine c_seq ?_
      refine c_reg ?_
      refine ow_batch [.p, .p, .lenS 23 9 sl23, .p] rfl ?_
      refine ow_nil ?_
      refine x_qs ?_
      refine c_if rfl (fun hb => ?_) (fun hb => ?_)
      · have H := of_if_t hb H
        refine c_skip ?_
        refine x_qs ?_
        refine c_seq ?_
        refine c_block ?_
        refine c_seq ?_
        refine c_reg ?_
        refine ow_batch [.p, .p, .p] rfl ?_
        obtain ⟨e11, h12, H⟩ := of_bind H
        refine ow_ixE (e := eStr) (xs := p0) (j := i6) rfl rfl rfl rfl rfl sl23 ty9 rfl (fun w1 hw1 => rds_bor g0 w1 hw1) h12 (by rw [Nat.mul_one]) ?_
        refine ow_r rfl (dstOk_lt rfl) (ry_load1 rfl rfl ty9 (at_elV (fun w1 hw1 => rds_bor g0 w1 hw1) h12)) ?_
        refine ow_batch [.lenT 9 st9, .p, .p] rfl ?_
        refine ow_nil ?_
        refine x_qs ?_
        refine c_seq ?_
        refine c_reg ?_
        refine ow_batch [.p, .p] rfl ?_
        refine ow_nil ?_
        refine x_qs ?_
        refine c_if rfl (fun hb => ?_) (fun hb => ?_)
        · have H := of_if_t hb H
          refine c_seq ?_
          refine c_reg ?_
          refine ow_batch [.p] rfl ?_
          refine ow_nil ?_
          refine x_qs ?_
          refine c_ret ?_
          refine x_qb_ret ?_
          refine x_qs_ret ?_
          refine x_ql_ret ?_
          refine x_qb_ret ?_
          refine x_qs_ret ?_
          exact x_retR (rs := [.tmp 4]) (vs := [.int .i64 (-1)]) rfl ⟨rfl, trivial⟩ (fun w' hw' => by
              obtain rfl := of_some H
              exact ⟨rfl, hw'.ext⟩)
        · have H := of_if_f hb H
          refine c_skip ?_
          refine x_qb ?_
          refine x_qs ?_
          refine c_reg ?_
          refine ow_batch [.p, .p, .p] rfl ?_
          refine ow_nil ?_
          exact x_ql (RW.at (ihk1 (IntKind.i64.wrap (i5 - (e11.length : Int))) (IntKind.i64.wrap (i6 + 1)) (H)) (fun _ h => St.sel [] rfl rfl h) ⟨rfl, rfl, rfl, trivial⟩)
      · have H := of_if_f hb H
        refine c_exit ?_
        refine x_qs_exit ?_
        refine x_ql_exit ?_
        refine x_qb_here ?_
        refine x_qs ?_
        refine c_seq ?_
        refine c_reg ?_
        refine ow_batch [.p, .p] rfl ?_
        refine ow_nil ?_
        refine x_qs ?_
        refine c_ret ?_
        exact x_retR (rs := [.tmp 4]) (vs := [.int .i64 i5]) rfl ⟨rfl, trivial⟩ (fun w' hw' => by
            obtain rfl := of_some H
            exact ⟨rfl, hw'.ext⟩)

set_option maxHeartbeats 4000000 in
set_option maxRecDepth 100000 in
theorem laws_szAttr_ok (w : World) {p0 : Tlaws_Attr} {p1 : Int} {cs0 : List Value} {r : Int} (H : laws_szAttr p0 p1 = some r)  (g0 : (eTlaws_Attr).rd w [] p0 cs0) :
    Calls Try.prog 11 #[.agg cs0.toArray, .int .i64 p1] w (fun en w' => en = .returned (.int .i64 r) ∧ Ext [] w w') := by
  obtain ⟨c1, c2, c3, rfl, g4, g5, g6⟩ := rdo_Tlaws_Attr g0
  obtain rfl : c1 = [vS p0.Name_] := g4
  obtain ⟨a7, c8, rfl⟩ := rd_sl1 g5
  obtain ⟨a9, c10, rfl⟩ := rd_sl1 g6
  unfold laws_szAttr at H
  refine f_enter (vs := [.agg #[vS p0.Name_, .slice a7 p0.Cuts_.length c8, .slice a9 p0.Values_.length c10], .int .i64 p1]) Try.func11 rfl Try.ntmps11 rfl (St.init w []) ?_
  refine c_seq ?_
  refine c_reg ?_
  refine ow_box (cs := [vS p0.Name_, .slice a7 p0.Cuts_.length c8, .slice a9 p0.Values_.length c10]) rfl rfl rfl rfl rfl rfl (fun _ => kp) (fun b11 => ?_)
  refine ow_batch [.p] rfl ?_
  refine ow_nil ?_
  refine x_qs ?_
  refine c_seq ?_
  refine c_reg ?_
  refine ow_batch [.p, .fa 25 0 0 fa25_0] rfl ?_
  refine ow_r rfl (dstOk_lt rfl) (ry_box1 (off := 0) rfl rfl ty9 (boxIn (i := 0) rfl) rfl) ?_
  refine ow_batch [.lenT 9 st9, .p, .p] rfl ?_
  refine ow_nil ?_
  refine x_qs ?_
  refine c_seq ?_
  refine c_seq ?_
  refine c_reg ?_
  refine ow_batch [.p, .p] rfl ?_
  refine ow_nil ?_
  refine x_qs ?_
  refine c_if rfl (fun hb => ?_) (fun hb => ?_)
  · have H := of_if_t hb H
    refine c_seq ?_
    refine c_reg ?_
    refine ow_batch [.p] rfl ?_
    refine ow_nil ?_
    refine x_qs ?_
    refine c_ret ?_
    refine x_qs_ret ?_
    exact x_retR (rs := [.tmp 4]) (vs := [.int .i64 (-1)]) rfl ⟨rfl, trivial⟩ (fun w' hw' => by
        obtain rfl := of_some H
        exact ⟨rfl, hw'.ext⟩)
  · have H := of_if_f hb H
    refine c_skip ?_
    refine x_qs ?_
    refine c_seq ?_
    refine c_reg ?_
    refine ow_batch [.fa 25 1 1 fa25_1] rfl ?_
    refine ow_r rfl (dstOk_lt rfl) (ry_box1 (off := 1) rfl rfl ty22 (boxIn (i := 0) rfl) rfl) ?_
    refine ow_batch [.p] rfl ?_
    obtain ⟨y12, h13, H⟩ := of_bind H
    refine ow_q rfl rfl (dstOk_lt rfl) (qy_call rfl fn55 rfl (fun w1 hw1 => laws_szIntS_ok w1  h13 (rds_bor g5 w1 hw1))) (fun _ _ => trivial) ?_
    refine ow_batch [.p] rfl ?_
    refine ow_nil ?_
    refine x_qs ?_
    refine c_seq ?_
    refine c_seq ?_
    refine c_reg ?_
    refine ow_batch [.p, .p] rfl ?_
    refine ow_nil ?_
    refine x_qs ?_
    refine c_if rfl (fun hb => ?_) (fun hb => ?_)
    · have H := of_if_t hb H
      refine c_seq ?_
      refine c_reg ?_
      refine ow_batch [.p] rfl ?_
      refine ow_nil ?_
      refine x_qs ?_
      refine c_ret ?_
      refine x_qs_ret ?_
      exact x_retR (rs := [.tmp 4]) (vs := [.int .i64 (-1)]) rfl ⟨rfl, trivial⟩ (fun w' hw' => by
          obtain rfl := of_some H
          exact ⟨rfl, hw'.ext⟩)
    · have H := of_if_f hb H
      refine c_skip ?_
      refine x_qs ?_
      refine c_seq ?_
      refine c_reg ?_
      refine ow_batch [.fa 25 2 2 fa25_2] rfl ?_
      refine ow_r rfl (dstOk_lt rfl) (ry_box1 (off := 2) rfl rfl ty23 (boxIn (i := 0) rfl) rfl) ?_
      refine ow_batch [.p] rfl ?_
      obtain ⟨y14, h15, H⟩ := of_bind H
      refine ow_q rfl rfl (dstOk_lt rfl) (qy_call rfl fn56 rfl (fun w1 hw1 => laws_szStringS_ok w1  h15 (rds_bor g6 w1 hw1))) (fun _ _ => trivial) ?_
      refine ow_batch [.p] rfl ?_
      refine ow_nil ?_
      refine x_qs ?_
      refine c_seq ?_
      refine c_seq ?_
      refine c_reg ?_
      refine ow_batch [.p, .p] rfl ?_
      refine ow_nil ?_
      refine x_qs ?_
      refine c_if rfl (fun hb => ?_) (fun hb => ?_)
      · have H := of_if_t hb H
        refine c_seq ?_
        refine c_reg ?_
        refine ow_batch [.p] rfl ?_
        refine ow_nil ?_
        refine x_qs ?_
        refine c_ret ?_
        refine x_qs_ret ?_
        exact x_retR (rs := [.tmp 4]) (vs := [.int .i64 (-1)]) rfl ⟨rfl, trivial⟩ (fun w' hw' => by
            obtain rfl := of_some H
            exact ⟨rfl, hw'.ext⟩)
      · have H := of_if_f hb H
        refine c_skip ?_
        refine x_qs ?_
        refine c_seq ?_
        refine c_reg ?_
        refine ow_batch [.p, .p] rfl ?_
        refine ow_nil ?_
        refine x_qs ?_
        refine c_ret ?_
        exact x_retR (rs := [.tmp 4]) (vs := [.int .i64 y14]) rfl ⟨rfl, trivial⟩ (fun w' hw' => by
            obtain rfl := of_some H
            exact ⟨rfl, hw'.ext⟩)

set_option maxHeartbeats 4000000 in
set_option maxRecDepth 100000 in
theorem laws_toIntS_ok (w : World) {M0 : List Nat} {p0 : List Int} {a_0 : Option Addr} {n_0 c_0 : Nat} {r : List Int} (H : laws_toIntS p0 = some r) (HS : St w M0 [] w) (g0 : (eList (eVal (Value.int .i64) (fun _ => rfl)) 3).rd w M0 p0 [.slice a_0 n_0 c_0]) :
    Calls Try.prog 60 #[.slice a_0 n_0 c_0] w (fun en w' => ∃ v, en = .returned v ∧ ∃ (a0 : Option Addr), ∃ (n0 : Nat), ∃ (c0 : Nat), ∃ (F0 : List Nat), v = .slice a0 n0 c0 ∧ St w M0 [Res.own (eList (eVal (Value.int .i64) (fun _ => rfl)) 3) F0 r [.slice a0 n0 c0]] w') := by
  obtain rfl := rd_n g0
  unfold laws_toIntS at H
  refine f_enter (vs := [.slice a_0 p0.length c_0]) Try.func60 rfl Try.ntmps60 rfl (HS) ?_
  refine c_seq ?_
  refine c_reg ?_
  refine ow_batch [.p] rfl ?_
  refine ow_nil ?_
  refine x_qs ?_
  refine c_seq ?_
  refine c_reg ?_
  refine ow_batch [.p, .lenS 22 3 sl22] rfl ?_
  obtain ⟨l1, h2, H⟩ := of_bind H
  refine ow_make (e := eVal (Value.int .i64) (fun _ => rfl)) (zero := (0 : Int)) rfl rfl rfl rfl rfl rfl sl22 ty3 rfl rfl rfl rfl (fun _ => ⟨rfl, rfl⟩) h2 (fun _ => kp) (fun b3 => ?_)
  refine ow_batch [.p] rfl ?_
  refine ow_nil ?_
  refine x_qs ?_
  refine c_seq ?_
  refine c_seq ?_
  refine c_reg ?_
  refine ow_batch [.p] rfl ?_
  refine ow_nil ?_
  refine x_qs ?_
  refine c_block ?_
  refine CW.at (loopI2 (fun (l10 : List Int) (i11 : Int) => St w M0 [Res.own (eList (eVal (Value.int .i64) (fun _ => rfl)) 3) [b3] l10 [.slice (some ⟨b3, 0, none⟩) l1.length l1.length]]) (fun (l10 : List Int) (i11 : Int) => [(0, .slice a_0 p0.length c_0), (3, .slice (some ⟨b3, 0, none⟩) l1.length l1.length), (4, .int .i64 i11)]) (fun kk => fun (l10 : List Int) (i11 : Int) => laws_toIntS_L1 p0 kk l10 i11 = some r) (fun _ _ H => ?_) (fun k1 ihk1 l10 i11 H => ?_) Fuel (l1) (0) (H)) (fun _ h => St.sel [0] rfl rfl h) ⟨rfl, rfl, rfl,  trivial⟩
  · unfold laws_toIntS_L1 at H
    exact absurd H (by simp)
  · unfold laws_toIntS_L1 at H
    refine c_seq ?_
    refine c_seq ?_
    refine c_reg ?_
    refine ow_batch [.p, .p, .lenS 22 3 sl22, .p] rfl ?_
    refine ow_nil ?_
    refine x_qs ?_
    refine c_if rfl (fun hb => ?_) (fun hb => ?_)
    · have H := of_if_t hb H
      refine c_skip ?_
      refine x_qs ?_
      refine c_seq ?_
      refine c_block ?_
      refine c_reg ?_
      refine ow_batch [.p, .p, .p, .p] rfl ?_
      obtain ⟨e18, h19, H⟩ := of_bind H
      refine ow_ixE (e := eVal (Value.int .i64) (fun _ => rfl)) (xs := p0) (j := i11) rfl rfl rfl rfl rfl sl22 ty3 rfl (fun w1 hw1 => rds_bor g0 w1 hw1) h19 (by rw [Nat.mul_one]) ?_
      refine ow_r rfl (dstOk_lt rfl) (ry_load1 rfl rfl ty3 (at_elV (fun w1 hw1 => rds_bor g0 w1 hw1) h19)) ?_
      obtain ⟨e20, h21, H⟩ := of_bind H
      refine ow_ixE (e := eVal (Value.int .i64) (fun _ => rfl)) (xs := l10) (j := i11) rfl rfl rfl rfl rfl sl22 ty3 rfl (fun w1 hw1 => rds_own (r := 0) rfl w1 hw1) h21 (by rw [Nat.mul_one]) ?_
      refine ow_storeV (i := 0) (j := i11) rfl rfl rfl rfl rfl rfl ty3 rfl h21 (fun _ => rfl) kp ?_
      refine ow_nil ?_
      refine x_qb ?_
      refine x_qs ?_
      refine c_reg ?_
      refine ow_batch [.p, .p, .p] rfl ?_
      refine ow_nil ?_
      exact x_ql (RW.at (ihk1 ((l10.set i11.toNat e18)) (IntKind.i64.wrap (i11 + 1)) (H)) (fun _ h => St.sel [0] rfl rfl h) ⟨rfl, rfl, rfl, trivial⟩)
    · have H := of_if_f hb H
      refine c_exit ?_
      refine x_qs_exit ?_
      refine x_ql_exit ?_
      refine x_qb_here ?_
      refine x_qs ?_
      refine c_seq ?_
      refine c_reg ?_
      refine ow_batch [.p, .p] rfl ?_
      refine ow_nil ?_
      refine x_qs ?_
      refine c_ret ?_
      exact x_retR (rs := [.tmp 2]) (vs := [.slice (some ⟨b3, 0, none⟩) l1.length l1.length]) rfl ⟨rfl, trivial⟩ (fun w' hw' => by
          obtain rfl := of_some H
          exact ⟨_, rfl, (some ⟨b3, 0, none⟩), l1.length, l1.length, [b3], rfl, hw'.sel [0] rfl rfl⟩)

set_option maxHeartbeats 4000000 in
set_option maxRecDepth 100000 in
theorem laws_toStringS_ok (w : World) {M0 : List Nat} {p0 : List (List UInt8)} {a_0 : Option Addr} {n_0 c_0 : Nat} {r : List (List UInt8)} (H : laws_toStringS p0 = some r) (HS : St w M0 [] w) (g0 : (eList (eStr) 9).rd w M0 p0 [.slice a_0 n_0 c_0]) :
    Calls Try.prog 61 #[.slice a_0 n_0 c_0] w (fun en w' => ∃ v, en = .returned v ∧ ∃ (a0 : Option Addr), ∃ (n0 : Nat), ∃ (c0 : Nat), ∃ (F0 : List Nat), v = .slice a0 n0 c0 ∧ St w M0 [Res.own (eList (eStr) 9) F0 r [.slice a0 n0 c0]] w') := by
  obtain rfl := rd_n g0
  unfold laws_toStringS at H
  refine f_enter (vs := [.slice a_0 p0.length c_0]) Try.func61 rfl Try.ntmps61 rfl (HS) ?_
  refine c_seq ?_
  refine c_reg ?_
  refine ow_batch [.p] rfl ?_
  refine ow_nil ?_
  refine x_qs ?_
  refine c_seq ?_
  refine c_reg ?_
  refine ow_batch [.p, .lenS 23 9 sl23] rfl ?_
  obtain ⟨l1, h2, H⟩ := of_bind H
  refine ow_make (e := eStr) (zero := ([] : List UInt8)) rfl rfl rfl rfl rfl rfl sl23 ty9 rfl rfl rfl rfl (fun _ => ⟨rfl, rfl⟩) h2 (fun _ => kp) (fun b3 => ?_)
  refine ow_batch [.p] rfl ?_
  refine ow_nil ?_
  refine x_qs ?_
  refine c_seq ?_
  refine c_seq ?_
  refine c_reg ?_
  refine ow_batch [.p] rfl ?_
  refine ow_nil ?_
  refine x_qs ?_
  refine c_block ?_
  refine CW.at (loopI2 (fun (l10 : List (List UInt8)) (i11 : Int) => St w M0 [Res.own (eList (eStr) 9) [b3] l10 [.slice (some ⟨b3, 0, none⟩) l1.length l1.length]]) (fun (l10 : List (List UInt8)) (i11 : Int) => [(0, .slice a_0 p0.length c_0), (3, .slice (some ⟨b3, 0, none⟩) l1.length l1.length), (4, .int .i64 i11)]) (fun kk => fun (l10 : List (List UInt8)) (i11 : Int) => laws_toStringS_L1 p0 kk l10 i11 = some r) (fun _ _ H => ?_) (fun k1 ihk1 l10 i11 H => ?_) Fuel (l1) (0) (H)) (fun _ h => St.sel [0] rfl rfl h) ⟨rfl, rfl, rfl,  trivial⟩
  · unfold laws_toStringS_L1 at H
    exact absurd H (by simp)
  · unfold laws_toStringS_L1 at H
    refine c_seq ?_
    refine c_seq ?_
    refine c_reg ?_
    refine ow_batch [.p, .p, .lenS 23 9 sl23, .p] rfl ?_
    refine ow_nil ?_
    refine x_qs ?_
    refine c_if rfl (fun hb => ?_) (fun hb => ?_)
    · have H := of_if_t hb H
      refine c_skip ?_
      refine x_qs ?_
      refine c_seq ?_
      refine c_block ?_
      refine c_reg ?_
      refine ow_batch [.p, .p, .p, .p] rfl ?_
      obtain ⟨e18, h19, H⟩ := of_bind H
      refine ow_ixE (e := eStr) (xs := p0) (j := i11) rfl rfl rfl rfl rfl sl23 ty9 rfl (fun w1 hw1 => rds_bor g0 w1 hw1) h19 (by rw [Nat.mul_one]) ?_
      refine ow_r rfl (dstOk_lt rfl) (ry_load1 rfl rfl ty9 (at_elV (fun w1 hw1 => rds_bor g0 w1 hw1) h19)) ?_
      obtain ⟨e20, h21, H⟩ := of_bind H
      refine ow_ixE (e := eStr) (xs := l10) (j := i11) rfl rfl rfl rfl rfl sl23 ty9 rfl (fun w1 hw1 => rds_own (r := 0) rfl w1 hw1) h21 (by rw [Nat.mul_one]) ?_
      refine ow_storeV (i := 0) (j := i11) rfl rfl rfl rfl rfl rfl ty9 rfl h21 (fun _ => rfl) kp ?_
      refine ow_nil ?_
      refine x_qb ?_
      refine x_qs ?_
      refine c_reg ?_
      refine ow_batch [.p, .p, .p] rfl ?_
      refine ow_nil ?_
      exact x_ql (RW.at (ihk1 ((l10.set i11.toNat e18)) (IntKind.i64.wrap (i11 + 1)) (H)) (fun _ h => St.sel [0] rfl rfl h) ⟨rfl, rfl, rfl, trivial⟩)
    · have H := of_if_f hb H
      refine c_exit ?_
      refine x_qs_exit ?_
      refine x_ql_exit ?_
      refine x_qb_here ?_
      refine x_qs ?_
      refine c_seq ?_
      refine c_reg ?_
      refine ow_batch [.p, .p] rfl ?_
      refine ow_nil ?_
      refine x_qs ?_
      refine c_ret ?_
      exact x_retR (rs := [.tmp 2]) (vs := [.slice (some ⟨b3, 0, none⟩) l1.length l1.length]) rfl ⟨rfl, trivial⟩ (fun w' hw' => by
          obtain rfl := of_some H
          exact ⟨_, rfl, (some ⟨b3, 0, none⟩), l1.length, l1.length, [b3], rfl, hw'.sel [0] rfl rfl⟩)

set_option maxHeartbeats 4000000 in
set_option maxRecDepth 100000 in
theorem laws_toAttr_ok (w : World) {M0 : List Nat} {p0 : Tlaws_Attr} {cs0 : List Value} {r : Timpl_Attr} (H : laws_toAttr p0 = some r) (HS : St w M0 [] w) (g0 : (eTlaws_Attr).rd w M0 p0 cs0) :
    Calls Try.prog 13 #[.agg cs0.toArray] w (fun en w' => ∃ v, en = .returned v ∧ ∃ (a0 : Option Addr), ∃ (n0 : Nat), ∃ (c0 : Nat), ∃ (F0 : List Nat), ∃ (a1 : Option Addr), ∃ (n1 : Nat), ∃ (c1 : Nat), ∃ (F1 : List Nat), v = .agg #[vS r.Name_, .slice a0 n0 c0, .slice a1 n1 c1] ∧ St w M0 [Res.own (eList (eVal (Value.int .i64) (fun _ => rfl)) 3) F0 r.Cuts_ [.slice a0 n0 c0], Res.own (eList (eStr) 9) F1 r.Values_ [.slice a1 n1 c1]] w') := by
  obtain ⟨c1, c2, c3, rfl, g4, g5, g6⟩ := rdo_Tlaws_Attr g0
  obtain rfl : c1 = [vS p0.Name_] := g4
  obtain ⟨a7, c8, rfl⟩ := rd_sl1 g5
  obtain ⟨a9, c10, rfl⟩ := rd_sl1 g6
  unfold laws_toAttr at H
  refine f_enter (vs := [.agg #[vS p0.Name_, .slice a7 p0.Cuts_.length c8, .slice a9 p0.Values_.length c10]]) Try.func13 rfl Try.ntmps13 rfl (HS) ?_
  refine c_seq ?_
  refine c_reg ?_
  refine ow_box (cs := [vS p0.Name_, .slice a7 p0.Cuts_.length c8, .slice a9 p0.Values_.length c10]) rfl rfl rfl rfl rfl rfl (fun _ => kp) (fun b11 => ?_)
  refine ow_alloc rfl rfl rfl rfl ty28 (fun _ => kp) (fun b12 => ?_)
  refine ow_nil ?_
  refine x_qs ?_
  refine c_seq ?_
  refine c_reg ?_
  refine ow_alloc rfl rfl rfl rfl ty28 (fun _ => kp) (fun b13 => ?_)
  refine ow_nil ?_
  refine x_qs ?_
  refine c_seq ?_
  refine c_reg ?_
  refine ow_batch [.fa 25 0 0 fa25_0] rfl ?_
  refine ow_r rfl (dstOk_lt rfl) (ry_box1 (off := 0) rfl rfl ty9 (boxIn (i := 0) rfl) rfl) ?_
  refine ow_batch [.fa 28 0 0 fa28_0] rfl ?_
  refine ow_storeC (off := 0) [vS p0.Name_] [_, _, _] (i := 2) rfl rfl rfl rfl rfl rfl ty9 rfl rfl (by intro u hu; simp only [List.mem_cons, List.not_mem_nil, or_false] at hu; rcases hu with rfl <;> rfl) rfl rfl rfl kp ?_
  refine ow_nil ?_
  refine x_qs ?_
  refine c_seq ?_
  refine c_reg ?_
  refine ow_batch [.fa 25 1 1 fa25_1] rfl ?_
  refine ow_r rfl (dstOk_lt rfl) (ry_box1 (off := 1) rfl rfl ty22 (boxIn (i := 0) rfl) rfl) ?_
  obtain ⟨y14, h15, H⟩ := of_bind H
  refine ow_callS rfl fn60 rfl rfl rfl rfl (fun w1 hw1 => laws_toIntS_ok w1  h15 (hw1.carve [] rfl rfl) (rds_bor g5 w1 hw1)) (fun v16 w1 w2 hw1 hR18 => ?_)
  obtain ⟨a19, n20, c21, F22, rfl, hS17⟩ := hR18
  obtain rfl := own_nS (i := 0) hS17 rfl
  refine ⟨St w M0 [_, _, _, _], hw1.comp [] rfl rfl hS17, fun _ _ => trivial, ?_⟩
  refine ow_batch [.fa 28 1 1 fa28_1] rfl ?_
  refine ow_storeC (off := 1) [.slice a19 y14.length c21] [_, _, _] (i := 2) rfl rfl rfl rfl rfl rfl ty22 rfl rfl (by intro u hu; simp only [List.mem_cons, List.not_mem_nil, or_false] at hu; rcases hu with rfl <;> rfl) rfl rfl rfl kp ?_
  refine ow_nil ?_
  refine x_qs ?_
  refine c_seq ?_
  refine c_reg ?_
  refine ow_batch [.fa 25 2 2 fa25_2] rfl ?_
  refine ow_r rfl (dstOk_lt rfl) (ry_box1 (off := 2) rfl rfl ty23 (boxIn (i := 0) rfl) rfl) ?_
  obtain ⟨y23, h24, H⟩ := of_bind H
  refine ow_callS rfl fn61 rfl rfl rfl rfl (fun w1 hw1 => laws_toStringS_ok w1  h24 (hw1.carve [] rfl rfl) (rds_bor g6 w1 hw1)) (fun v25 w1 w2 hw1 hR27 => ?_)
  obtain ⟨a28, n29, c30, F31, rfl, hS26⟩ := hR27
  obtain rfl := own_nS (i := 0) hS26 rfl
  refine ⟨St w M0 [_, _, _, _, _], hw1.comp [] rfl rfl hS26, fun _ _ => trivial, ?_⟩
  refine ow_batch [.fa 28 2 2 fa28_2] rfl ?_
  refine ow_storeC (off := 2) [.slice a28 y23.length c30] [_, _, _] (i := 2) rfl rfl rfl rfl rfl rfl ty23 rfl rfl (by intro u hu; simp only [List.mem_cons, List.not_mem_nil, or_false] at hu; rcases hu with rfl <;> rfl) rfl rfl rfl kp ?_
  refine ow_nil ?_
  refine x_qs ?_
  refine c_seq ?_
  refine c_reg ?_
  refine ow_r rfl (dstOk_lt rfl) (ry_box (off := 0) (ds := [vS p0.Name_, .slice a19 y14.length c21, .slice a28 y23.length c30]) rfl rfl ty28 (boxIn (i := 2) rfl) rfl rfl) ?_
  refine ow_storeC (off := 0) [vS p0.Name_, .slice a19 y14.length c21, .slice a28 y23.length c30] [_, _, _] (i := 1) rfl rfl rfl rfl rfl rfl ty28 rfl rfl (by intro u hu; simp only [List.mem_cons, List.not_mem_nil, or_false] at hu; rcases hu with rfl | rfl | rfl <;> rfl) rfl rfl rfl kp ?_
  refine ow_nil ?_
  refine x_qs ?_
  refine c_ret ?_
  exact x_retR (rs := [.cell 2 28]) (vs := [.agg #[vS p0.Name_, .slice a19 y14.length c21, .slice a28 y23.length c30]]) rfl ⟨⟨_, [vS p0.Name_, .slice a19 y14.length c21, .slice a28 y23.length c30], _, _, _, rfl, ty28, (at_box (T := 28) 0 (boxIn (i := 1) rfl) rfl), rfl, rfl⟩, trivial⟩ (fun w' hw' => by
      obtain rfl := of_some H
      exact ⟨_, rfl, a19, y14.length, c21, F22, a28, y23.length, c30, F31, rfl, hw'.sel [3, 4] rfl rfl⟩)

set_option maxHeartbeats 4000000 in
set_option maxRecDepth 100000 in
theorem spec_l1In_ok (w : World) {p0 : Int} {p1 : Int} {p2 : Int}  {r : Bool} (H : spec_l1In p0 p1 p2 = some r)   :
    Calls Try.prog 71 #[.int .i64 p0, .int .i64 p1, .int .i64 p2] w (fun en w' => en = .returned (.bool r) ∧ Ext [] w w') := by
  unfold spec_l1In at H
  refine f_enter (vs := [.int .i64 p0, .int .i64 p1, .int .i64 p2]) Try.func71 rfl Try.ntmps71 rfl (St.init w []) ?_
  refine c_seq ?_
  refine c_reg ?_
  refine ow_batch [.p] rfl ?_
  refine ow_nil ?_
  refine x_qs ?_
  refine c_seq ?_
  refine c_reg ?_
  refine ow_batch [.p, .p, .p, .p] rfl ?_
  refine ow_cut [(14, .bool ((decide (p0 ≥ p1)) && (decide (p0 ≤ p2)))), (6, .bool false)] 4 ?_ (fun key => OW.sub (R := [(0, .int .i64 p0), (2, .int .i64 p2), (6, .bool false), (10, .bool (decide (p0 ≥ p1)))]) ?_ ⟨rfl, rfl, rfl, rfl, trivial⟩)
  · refine ow_batch [.p] rfl ?_
    refine ow_nil ?_
    refine x_qs ?_
    refine c_ret ?_
    exact x_retR (rs := [.tmp 6]) (vs := [.bool ((decide (p0 ≥ p1)) && (decide (p0 ≤ p2)))]) rfl ⟨rfl, trivial⟩ (fun w' hw' => by
        obtain rfl := of_some H
        exact ⟨rfl, hw'.ext⟩)
  · generalize (decide (p0 ≥ p1)) = t2 at key ⊢
    cases t2
    · refine ow_batch [.p, .p, .p, .p] rfl ?_
      exact OW.sub key ⟨rfl, rfl, trivial⟩
    · refine ow_batch [.p, .p, .p] rfl ?_
      refine ow_batch [.p] rfl ?_
      exact OW.sub key ⟨rfl, rfl, trivial⟩

set_option maxHeartbeats 4000000 in
set_option maxRecDepth 100000 in
theorem spec_WordOk_ok (w : World) {p0 : List UInt8}  {r : Bool} (H : spec_WordOk p0 = some r)   :
    Calls Try.prog 104 #[vS p0] w (fun en w' => en = .returned (.bool r) ∧ Ext [] w w') := by
  unfold spec_WordOk at H
  refine f_enter (vs := [vS p0]) Try.func104 rfl Try.ntmps104 rfl (St.init w []) ?_
  refine c_seq ?_
  refine c_reg ?_
  refine ow_batch [.p] rfl ?_
  refine ow_nil ?_
  refine x_qs ?_
  refine c_seq ?_
  refine c_seq ?_
  refine c_reg ?_
  refine ow_batch [.p, .lenT 9 st9] rfl ?_
  obtain ⟨y1, h2, H⟩ := of_bind H
  refine ow_q rfl rfl (dstOk_lt rfl) (qy_call rfl fn71 rfl (fun w1 hw1 => spec_l1In_ok w1  h2)) (fun _ _ => trivial) ?_
  refine ow_batch [.p] rfl ?_
  refine ow_nil ?_
  refine x_qs ?_
  refine c_if rfl (fun hb => ?_) (fun hb => ?_)
  · have H := of_if_t hb H
    refine c_seq ?_
    refine c_reg ?_
    refine ow_batch [.p] rfl ?_
    refine ow_nil ?_
    refine x_qs ?_
    refine c_ret ?_
    refine x_qs_ret ?_
    exact x_retR (rs := [.tmp 2]) (vs := [.bool false]) rfl ⟨rfl, trivial⟩ (fun w' hw' => by
        obtain rfl := of_some H
        exact ⟨rfl, hw'.ext⟩)
  · have H := of_if_f hb H
    refine c_skip ?_
    refine x_qs ?_
    refine c_seq ?_
    refine c_seq ?_
    refine c_reg ?_
    refine ow_batch [.p] rfl ?_
    refine ow_nil ?_
    refine x_qs ?_
    refine c_block ?_
    refine CW.at (loopI1 (fun (i11 : Int) => St w [] []) (fun (i11 : Int) => [(0, vS p0), (3, .int .i64 i11)]) (fun kk => fun (i11 : Int) => spec_WordOk_L1 p0 kk i11 = some r) (fun _ H => ?_) (fun k1 ihk1 i11 H => ?_) Fuel (0) (H)) (fun _ h => St.sel [] rfl rfl h) ⟨rfl, rfl,  trivial⟩
    · unfold spec_WordOk_L1 at H
      exact absurd H (by simp)
    · unfold spec_WordOk_L1 at H
      refine c_seq ?_
      refine c_seq ?_
      refine c_reg ?_
      refine ow_batch [.p, .p, .lenT 9 st9, .p] rfl ?_
      refine ow_nil ?_
      refine x_qs ?_
      refine c_if rfl (fun hb => ?_) (fun hb => ?_)
      · have H := of_if_t hb H
        refine c_skip ?_
        refine x_qs ?_
        refine c_seq ?_
        refine c_block ?_
        refine c_seq ?_
        refine c_reg ?_
        refine ow_batch [.p, .p] rfl ?_
        obtain ⟨b20, h21, H⟩ := of_bind H
        refine ow_r rfl (dstOk_lt rfl) (ry_sidx (s := p0) rfl rfl rfl st9 h21) ?_
        refine ow_batch [.p, .p] rfl ?_
        obtain ⟨u22, hu26, H⟩ := of_bind H
        refine ow_cut [(23, .bool u22), (0, vS p0), (3, .int .i64 i11)] 5 ?_ (fun key => OW.sub (R := [(0, vS p0), (3, .int .i64 i11), (18, .bool (decide ((b20.toNat : Int) < 97)))]) ?_ ⟨rfl, rfl, rfl, trivial⟩)
        · refine ow_nil ?_
          refine x_qs ?_
          refine c_if rfl (fun hb => ?_) (fun hb => ?_)
          · have H := of_if_t hb H
            refine c_seq ?_
            refine c_reg ?_
            refine ow_batch [.p] rfl ?_
            refine ow_nil ?_
            refine x_qs ?_
            refine c_ret ?_
            refine x_qb_ret ?_
            refine x_qs_ret ?_
            refine x_ql_ret ?_
            refine x_qb_ret ?_
            refine x_qs_ret ?_
            exact x_retR (rs := [.tmp 2]) (vs := [.bool false]) rfl ⟨rfl, trivial⟩ (fun w' hw' => by
                obtain rfl := of_some H
                exact ⟨rfl, hw'.ext⟩)
          · have H := of_if_f hb H
            refine c_skip ?_
            refine x_qb ?_
            refine x_qs ?_
            refine c_reg ?_
            refine ow_batch [.p, .p, .p] rfl ?_
            refine ow_nil ?_
            exact x_ql (RW.at (ihk1 (IntKind.i64.wrap (i11 + 1)) (H)) (fun _ h => St.sel [] rfl rfl h) ⟨rfl, rfl, trivial⟩)
        · clear H
          have H := hu26
          clear hu26
          generalize (decide ((b20.toNat : Int) < 97)) = t25 at H ⊢
          cases t25
          · have H := of_if_f rfl H
            refine ow_batch [.p, .p] rfl ?_
            obtain ⟨b23, h24, H⟩ := of_bind H
            refine ow_r rfl (dstOk_lt rfl) (ry_sidx (s := p0) rfl rfl rfl st9 h24) ?_
            refine ow_batch [.p] rfl ?_
            refine ow_batch [.p] rfl ?_
            obtain rfl := of_some H
            exact OW.sub key ⟨rfl, rfl, rfl, trivial⟩
          · have H := of_if_t rfl H
            refine ow_batch [.p, .p, .p, .p, .p] rfl ?_
            obtain rfl := of_some H
            exact OW.sub key ⟨rfl, rfl, rfl, trivial⟩
      · have H := of_if_f hb H
        refine c_exit ?_
        refine x_qs_exit ?_
        refine x_ql_exit ?_
        refine x_qb_here ?_
        refine x_qs ?_
        refine c_seq ?_
        refine c_reg ?_
        refine ow_batch [.p] rfl ?_
        refine ow_nil ?_
        refine x_qs ?_
        refine c_ret ?_
        exact x_retR (rs := [.tmp 2]) (vs := [.bool true]) rfl ⟨rfl, trivial⟩ (fun w' hw' => by
            obtain rfl := of_some H
            exact ⟨rfl, hw'.ext⟩)

set_option maxHeartbeats 4000000 in
set_option maxRecDepth 100000 in
theorem spec_l5Words_ok (w : World) {p0 : List (List UInt8)} {a_0 : Option Addr} {n_0 c_0 : Nat} {r : Bool} (H : spec_l5Words p0 = some r)  (g0 : (eList (eStr) 9).rd w [] p0 [.slice a_0 n_0 c_0]) :
    Calls Try.prog 105 #[.slice a_0 n_0 c_0] w (fun en w' => en = .returned (.bool r) ∧ Ext [] w w') := by
  obtain rfl := rd_n g0
  unfold spec_l5Words at H
  refine f_enter (vs := [.slice a_0 p0.length c_0]) Try.func105 rfl Try.ntmps105 rfl (St.init w []) ?_
  refine c_seq ?_
  refine c_reg ?_
  refine ow_batch [.p] rfl ?_
  refine ow_nil ?_
  refine x_qs ?_
  refine c_seq ?_
  refine c_seq ?_
  refine c_reg ?_
  refine ow_batch [.p] rfl ?_
  refine ow_nil ?_
  refine x_qs ?_
  refine c_block ?_
  refine CW.at (loopI1 (fun (i21 : Int) => St w [] []) (fun (i21 : Int) => [(0, .slice a_0 p0.length c_0), (3, .int .i64 i21)]) (fun kk => fun (i21 : Int) => spec_l5Words_L1 p0 kk i21 = some r) (fun _ H => ?_) (fun k1 ihk1 i21 H => ?_) Fuel (0) (H)) (fun _ h => St.sel [] rfl rfl h) ⟨rfl, rfl,  trivial⟩
  · unfold spec_l5Words_L1 at H
    exact absurd H (by simp)
  · unfold spec_l5Words_L1 at H
    refine c_seq ?_
    refine c_seq ?_
    refine c_reg ?_
    refine ow_batch [.p, .p, .lenS 23 9 sl23, .p] rfl ?_
    refine ow_nil ?_
    refine x_qs ?_
    refine c_if rfl (fun hb => ?_) (fun hb => ?_)
    · have H := of_if_t hb H
      refine c_skip ?_
      refine x_qs ?_
      refine c_seq ?_
      refine c_block ?_
      refine c_seq ?_
      refine c_seq ?_
      refine c_reg ?_
      refine ow_batch [.p, .p] rfl ?_
      obtain ⟨e42, h43, H⟩ := of_bind H
      refine ow_ixE (e := eStr) (xs := p0) (j := i21) rfl rfl rfl rfl rfl sl23 ty9 rfl (fun w1 hw1 => rds_bor g0 w1 hw1) h43 (by rw [Nat.mul_one]) ?_
      refine ow_r rfl (dstOk_lt rfl) (ry_load1 rfl rfl ty9 (at_elV (fun w1 hw1 => rds_bor g0 w1 hw1) h43)) ?_
      obtain ⟨y44, h45, H⟩ := of_bind H
      refine ow_q rfl rfl (dstOk_lt rfl) (qy_call rfl fn104 rfl (fun w1 hw1 => spec_WordOk_ok w1  h45)) (fun _ _ => trivial) ?_
      refine ow_batch [.p] rfl ?_
      refine ow_nil ?_
      refine x_qs ?_
      refine c_if rfl (fun hb => ?_) (fun hb => ?_)
      · have H := of_if_t hb H
        refine c_seq ?_
        refine c_reg ?_
        refine ow_batch [.p] rfl ?_
        refine ow_nil ?_
        refine x_qs ?_
        refine c_ret ?_
        refine x_qs_ret ?_
        refine x_qb_ret ?_
        refine x_qs_ret ?_
        refine x_ql_ret ?_
        refine x_qb_ret ?_
        refine x_qs_ret ?_
        exact x_retR (rs := [.tmp 2]) (vs := [.bool false]) rfl ⟨rfl, trivial⟩ (fun w' hw' => by
            obtain rfl := of_some H
            exact ⟨rfl, hw'.ext⟩)
      · have H := of_if_f hb H
        refine c_skip ?_
        refine x_qs ?_
        refine c_seq ?_
        refine c_reg ?_
        refine ow_batch [.p] rfl ?_
        refine ow_nil ?_
        refine x_qs ?_
        refine c_block ?_
        refine CW.at (loopI1 (fun (i51 : Int) => St w [] []) (fun (i51 : Int) => [(0, .slice a_0 p0.length c_0), (3, .int .i64 i21), (4, .int .i64 i51)]) (fun kk => fun (i51 : Int) => spec_l5Words_L2 i21 p0 (spec_l5Words_L1 p0 k1) kk i51 = some r) (fun _ H => ?_) (fun k2 ihk2 i51 H => ?_) Fuel (0) (H)) (fun _ h => St.sel [] rfl rfl h) ⟨rfl, rfl, rfl,  trivial⟩
        · unfold spec_l5Words_L2 at H
          exact absurd H (by simp)
        · unfold spec_l5Words_L2 at H
          refine c_seq ?_
          refine c_seq ?_
          refine c_reg ?_
          refine ow_batch [.p, .p, .p] rfl ?_
          refine ow_nil ?_
          refine x_qs ?_
          refine c_if rfl (fun hb => ?_) (fun hb => ?_)
          · have H := of_if_t hb H
            refine c_skip ?_
            refine x_qs ?_
            refine c_seq ?_
            refine c_block ?_
            refine c_seq ?_
            refine c_regQ mixed (by kernel_rfl) ?_
            refine ow_batch [.p, .p] rfl ?_
            obtain ⟨e57, h58, H⟩ := of_bind H
            refine ow_ixE (e := eStr) (xs := p0) (j := i21) rfl rfl rfl rfl rfl sl23 ty9 rfl (fun w1 hw1 => rds_bor g0 w1 hw1) h58 (by rw [Nat.mul_one]) ?_
            refine ow_r rfl (dstOk_lt rfl) (ry_load1 rfl rfl ty9 (at_elV (fun w1 hw1 => rds_bor g0 w1 hw1) h58)) ?_
            refine ow_batch [.p, .p] rfl ?_
            obtain ⟨e59, h60, H⟩ := of_bind H
            refine ow_ixE (e := eStr) (xs := p0) (j := i51) rfl rfl rfl rfl rfl sl23 ty9 rfl (fun w1 hw1 => rds_bor g0 w1 hw1) h60 (by rw [Nat.mul_one]) ?_
            refine ow_r rfl (dstOk_lt rfl) (ry_load1 rfl rfl ty9 (at_elV (fun w1 hw1 => rds_bor g0 w1 hw1) h60)) ?_
            refine ow_batch [.p] rfl ?_
            refine ow_nilQ ?_
            refine x_qs ?_
            refine c_if rfl (fun hb => ?_) (fun hb => ?_)
            · have H := of_if_t hb H
              refine c_seq ?_
              refine c_reg ?_
              refine ow_batch [.p] rfl ?_
              refine ow_nil ?_
              refine x_qs ?_
              refine c_ret ?_
              refine x_qb_ret ?_
              refine x_qs_ret ?_
              refine x_ql_ret ?_
              refine x_qb_ret ?_
              refine x_qb_ret ?_
              refine x_qs_ret ?_
              refine x_ql_ret ?_
              refine x_qb_ret ?_
              refine x_qs_ret ?_
              exact x_retR (rs := [.tmp 2]) (vs := [.bool false]) rfl ⟨rfl, trivial⟩ (fun w' hw' => by
                  obtain rfl := of_some H
                  exact ⟨rfl, hw'.ext⟩)
            · have H := of_if_f hb H
              refine c_skip ?_
              refine x_qb ?_
              refine x_qs ?_
              refine c_reg ?_
              refine ow_batch [.p, .p, .p] rfl ?_
              refine ow_nil ?_
              exact x_ql (RW.at (ihk2 (IntKind.i64.wrap (i51 + 1)) (H)) (fun _ h => St.sel [] rfl rfl h) ⟨rfl, rfl, rfl, trivial⟩)
          · have H := of_if_f hb H
            refine c_exit ?_
            refine x_qs_exit ?_
            refine x_ql_exit ?_
            refine x_qb_here ?_
            refine x_qb ?_
            refine x_qs ?_
            refine c_reg ?_
            refine ow_batch [.p, .p, .p] rfl ?_
            refine ow_nil ?_
            exact x_ql (RW.at (ihk1 (IntKind.i64.wrap (i21 + 1)) (H)) (fun _ h => St.sel [] rfl rfl h) ⟨rfl, rfl, trivial⟩)
    · have H := of_if_f hb H
      refine c_exit ?_
      refine x_qs_exit ?_
      refine x_ql_exit ?_
      refine x_qb_here ?_
      refine x_qs ?_
      refine c_seq ?_
      refine c_reg ?_
      refine ow_batch [.p] rfl ?_
      refine ow_nil ?_
      refine x_qs ?_
      refine c_ret ?_
      exact x_retR (rs := [.tmp 2]) (vs := [.bool true]) rfl ⟨rfl, trivial⟩ (fun w' hw' => by
          obtain rfl := of_some H
          exact ⟨rfl, hw'.ext⟩)

set_option maxHeartbeats 4000000 in
set_option maxRecDepth 100000 in
theorem spec_AttrOk_ok (w : World) {p0 : Timpl_Attr} {cs0 : List Value} {r : Bool} (H : spec_AttrOk p0 = some r)  (g0 : (eTimpl_Attr).rd w [] p0 cs0) :
    Calls Try.prog 57 #[.agg cs0.toArray] w (fun en w' => en = .returned (.bool r) ∧ Ext [] w w') := by
  obtain ⟨c1, c2, c3, rfl, g4, g5, g6⟩ := rdo_Timpl_Attr g0
  obtain rfl : c1 = [vS p0.Name_] := g4
  obtain ⟨a7, c8, rfl⟩ := rd_sl1 g5
  obtain ⟨a9, c10, rfl⟩ := rd_sl1 g6
  unfold spec_AttrOk at H
  refine f_enter (vs := [.agg #[vS p0.Name_, .slice a7 p0.Cuts_.length c8, .slice a9 p0.Values_.length c10]]) Try.func57 rfl Try.ntmps57 rfl (St.init w []) ?_
  refine c_seq ?_
  refine c_reg ?_
  refine ow_box (cs := [vS p0.Name_, .slice a7 p0.Cuts_.length c8, .slice a9 p0.Values_.length c10]) rfl rfl rfl rfl rfl rfl (fun _ => kp) (fun b11 => ?_)
  refine ow_batch [.p] rfl ?_
  refine ow_nil ?_
  refine x_qs ?_
  refine c_seq ?_
  refine c_seq ?_
  refine c_reg ?_
  refine ow_batch [.fa 28 0 0 fa28_0] rfl ?_
  refine ow_r rfl (dstOk_lt rfl) (ry_box1 (off := 0) rfl rfl ty9 (boxIn (i := 0) rfl) rfl) ?_
  obtain ⟨y12, h13, H⟩ := of_bind H
  refine ow_q rfl rfl (dstOk_lt rfl) (qy_call rfl fn104 rfl (fun w1 hw1 => spec_WordOk_ok w1  h13)) (fun _ _ => trivial) ?_
  refine ow_batch [.p] rfl ?_
  refine ow_nil ?_
  refine x_qs ?_
  refine c_if rfl (fun hb => ?_) (fun hb => ?_)
  · have H := of_if_t hb H
    refine c_seq ?_
    refine c_reg ?_
    refine ow_batch [.p] rfl ?_
    refine ow_nil ?_
    refine x_qs ?_
    refine c_ret ?_
    refine x_qs_ret ?_
    exact x_retR (rs := [.tmp 2]) (vs := [.bool false]) rfl ⟨rfl, trivial⟩ (fun w' hw' => by
        obtain rfl := of_some H
        exact ⟨rfl, hw'.ext⟩)
  · have H := of_if_f hb H
    refine c_skip ?_
    refine x_qs ?_
    refine c_seq ?_
    refine c_seq ?_
    refine c_reg ?_
    refine ow_batch [.fa 28 1 1 fa28_1] rfl ?_
    refine ow_r rfl (dstOk_lt rfl) (ry_box1 (off := 1) rfl rfl ty22 (boxIn (i := 0) rfl) rfl) ?_
    refine ow_batch [.lenS 22 3 sl22, .p] rfl ?_
    refine ow_nil ?_
    refine x_qs ?_
    refine c_if rfl (fun hb => ?_) (fun hb => ?_)
    · have H := of_if_t hb H
      refine c_seq ?_
      refine c_reg ?_
      refine ow_batch [.fa 28 2 2 fa28_2] rfl ?_
      refine ow_r rfl (dstOk_lt rfl) (ry_box1 (off := 2) rfl rfl ty23 (boxIn (i := 0) rfl) rfl) ?_
      refine ow_batch [.lenS 23 9 sl23] rfl ?_
      obtain ⟨y14, h15, H⟩ := of_bind H
      refine ow_q rfl rfl (dstOk_lt rfl) (qy_call rfl fn71 rfl (fun w1 hw1 => spec_l1In_ok w1  h15)) (fun _ _ => trivial) ?_
      refine ow_batch [.p] rfl ?_
      obtain ⟨u17, hu21, H⟩ := of_bind H
      refine ow_cut [(20, .bool u17), (2, .bool false)] 4 ?_ (fun key => OW.sub (R := [(1, .pointer (some ⟨b11, 0, none⟩)), (2, .bool false), (16, .bool y14)]) ?_ ⟨rfl, rfl, rfl, trivial⟩)
      · refine ow_batch [.p] rfl ?_
        refine ow_nil ?_
        refine x_qs ?_
        refine c_ret ?_
        refine x_qs_ret ?_
        exact x_retR (rs := [.tmp 2]) (vs := [.bool u17]) rfl ⟨rfl, trivial⟩ (fun w' hw' => by
            obtain rfl := of_some H
            exact ⟨rfl, hw'.ext⟩)
      · clear H
        have H := hu21
        clear hu21
        generalize y14 = t20 at H ⊢
        cases t20
        · have H := of_if_f rfl H
          refine ow_batch [.p, .p, .p, .p] rfl ?_
          obtain rfl := of_some H
          exact OW.sub key ⟨rfl, rfl, trivial⟩
        · have H := of_if_t rfl H
          refine ow_batch [.fa 28 2 2 fa28_2] rfl ?_
          refine ow_r rfl (dstOk_lt rfl) (ry_box1 (off := 2) rfl rfl ty23 (boxIn (i := 0) rfl) rfl) ?_
          obtain ⟨y18, h19, H⟩ := of_bind H
          refine ow_q rfl rfl (dstOk_lt rfl) (qy_call rfl fn105 rfl (fun w1 hw1 => spec_l5Words_ok w1  h19 (rds_bor g6 w1 hw1))) (fun _ _ => trivial) ?_
          refine ow_batch [.p] rfl ?_
          obtain rfl := of_some H
          exact OW.sub key ⟨rfl, rfl, trivial⟩
    · have H := of_if_f hb H
      refine c_skip ?_
      refine x_qs ?_
      refine c_seq ?_
      refine c_seq ?_
      refine c_reg ?_
      refine ow_batch [.fa 28 2 2 fa28_2] rfl ?_
      refine ow_r rfl (dstOk_lt rfl) (ry_box1 (off := 2) rfl rfl ty23 (boxIn (i := 0) rfl) rfl) ?_
      refine ow_batch [.lenS 23 9 sl23, .p, .p] rfl ?_
      refine ow_cut [(30, .bool ((decide ((p0.Values_.length : Int) > 0)) || (decide ((p0.Cuts_.length : Int) > 3)))), (1, .pointer (some ⟨b11, 0, none⟩))] 5 ?_ (fun key => OW.sub (R := [(1, .pointer (some ⟨b11, 0, none⟩)), (25, .bool (decide ((p0.Values_.length : Int) > 0)))]) ?_ ⟨rfl, rfl, trivial⟩)
      · refine ow_nil ?_
        refine x_qs ?_
        refine c_if rfl (fun hb => ?_) (fun hb => ?_)
        · have H := of_if_t hb H
          refine c_seq ?_
          refine c_reg ?_
          refine ow_batch [.p] rfl ?_
          refine ow_nil ?_
          refine x_qs ?_
          refine c_ret ?_
          refine x_qs_ret ?_
          exact x_retR (rs := [.tmp 2]) (vs := [.bool false]) rfl ⟨rfl, trivial⟩ (fun w' hw' => by
              obtain rfl := of_some H
              exact ⟨rfl, hw'.ext⟩)
        · have H := of_if_f hb H
          refine c_skip ?_
          refine x_qs ?_
          refine c_seq ?_
          refine c_seq ?_
          refine c_reg ?_
          refine ow_batch [.p] rfl ?_
          refine ow_nil ?_
          refine x_qs ?_
          refine c_block ?_
          refine CW.at (loopI1 (fun (i39 : Int) => St w [] [Res.box b11 28 [vS p0.Name_, .slice a7 p0.Cuts_.length c8, .slice a9 p0.Values_.length c10]]) (fun (i39 : Int) => [(1, .pointer (some ⟨b11, 0, none⟩)), (3, .int .i64 i39)]) (fun kk => fun (i39 : Int) => spec_AttrOk_L1 p0 kk i39 = some r) (fun _ H => ?_) (fun k1 ihk1 i39 H => ?_) Fuel (0) (H)) (fun _ h => St.sel [0] rfl rfl h) ⟨rfl, rfl,  trivial⟩
          · unfold spec_AttrOk_L1 at H
            exact absurd H (by simp)
          · unfold spec_AttrOk_L1 at H
            refine c_seq ?_
            refine c_seq ?_
            refine c_reg ?_
            refine ow_batch [.p, .fa 28 1 1 fa28_1] rfl ?_
            refine ow_r rfl (dstOk_lt rfl) (ry_box1 (off := 1) rfl rfl ty22 (boxIn (i := 0) rfl) rfl) ?_
            refine ow_batch [.lenS 22 3 sl22, .p] rfl ?_
            refine ow_nil ?_
            refine x_qs ?_
            refine c_if rfl (fun hb => ?_) (fun hb => ?_)
            · have H := of_if_t hb H
              refine c_skip ?_
              refine x_qs ?_
              refine c_seq ?_
              refine c_block ?_
              refine c_seq ?_
              refine c_regQ mixed (by kernel_rfl) ?_
              refine ow_batch [.fa 28 1 1 fa28_1] rfl ?_
              refine ow_r rfl (dstOk_lt rfl) (ry_box1 (off := 1) rfl rfl ty22 (boxIn (i := 0) rfl) rfl) ?_
              refine ow_batch [.p] rfl ?_
              obtain ⟨e55, h56, H⟩ := of_bind H
              refine ow_ixE (e := eVal (Value.int .i64) (fun _ => rfl)) (xs := p0.Cuts_) (j := i39) rfl rfl rfl rfl rfl sl22 ty3 rfl (fun w1 hw1 => rds_bor g5 w1 hw1) h56 (by rw [Nat.mul_one]) ?_
              refine ow_r rfl (dstOk_lt rfl) (ry_load1 rfl rfl ty3 (at_elV (fun w1 hw1 => rds_bor g5 w1 hw1) h56)) ?_
              obtain ⟨y57, h58, H⟩ := of_bind H
              refine ow_q rfl rfl (dstOk_lt rfl) (qy_call rfl fn71 rfl (fun w1 hw1 => spec_l1In_ok w1  h58)) (fun _ _ => trivial) ?_
              refine ow_batch [.p, .p] rfl ?_
              obtain ⟨u59, hu68, H⟩ := of_bind H
              refine ow_cut [(62, .bool u59), (1, .pointer (some ⟨b11, 0, none⟩)), (3, .int .i64 i39)] 17 ?_ (fun key => OW.sub (R := [(1, .pointer (some ⟨b11, 0, none⟩)), (3, .int .i64 i39), (45, .bool (!y57))]) ?_ ⟨rfl, rfl, rfl, trivial⟩)
              · refine ow_nilQ ?_
                refine x_qs ?_
                refine c_if rfl (fun hb => ?_) (fun hb => ?_)
                · have H := of_if_t hb H
                  refine c_seq ?_
                  refine c_reg ?_
                  refine ow_batch [.p] rfl ?_
                  refine ow_nil ?_
                  refine x_qs ?_
                  refine c_ret ?_
                  refine x_qb_ret ?_
                  refine x_qs_ret ?_
                  refine x_ql_ret ?_
                  refine x_qb_ret ?_
                  refine x_qs_ret ?_
                  exact x_retR (rs := [.tmp 2]) (vs := [.bool false]) rfl ⟨rfl, trivial⟩ (fun w' hw' => by
                      obtain rfl := of_some H
                      exact ⟨rfl, hw'.ext⟩)
                · have H := of_if_f hb H
                  refine c_skip ?_
                  refine x_qb ?_
                  refine x_qs ?_
                  refine c_reg ?_
                  refine ow_batch [.p, .p, .p] rfl ?_
                  refine ow_nil ?_
                  exact x_ql (RW.at (ihk1 (IntKind.i64.wrap (i39 + 1)) (H)) (fun _ h => St.sel [0] rfl rfl h) ⟨rfl, rfl, trivial⟩)
              · clear H
                have H := hu68
                clear hu68
                generalize (!y57) = t67 at H ⊢
                cases t67
                · have H := of_if_f rfl H
                  refine ow_batch [.p, .p, .p] rfl ?_
                  obtain ⟨u60, hu66, H⟩ := of_bind H
                  refine ow_cut [(61, .bool u60), (1, .pointer (some ⟨b11, 0, none⟩)), (3, .int .i64 i39), (45, .bool false)] 13 ?_ (fun key => OW.sub (R := [(1, .pointer (some ⟨b11, 0, none⟩)), (3, .int .i64 i39), (45, .bool false), (48, .bool (decide (i39 > 0)))]) ?_ ⟨rfl, rfl, rfl, rfl, trivial⟩)
                  · refine ow_batch [.p] rfl ?_
                    obtain rfl := of_some H
                    exact OW.sub key ⟨rfl, rfl, rfl, trivial⟩
                  · clear H
                    have H := hu66
                    clear hu66
                    generalize (decide (i39 > 0)) = t65 at H ⊢
                    cases t65
                    · have H := of_if_f rfl H
                      refine ow_batch [.p, .p, .p, .p, .p, .p, .p, .p, .p, .p, .p, .p, .p] rfl ?_
                      obtain rfl := of_some H
                      exact OW.sub key ⟨rfl, rfl, rfl, rfl, trivial⟩
                    · have H := of_if_t rfl H
                      refine ow_batch [.fa 28 1 1 fa28_1] rfl ?_
                      refine ow_r rfl (dstOk_lt rfl) (ry_box1 (off := 1) rfl rfl ty22 (boxIn (i := 0) rfl) rfl) ?_
                      refine ow_batch [.p] rfl ?_
                      obtain ⟨e61, h62, H⟩ := of_bind H
                      refine ow_ixE (e := eVal (Value.int .i64) (fun _ => rfl)) (xs := p0.Cuts_) (j := i39) rfl rfl rfl rfl rfl sl22 ty3 rfl (fun w1 hw1 => rds_bor g5 w1 hw1) h62 (by rw [Nat.mul_one]) ?_
                      refine ow_r rfl (dstOk_lt rfl) (ry_load1 rfl rfl ty3 (at_elV (fun w1 hw1 => rds_bor g5 w1 hw1) h62)) ?_
                      refine ow_batch [.fa 28 1 1 fa28_1] rfl ?_
                      refine ow_r rfl (dstOk_lt rfl) (ry_box1 (off := 1) rfl rfl ty22 (boxIn (i := 0) rfl) rfl) ?_
                      refine ow_batch [.p, .p] rfl ?_
                      obtain ⟨e63, h64, H⟩ := of_bind H
                      refine ow_ixE (e := eVal (Value.int .i64) (fun _ => rfl)) (xs := p0.Cuts_) (j := IntKind.i64.wrap (i39 - 1)) rfl rfl rfl rfl rfl sl22 ty3 rfl (fun w1 hw1 => rds_bor g5 w1 hw1) h64 (by rw [Nat.mul_one]) ?_
                      refine ow_r rfl (dstOk_lt rfl) (ry_load1 rfl rfl ty3 (at_elV (fun w1 hw1 => rds_bor g5 w1 hw1) h64)) ?_
                      refine ow_batch [.p] rfl ?_
                      refine ow_batch [.p] rfl ?_
                      obtain rfl := of_some H
                      exact OW.sub key ⟨rfl, rfl, rfl, rfl, trivial⟩
                · have H := of_if_t rfl H
                  refine ow_batch [.p, .p, .p, .p, .p, .p, .p, .p, .p, .p, .p, .p, .p, .p, .p, .p, .p] rfl ?_
                  obtain rfl := of_some H
                  exact OW.sub key ⟨rfl, rfl, rfl, trivial⟩
            · have H := of_if_f hb H
              refine c_exit ?_
              refine x_qs_exit ?_
              refine x_ql_exit ?_
              refine x_qb_here ?_
              refine x_qs ?_
              refine c_seq ?_
              refine c_reg ?_
              refine ow_batch [.p] rfl ?_
              refine ow_nil ?_
              refine x_qs ?_
              refine c_ret ?_
              exact x_retR (rs := [.tmp 2]) (vs := [.bool true]) rfl ⟨rfl, trivial⟩ (fun w' hw' => by
                  obtain rfl := of_some H
                  exact ⟨rfl, hw'.ext⟩)
      · generalize (decide ((p0.Values_.length : Int) > 0)) = t23 at key ⊢
        cases t23
        · refine ow_batch [.fa 28 1 1 fa28_1] rfl ?_
          refine ow_r rfl (dstOk_lt rfl) (ry_box1 (off := 1) rfl rfl ty22 (boxIn (i := 0) rfl) rfl) ?_
          refine ow_batch [.lenS 22 3 sl22, .p] rfl ?_
          refine ow_batch [.p] rfl ?_
          exact OW.sub key ⟨rfl, rfl, trivial⟩
        · refine ow_batch [.p, .p, .p, .p, .p] rfl ?_
          exact OW.sub key ⟨rfl, rfl, trivial⟩

set_option maxHeartbeats 4000000 in
set_option maxRecDepth 100000 in
theorem spec_Bins_ok (w : World) {p0 : Timpl_Attr} {cs0 : List Value} {r : Int} (H : spec_Bins p0 = some r)  (g0 : (eTimpl_Attr).rd w [] p0 cs0) :
    Calls Try.prog 59 #[.agg cs0.toArray] w (fun en w' => en = .returned (.int .i64 r) ∧ Ext [] w w') := by
  obtain ⟨c1, c2, c3, rfl, g4, g5, g6⟩ := rdo_Timpl_Attr g0
  obtain rfl : c1 = [vS p0.Name_] := g4
  obtain ⟨a7, c8, rfl⟩ := rd_sl1 g5
  obtain ⟨a9, c10, rfl⟩ := rd_sl1 g6
  unfold spec_Bins at H
  refine f_enter (vs := [.agg #[vS p0.Name_, .slice a7 p0.Cuts_.length c8, .slice a9 p0.Values_.length c10]]) Try.func59 rfl Try.ntmps59 rfl (St.init w []) ?_
  refine c_seq ?_
  refine c_reg ?_
  refine ow_box (cs := [vS p0.Name_, .slice a7 p0.Cuts_.length c8, .slice a9 p0.Values_.length c10]) rfl rfl rfl rfl rfl rfl (fun _ => kp) (fun b11 => ?_)
  refine ow_batch [.p] rfl ?_
  refine ow_nil ?_
  refine x_qs ?_
  refine c_seq ?_
  refine c_seq ?_
  refine c_reg ?_
  refine ow_r rfl (dstOk_lt rfl) (ry_box (off := 0) (ds := [vS p0.Name_, .slice a7 p0.Cuts_.length c8, .slice a9 p0.Values_.length c10]) rfl rfl ty28 (boxIn (i := 0) rfl) rfl rfl) ?_
  obtain ⟨y12, h13, H⟩ := of_bind H
  refine ow_q rfl rfl (dstOk_lt rfl) (qy_call rfl fn57 rfl (fun w1 hw1 => spec_AttrOk_ok w1 (cs0 := [vS p0.Name_, .slice a7 p0.Cuts_.length c8, .slice a9 p0.Values_.length c10]) h13 (rdm_Timpl_Attr (x := p0) (c0 := [vS p0.Name_]) (c1 := [.slice a7 p0.Cuts_.length c8]) (c2 := [.slice a9 p0.Values_.length c10]) rfl (rds_bor g5 w1 hw1) (rds_bor g6 w1 hw1)))) (fun _ _ => trivial) ?_
  refine ow_batch [.p] rfl ?_
  refine ow_nil ?_
  refine x_qs ?_
  refine c_if rfl (fun hb => ?_) (fun hb => ?_)
  · have H := of_if_t hb H
    refine c_seq ?_
    refine c_reg ?_
    refine ow_batch [.p] rfl ?_
    refine ow_nil ?_
    refine x_qs ?_
    refine c_ret ?_
    refine x_qs_ret ?_
    exact x_retR (rs := [.tmp 2]) (vs := [.int .i64 0]) rfl ⟨rfl, trivial⟩ (fun w' hw' => by
        obtain rfl := of_some H
        exact ⟨rfl, hw'.ext⟩)
  · have H := of_if_f hb H
    refine c_skip ?_
    refine x_qs ?_
    refine c_seq ?_
    refine c_seq ?_
    refine c_reg ?_
    refine ow_batch [.fa 28 1 1 fa28_1] rfl ?_
    refine ow_r rfl (dstOk_lt rfl) (ry_box1 (off := 1) rfl rfl ty22 (boxIn (i := 0) rfl) rfl) ?_
    refine ow_batch [.lenS 22 3 sl22, .p] rfl ?_
    refine ow_nil ?_
    refine x_qs ?_
    refine c_if rfl (fun hb => ?_) (fun hb => ?_)
    · have H := of_if_t hb H
      refine c_seq ?_
      refine c_reg ?_
      refine ow_batch [.fa 28 1 1 fa28_1] rfl ?_
      refine ow_r rfl (dstOk_lt rfl) (ry_box1 (off := 1) rfl rfl ty22 (boxIn (i := 0) rfl) rfl) ?_
      refine ow_batch [.lenS 22 3 sl22, .p, .p] rfl ?_
      refine ow_nil ?_
      refine x_qs ?_
      refine c_ret ?_
      refine x_qs_ret ?_
      exact x_retR (rs := [.tmp 2]) (vs := [.int .i64 (IntKind.i64.wrap ((p0.Cuts_.length : Int) + 1))]) rfl ⟨rfl, trivial⟩ (fun w' hw' => by
          obtain rfl := of_some H
          exact ⟨rfl, hw'.ext⟩)
    · have H := of_if_f hb H
      refine c_skip ?_
      refine x_qs ?_
      refine c_seq ?_
      refine c_reg ?_
      refine ow_batch [.fa 28 2 2 fa28_2] rfl ?_
      refine ow_r rfl (dstOk_lt rfl) (ry_box1 (off := 2) rfl rfl ty23 (boxIn (i := 0) rfl) rfl) ?_
      refine ow_batch [.lenS 23 9 sl23, .p] rfl ?_
      refine ow_nil ?_
      refine x_qs ?_
      refine c_ret ?_
      exact x_retR (rs := [.tmp 2]) (vs := [.int .i64 (p0.Values_.length : Int)]) rfl ⟨rfl, trivial⟩ (fun w' hw' => by
          obtain rfl := of_some H
          exact ⟨rfl, hw'.ext⟩)

set_option maxHeartbeats 4000000 in
set_option maxRecDepth 100000 in
theorem spec_l16Power_ok (w : World) {p0 : Int}  {r : Int} (H : spec_l16Power p0 = some r)   :
    Calls Try.prog 58 #[.int .i64 p0] w (fun en w' => en = .returned (.int .i64 r) ∧ Ext [] w w') := by
  unfold spec_l16Power at H
  refine f_enter (vs := [.int .i64 p0]) Try.func58 rfl Try.ntmps58 rfl (St.init w []) ?_
  refine c_seq ?_
  refine c_reg ?_
  refine ow_batch [.p] rfl ?_
  refine ow_nil ?_
  refine x_qs ?_
  refine c_seq ?_
  refine c_reg ?_
  refine ow_batch [.p] rfl ?_
  refine ow_nil ?_
  refine x_qs ?_
  refine c_seq ?_
  refine c_seq ?_
  refine c_reg ?_
  refine ow_batch [.p] rfl ?_
  refine ow_nil ?_
  refine x_qs ?_
  refine c_block ?_
  refine CW.at (loopI2 (fun (i3 : Int) (i4 : Int) => St w [] []) (fun (i3 : Int) (i4 : Int) => [(0, .int .i64 p0), (3, .int .i64 i3), (4, .int .i64 i4)]) (fun kk => fun (i3 : Int) (i4 : Int) => spec_l16Power_L1 p0 kk i3 i4 = some r) (fun _ _ H => ?_) (fun k1 ihk1 i3 i4 H => ?_) Fuel (1) (0) (H)) (fun _ h => St.sel [] rfl rfl h) ⟨rfl, rfl, rfl,  trivial⟩
  · unfold spec_l16Power_L1 at H
    exact absurd H (by simp)
  · unfold spec_l16Power_L1 at H
    refine c_seq ?_
    refine c_seq ?_
    refine c_reg ?_
    refine ow_batch [.p, .p, .p] rfl ?_
    refine ow_nil ?_
    refine x_qs ?_
    refine c_if rfl (fun hb => ?_) (fun hb => ?_)
    · have H := of_if_t hb H
      refine c_skip ?_
      refine x_qs ?_
      refine c_seq ?_
      refine c_block ?_
      refine c_reg ?_
      refine ow_batch [.p, .p, .p] rfl ?_
      refine ow_nil ?_
      refine x_qb ?_
      refine x_qs ?_
      refine c_reg ?_
      refine ow_batch [.p, .p, .p] rfl ?_
      refine ow_nil ?_
      exact x_ql (RW.at (ihk1 (IntKind.i64.wrap (i3 * 2)) (IntKind.i64.wrap (i4 + 1)) (H)) (fun _ h => St.sel [] rfl rfl h) ⟨rfl, rfl, rfl, trivial⟩)
    · have H := of_if_f hb H
      refine c_exit ?_
      refine x_qs_exit ?_
      refine x_ql_exit ?_
      refine x_qb_here ?_
      refine x_qs ?_
      refine c_seq ?_
      refine c_reg ?_
      refine ow_batch [.p, .p] rfl ?_
      refine ow_nil ?_
      refine x_qs ?_
      refine c_ret ?_
      exact x_retR (rs := [.tmp 2]) (vs := [.int .i64 i3]) rfl ⟨rfl, trivial⟩ (fun w' hw' => by
          obtain rfl := of_some H
          exact ⟨rfl, hw'.ext⟩)

set_option maxHeartbeats 4000000 in
set_option maxRecDepth 100000 in
theorem spec_FullMask_ok (w : World) {p0 : Timpl_Attr} {cs0 : List Value} {r : Int} (H : spec_FullMask p0 = some r)  (g0 : (eTimpl_Attr).rd w [] p0 cs0) :
    Calls Try.prog 12 #[.agg cs0.toArray] w (fun en w' => en = .returned (.int .i64 r) ∧ Ext [] w w') := by
  obtain ⟨c1, c2, c3, rfl, g4, g5, g6⟩ := rdo_Timpl_Attr g0
  obtain rfl : c1 = [vS p0.Name_] := g4
  obtain ⟨a7, c8, rfl⟩ := rd_sl1 g5
  obtain ⟨a9, c10, rfl⟩ := rd_sl1 g6
  unfold spec_FullMask at H
  refine f_enter (vs := [.agg #[vS p0.Name_, .slice a7 p0.Cuts_.length c8, .slice a9 p0.Values_.length c10]]) Try.func12 rfl Try.ntmps12 rfl (St.init w []) ?_
  refine c_seq ?_
  refine c_reg ?_
  refine ow_box (cs := [vS p0.Name_, .slice a7 p0.Cuts_.length c8, .slice a9 p0.Values_.length c10]) rfl rfl rfl rfl rfl rfl (fun _ => kp) (fun b11 => ?_)
  refine ow_batch [.p] rfl ?_
  refine ow_nil ?_
  refine x_qs ?_
  refine c_seq ?_
  refine c_seq ?_
  refine c_reg ?_
  refine ow_r rfl (dstOk_lt rfl) (ry_box (off := 0) (ds := [vS p0.Name_, .slice a7 p0.Cuts_.length c8, .slice a9 p0.Values_.length c10]) rfl rfl ty28 (boxIn (i := 0) rfl) rfl rfl) ?_
  obtain ⟨y12, h13, H⟩ := of_bind H
  refine ow_q rfl rfl (dstOk_lt rfl) (qy_call rfl fn57 rfl (fun w1 hw1 => spec_AttrOk_ok w1 (cs0 := [vS p0.Name_, .slice a7 p0.Cuts_.length c8, .slice a9 p0.Values_.length c10]) h13 (rdm_Timpl_Attr (x := p0) (c0 := [vS p0.Name_]) (c1 := [.slice a7 p0.Cuts_.length c8]) (c2 := [.slice a9 p0.Values_.length c10]) rfl (rds_bor g5 w1 hw1) (rds_bor g6 w1 hw1)))) (fun _ _ => trivial) ?_
  refine ow_batch [.p] rfl ?_
  refine ow_nil ?_
  refine x_qs ?_
  refine c_if rfl (fun hb => ?_) (fun hb => ?_)
  · have H := of_if_t hb H
    refine c_seq ?_
    refine c_reg ?_
    refine ow_batch [.p] rfl ?_
    refine ow_nil ?_
    refine x_qs ?_
    refine c_ret ?_
    refine x_qs_ret ?_
    exact x_retR (rs := [.tmp 2]) (vs := [.int .i64 0]) rfl ⟨rfl, trivial⟩ (fun w' hw' => by
        obtain rfl := of_some H
        exact ⟨rfl, hw'.ext⟩)
  · have H := of_if_f hb H
    refine c_skip ?_
    refine x_qs ?_
    refine c_seq ?_
    refine c_reg ?_
    refine ow_r rfl (dstOk_lt rfl) (ry_box (off := 0) (ds := [vS p0.Name_, .slice a7 p0.Cuts_.length c8, .slice a9 p0.Values_.length c10]) rfl rfl ty28 (boxIn (i := 0) rfl) rfl rfl) ?_
    obtain ⟨y14, h15, H⟩ := of_bind H
    refine ow_q rfl rfl (dstOk_lt rfl) (qy_call rfl fn59 rfl (fun w1 hw1 => spec_Bins_ok w1 (cs0 := [vS p0.Name_, .slice a7 p0.Cuts_.length c8, .slice a9 p0.Values_.length c10]) h15 (rdm_Timpl_Attr (x := p0) (c0 := [vS p0.Name_]) (c1 := [.slice a7 p0.Cuts_.length c8]) (c2 := [.slice a9 p0.Values_.length c10]) rfl (rds_bor g5 w1 hw1) (rds_bor g6 w1 hw1)))) (fun _ _ => trivial) ?_
    obtain ⟨y16, h17, H⟩ := of_bind H
    refine ow_q rfl rfl (dstOk_lt rfl) (qy_call rfl fn58 rfl (fun w1 hw1 => spec_l16Power_ok w1  h17)) (fun _ _ => trivial) ?_
    refine ow_batch [.p, .p, .p] rfl ?_
    refine ow_nil ?_
    refine x_qs ?_
    refine c_ret ?_
    exact x_retR (rs := [.tmp 2]) (vs := [.int .i64 (IntKind.i64.wrap ((IntKind.i64.wrap (y16 - 1)) + 16))]) rfl ⟨rfl, trivial⟩ (fun w' hw' => by
        obtain rfl := of_some H
        exact ⟨rfl, hw'.ext⟩)

set_option maxHeartbeats 4000000 in
set_option maxRecDepth 100000 in
theorem impl_within_ok (w : World) {p0 : Int} {p1 : Int} {p2 : Int}  {r : Bool} (H : impl_within p0 p1 p2 = some r)   :
    Calls Try.prog 72 #[.int .i64 p0, .int .i64 p1, .int .i64 p2] w (fun en w' => en = .returned (.bool r) ∧ Ext [] w w') := by
  unfold impl_within at H
  refine f_enter (vs := [.int .i64 p0, .int .i64 p1, .int .i64 p2]) Try.func72 rfl Try.ntmps72 rfl (St.init w []) ?_
  refine c_seq ?_
  refine c_reg ?_
  refine ow_batch [.p] rfl ?_
  refine ow_nil ?_
  refine x_qs ?_
  refine c_seq ?_
  refine c_reg ?_
  refine ow_batch [.p, .p, .p, .p] rfl ?_
  refine ow_cut [(14, .bool ((decide (p0 ≥ p1)) && (decide (p0 ≤ p2)))), (6, .bool false)] 4 ?_ (fun key => OW.sub (R := [(0, .int .i64 p0), (2, .int .i64 p2), (6, .bool false), (10, .bool (decide (p0 ≥ p1)))]) ?_ ⟨rfl, rfl, rfl, rfl, trivial⟩)
  · refine ow_batch [.p] rfl ?_
    refine ow_nil ?_
    refine x_qs ?_
    refine c_ret ?_
    exact x_retR (rs := [.tmp 6]) (vs := [.bool ((decide (p0 ≥ p1)) && (decide (p0 ≤ p2)))]) rfl ⟨rfl, trivial⟩ (fun w' hw' => by
        obtain rfl := of_some H
        exact ⟨rfl, hw'.ext⟩)
  · generalize (decide (p0 ≥ p1)) = t2 at key ⊢
    cases t2
    · refine ow_batch [.p, .p, .p, .p] rfl ?_
      exact OW.sub key ⟨rfl, rfl, trivial⟩
    · refine ow_batch [.p, .p, .p] rfl ?_
      refine ow_batch [.p] rfl ?_
      exact OW.sub key ⟨rfl, rfl, trivial⟩

set_option maxHeartbeats 4000000 in
set_option maxRecDepth 100000 in
theorem impl_WordOk_ok (w : World) {p0 : List UInt8}  {r : Bool} (H : impl_WordOk p0 = some r)   :
    Calls Try.prog 106 #[vS p0] w (fun en w' => en = .returned (.bool r) ∧ Ext [] w w') := by
  unfold impl_WordOk at H
  refine f_enter (vs := [vS p0]) Try.func106 rfl Try.ntmps106 rfl (St.init w []) ?_
  refine c_seq ?_
  refine c_reg ?_
  refine ow_batch [.p] rfl ?_
  refine ow_nil ?_
  refine x_qs ?_
  refine c_seq ?_
  refine c_seq ?_
  refine c_reg ?_
  refine ow_batch [.p, .lenT 9 st9] rfl ?_
  obtain ⟨y1, h2, H⟩ := of_bind H
  refine ow_q rfl rfl (dstOk_lt rfl) (qy_call rfl fn72 rfl (fun w1 hw1 => impl_within_ok w1  h2)) (fun _ _ => trivial) ?_
  refine ow_batch [.p] rfl ?_
  refine ow_nil ?_
  refine x_qs ?_
  refine c_if rfl (fun hb => ?_) (fun hb => ?_)
  · have H := of_if_t hb H
    refine c_seq ?_
    refine c_reg ?_
    refine ow_batch [.p] rfl ?_
    refine ow_nil ?_
    refine x_qs ?_
    refine c_ret ?_
    refine x_qs_ret ?_
    exact x_retR (rs := [.tmp 2]) (vs := [.bool false]) rfl ⟨rfl, trivial⟩ (fun w' hw' => by
        obtain rfl := of_some H
        exact ⟨rfl, hw'.ext⟩)
  · have H := of_if_f hb H
    refine c_skip ?_
    refine x_qs ?_
    refine c_seq ?_
    refine c_seq ?_
    refine c_reg ?_
    refine ow_batch [.p, .lenT 9 st9, .p] rfl ?_
    refine ow_nil ?_
    refine x_qs ?_
    refine c_block ?_
    refine CW.at (loopI1 (fun (i11 : Int) => St w [] []) (fun (i11 : Int) => [(0, vS p0), (9, .int .i64 (p0.length : Int)), (10, .int .i64 i11)]) (fun kk => fun (i11 : Int) => impl_WordOk_L1 p0 kk i11 = some r) (fun _ H => ?_) (fun k1 ihk1 i11 H => ?_) Fuel (0) (H)) (fun _ h => St.sel [] rfl rfl h) ⟨rfl, rfl, rfl,  trivial⟩
    · unfold impl_WordOk_L1 at H
      exact absurd H (by simp)
    · unfold impl_WordOk_L1 at H
      refine c_seq ?_
      refine c_reg ?_
      refine ow_batch [.p] rfl ?_
      refine ow_nil ?_
      refine x_qs ?_
      refine c_seq ?_
      refine c_if rfl (fun hb => ?_) (fun hb => ?_)
      · have H := of_if_t hb H
        refine c_skip ?_
        refine x_qs ?_
        refine c_seq ?_
        refine c_block ?_
        refine c_seq ?_
        refine c_reg ?_
        refine ow_batch [.p, .p] rfl ?_
        refine ow_nil ?_
        refine x_qs ?_
        refine c_seq ?_
        refine c_reg ?_
        refine ow_batch [.p, .p] rfl ?_
        obtain ⟨b20, h21, H⟩ := of_bind H
        refine ow_r rfl (dstOk_lt rfl) (ry_sidx (s := p0) rfl rfl rfl st9 h21) ?_
        refine ow_batch [.p, .p] rfl ?_
        obtain ⟨u22, hu26, H⟩ := of_bind H
        refine ow_cut [(22, .bool u22), (0, vS p0), (9, .int .i64 (p0.length : Int)), (10, .int .i64 i11)] 5 ?_ (fun key => OW.sub (R := [(0, vS p0), (3, .int .i64 i11), (9, .int .i64 (p0.length : Int)), (10, .int .i64 i11), (17, .bool (decide ((b20.toNat : Int) < 97)))]) ?_ ⟨rfl, rfl, rfl, rfl, rfl, trivial⟩)
        · refine ow_nil ?_
          refine x_qs ?_
          refine c_if rfl (fun hb => ?_) (fun hb => ?_)
          · have H := of_if_t hb H
            refine c_seq ?_
            refine c_reg ?_
            refine ow_batch [.p] rfl ?_
            refine ow_nil ?_
            refine x_qs ?_
            refine c_ret ?_
            refine x_qb_ret ?_
            refine x_qs_ret ?_
            refine x_ql_ret ?_
            refine x_qb_ret ?_
            refine x_qs_ret ?_
            exact x_retR (rs := [.tmp 2]) (vs := [.bool false]) rfl ⟨rfl, trivial⟩ (fun w' hw' => by
                obtain rfl := of_some H
                exact ⟨rfl, hw'.ext⟩)
          · have H := of_if_f hb H
            refine c_skip ?_
            refine x_qb ?_
            refine x_qs ?_
            refine c_reg ?_
            refine ow_batch [.p, .p] rfl ?_
            refine ow_nil ?_
            exact x_ql (RW.at (ihk1 (IntKind.i64.wrap (i11 + 1)) (H)) (fun _ h => St.sel [] rfl rfl h) ⟨rfl, rfl, rfl, trivial⟩)
        · clear H
          have H := hu26
          clear hu26
          generalize (decide ((b20.toNat : Int) < 97)) = t25 at H ⊢
          cases t25
          · have H := of_if_f rfl H
            refine ow_batch [.p, .p] rfl ?_
            obtain ⟨b23, h24, H⟩ := of_bind H
            refine ow_r rfl (dstOk_lt rfl) (ry_sidx (s := p0) rfl rfl rfl st9 h24) ?_
            refine ow_batch [.p] rfl ?_
            refine ow_batch [.p] rfl ?_
            obtain rfl := of_some H
            exact OW.sub key ⟨rfl, rfl, rfl, rfl, trivial⟩
          · have H := of_if_t rfl H
            refine ow_batch [.p, .p, .p, .p, .p] rfl ?_
            obtain rfl := of_some H
            exact OW.sub key ⟨rfl, rfl, rfl, rfl, trivial⟩
      · have H := of_if_f hb H
        refine c_exit ?_
        refine x_qs_exit ?_
        refine x_ql_exit ?_
        refine x_qb_here ?_
        refine x_qs ?_
        refine c_seq ?_
        refine c_reg ?_
        refine ow_batch [.p] rfl ?_
        refine ow_nil ?_
        refine x_qs ?_
        refine c_ret ?_
        exact x_retR (rs := [.tmp 2]) (vs := [.bool true]) rfl ⟨rfl, trivial⟩ (fun w' hw' => by
            obtain rfl := of_some H
            exact ⟨rfl, hw'.ext⟩)

set_option maxHeartbeats 4000000 in
set_option maxRecDepth 100000 in
theorem lib_slices_Index___string_string__ok (w : World) {p0 : List (List UInt8)} {p1 : List UInt8} {a_0 : Option Addr} {n_0 c_0 : Nat} {r : Int} (H : lib_slices_Index___string_string_ p0 p1 = some r)  (g0 : (eList (eStr) 9).rd w [] p0 [.slice a_0 n_0 c_0]) :
    Calls Try.prog 117 #[.slice a_0 n_0 c_0, vS p1] w (fun en w' => en = .returned (.int .i64 r) ∧ Ext [] w w') := by
  obtain rfl := rd_n g0
  unfold lib_slices_Index___string_string_ at H
  refine f_enter (vs := [.slice a_0 p0.length c_0, vS p1]) Try.func117 rfl Try.ntmps117 rfl (St.init w []) ?_
  refine c_seq ?_
  refine c_reg ?_
  refine ow_batch [.p] rfl ?_
  refine ow_nil ?_
  refine x_qs ?_
  refine c_seq ?_
  refine c_seq ?_
  refine c_reg ?_
  refine ow_batch [.p, .lenS 23 9 sl23, .p] rfl ?_
  refine ow_nil ?_
  refine x_qs ?_
  refine c_block ?_
  refine CW.at (loopI1 (fun (i4 : Int) => St w [] []) (fun (i4 : Int) => [(0, .slice a_0 p0.length c_0), (1, vS p1), (7, .int .i64 (p0.length : Int)), (8, .int .i64 i4)]) (fun kk => fun (i4 : Int) => lib_slices_Index___string_string__L1 p0 p1 kk i4 = some r) (fun _ H => ?_) (fun k1 ihk1 i4 H => ?_) Fuel (0) (H)) (fun _ h => St.sel [] rfl rfl h) ⟨rfl, rfl, rfl, rfl,  trivial⟩
  · unfold lib_slices_Index___string_string__L1 at H
    exact absurd H (by simp)
  · unfold lib_slices_Index___string_string__L1 at H
    refine c_seq ?_
    refine c_reg ?_
    refine ow_batch [.p] rfl ?_
    refine ow_nil ?_
    refine x_qs ?_
    refine c_seq ?_
    refine c_if rfl (fun hb => ?_) (fun hb => ?_)
    · have H := of_if_t hb H
      refine c_skip ?_
      refine x_qs ?_
      refine c_seq ?_
      refine c_block ?_
      refine c_seq ?_
      refine c_reg ?_
      refine ow_batch [.p, .p] rfl ?_
      refine ow_nil ?_
      refine x_qs ?_
      refine c_seq ?_
      refine c_reg ?_
      refine ow_batch [.p, .p, .p] rfl ?_
      obtain ⟨e8, h9, H⟩ := of_bind H
      refine ow_ixE (e := eStr) (xs := p0) (j := i4) rfl rfl rfl rfl rfl sl23 ty9 rfl (fun w1 hw1 => rds_bor g0 w1 hw1) h9 (by rw [Nat.mul_one]) ?_
      refine ow_r rfl (dstOk_lt rfl) (ry_load1 rfl rfl ty9 (at_elV (fun w1 hw1 => rds_bor g0 w1 hw1) h9)) ?_
      refine ow_batch [.p] rfl ?_
      refine ow_nil ?_
      refine x_qs ?_
      refine c_if rfl (fun hb => ?_) (fun hb => ?_)
      · have H := of_if_t hb H
        refine c_seq ?_
        refine c_reg ?_
        refine ow_batch [.p, .p] rfl ?_
        refine ow_nil ?_
        refine x_qs ?_
        refine c_ret ?_
        refine x_qb_ret ?_
        refine x_qs_ret ?_
        refine x_ql_ret ?_
        refine x_qb_ret ?_
        refine x_qs_ret ?_
        exact x_retR (rs := [.tmp 4]) (vs := [.int .i64 i4]) rfl ⟨rfl, trivial⟩ (fun w' hw' => by
            obtain rfl := of_some H
            exact ⟨rfl, hw'.ext⟩)
      · have H := of_if_f hb H
        refine c_skip ?_
        refine x_qb ?_
        refine x_qs ?_
        refine c_reg ?_
        refine ow_batch [.p, .p] rfl ?_
        refine ow_nil ?_
        exact x_ql (RW.at (ihk1 (IntKind.i64.wrap (i4 + 1)) (H)) (fun _ h => St.sel [] rfl rfl h) ⟨rfl, rfl, rfl, rfl, trivial⟩)
    · have H := of_if_f hb H
      refine c_exit ?_
      refine x_qs_exit ?_
      refine x_ql_exit ?_
      refine x_qb_here ?_
      refine x_qs ?_
      refine c_seq ?_
      refine c_reg ?_
      refine ow_batch [.p] rfl ?_
      refine ow_nil ?_
      refine x_qs ?_
      refine c_ret ?_
      exact x_retR (rs := [.tmp 4]) (vs := [.int .i64 (-1)]) rfl ⟨rfl, trivial⟩ (fun w' hw' => by
          obtain rfl := of_some H
          exact ⟨rfl, hw'.ext⟩)

set_option maxHeartbeats 4000000 in
set_option maxRecDepth 100000 in
theorem lib_slices_Contains___string_string__ok (w : World) {p0 : List (List UInt8)} {p1 : List UInt8} {a_0 : Option Addr} {n_0 c_0 : Nat} {r : Bool} (H : lib_slices_Contains___string_string_ p0 p1 = some r)  (g0 : (eList (eStr) 9).rd w [] p0 [.slice a_0 n_0 c_0]) :
    Calls Try.prog 112 #[.slice a_0 n_0 c_0, vS p1] w (fun en w' => en = .returned (.bool r) ∧ Ext [] w w') := by
  obtain rfl := rd_n g0
  unfold lib_slices_Contains___string_string_ at H
  refine f_enter (vs := [.slice a_0 p0.length c_0, vS p1]) Try.func112 rfl Try.ntmps112 rfl (St.init w []) ?_
  refine c_seq ?_
  refine c_reg ?_
  refine ow_batch [.p] rfl ?_
  refine ow_nil ?_
  refine x_qs ?_
  refine c_seq ?_
  refine c_reg ?_
  refine ow_batch [.p, .p] rfl ?_
  obtain ⟨y1, h2, H⟩ := of_bind H
  refine ow_q rfl rfl (dstOk_lt rfl) (qy_call rfl fn117 rfl (fun w1 hw1 => lib_slices_Index___string_string__ok w1  h2 (rds_bor g0 w1 hw1))) (fun _ _ => trivial) ?_
  refine ow_batch [.p, .p] rfl ?_
  refine ow_nil ?_
  refine x_qs ?_
  refine c_ret ?_
  exact x_retR (rs := [.tmp 4]) (vs := [.bool (decide (y1 ≥ 0))]) rfl ⟨rfl, trivial⟩ (fun w' hw' => by
      obtain rfl := of_some H
      exact ⟨rfl, hw'.ext⟩)

set_option maxHeartbeats 4000000 in
set_option maxRecDepth 100000 in
theorem impl_distinctWords_ok (w : World) {p0 : List (List UInt8)} {a_0 : Option Addr} {n_0 c_0 : Nat} {r : Bool} (H : impl_distinctWords p0 = some r)  (g0 : (eList (eStr) 9).rd w [] p0 [.slice a_0 n_0 c_0]) :
    Calls Try.prog 107 #[.slice a_0 n_0 c_0] w (fun en w' => en = .returned (.bool r) ∧ Ext [] w w') := by
  obtain rfl := rd_n g0
  unfold impl_distinctWords at H
  refine f_enter (vs := [.slice a_0 p0.length c_0]) Try.func107 rfl Try.ntmps107 rfl (St.init w []) ?_
  refine c_seq ?_
  refine c_reg ?_
  refine ow_batch [.p] rfl ?_
  refine ow_nil ?_
  refine x_qs ?_
  refine c_seq ?_
  refine c_seq ?_
  refine c_reg ?_
  refine ow_batch [.p, .lenS 23 9 sl23, .p] rfl ?_
  refine ow_nil ?_
  refine x_qs ?_
  refine c_block ?_
  refine CW.at (loopI1 (fun (i18 : Int) => St w [] []) (fun (i18 : Int) => [(0, .slice a_0 p0.length c_0), (5, .slice a_0 p0.length c_0), (6, .int .i64 (p0.length : Int)), (7, .int .i64 i18)]) (fun kk => fun (i18 : Int) => impl_distinctWords_L1 p0 kk i18 = some r) (fun _ H => ?_) (fun k1 ihk1 i18 H => ?_) Fuel (0) (H)) (fun _ h => St.sel [] rfl rfl h) ⟨rfl, rfl, rfl, rfl,  trivial⟩
  · unfold impl_distinctWords_L1 at H
    exact absurd H (by simp)
  · unfold impl_distinctWords_L1 at H
    refine c_seq ?_
    refine c_reg ?_
    refine ow_batch [.p] rfl ?_
    refine ow_nil ?_
    refine x_qs ?_
    refine c_seq ?_
    refine c_if rfl (fun hb => ?_) (fun hb => ?_)
    · have H := of_if_t hb H
      refine c_skip ?_
      refine x_qs ?_
      refine c_seq ?_
      refine c_block ?_
      refine c_seq ?_
      refine c_reg ?_
      refine ow_batch [.p] rfl ?_
      obtain ⟨e35, h36, H⟩ := of_bind H
      refine ow_ixE (e := eStr) (xs := p0) (j := i18) rfl rfl rfl rfl rfl sl23 ty9 rfl (fun w1 hw1 => rds_bor g0 w1 hw1) h36 (by rw [Nat.mul_one]) ?_
      refine ow_r rfl (dstOk_lt rfl) (ry_load1 rfl rfl ty9 (at_elV (fun w1 hw1 => rds_bor g0 w1 hw1) h36)) ?_
      refine ow_batch [.p, .p] rfl ?_
      refine ow_nil ?_
      refine x_qs ?_
      refine c_seq ?_
      refine c_reg ?_
      refine ow_batch [.p] rfl ?_
      obtain ⟨y37, h38, H⟩ := of_bind H
      refine ow_q rfl rfl (dstOk_lt rfl) (qy_call rfl fn106 rfl (fun w1 hw1 => impl_WordOk_ok w1  h38)) (fun _ _ => trivial) ?_
      refine ow_batch [.p, .p] rfl ?_
      obtain ⟨u39, hu49, H⟩ := of_bind H
      refine ow_cut [(21, .bool u39), (0, .slice a_0 p0.length c_0), (5, .slice a_0 p0.length c_0), (6, .int .i64 (p0.length : Int)), (7, .int .i64 i18)] 6 ?_ (fun key => OW.sub (R := [(0, .slice a_0 p0.length c_0), (3, .int .i64 i18), (4, vS e35), (5, .slice a_0 p0.length c_0), (6, .int .i64 (p0.length : Int)), (7, .int .i64 i18), (15, .bool (!y37))]) ?_ ⟨rfl, rfl, rfl, rfl, rfl, rfl, rfl, trivial⟩)
      · refine ow_nil ?_
        refine x_qs ?_
        refine c_if rfl (fun hb => ?_) (fun hb => ?_)
        · have H := of_if_t hb H
          refine c_seq ?_
          refine c_reg ?_
          refine ow_batch [.p] rfl ?_
          refine ow_nil ?_
          refine x_qs ?_
          refine c_ret ?_
          refine x_qb_ret ?_
          refine x_qs_ret ?_
          refine x_ql_ret ?_
          refine x_qb_ret ?_
          refine x_qs_ret ?_
          exact x_retR (rs := [.tmp 2]) (vs := [.bool false]) rfl ⟨rfl, trivial⟩ (fun w' hw' => by
              obtain rfl := of_some H
              exact ⟨rfl, hw'.ext⟩)
        · have H := of_if_f hb H
          refine c_skip ?_
          refine x_qb ?_
          refine x_qs ?_
          refine c_reg ?_
          refine ow_batch [.p, .p] rfl ?_
          refine ow_nil ?_
          exact x_ql (RW.at (ihk1 (IntKind.i64.wrap (i18 + 1)) (H)) (fun _ h => St.sel [] rfl rfl h) ⟨rfl, rfl, rfl, rfl, trivial⟩)
      · clear H
        have H := hu49
        clear hu49
        generalize (!y37) = t48 at H ⊢
        cases t48
        · have H := of_if_f rfl H
          refine ow_batch [.p, .p] rfl ?_
          obtain ⟨l40, h41, H⟩ := of_bind H
          refine ow_lsub rfl rfl rfl rfl sl23 ty9 rfl rfl rfl h41 g0 (fun v43 h42 => ?_)
          obtain ⟨a44, c45, rfl⟩ := rd_sl h42
          refine ow_batch [.p] rfl ?_
          obtain ⟨y46, h47, H⟩ := of_bind H
          refine ow_q rfl rfl (dstOk_lt rfl) (qy_call rfl fn112 rfl (fun w1 hw1 => lib_slices_Contains___string_string__ok w1  h47 (rds_bor h42 w1 hw1))) (fun _ _ => trivial) ?_
          refine ow_batch [.p] rfl ?_
          obtain rfl := of_some H
          exact OW.sub key ⟨rfl, rfl, rfl, rfl, rfl, trivial⟩
        · have H := of_if_t rfl H
          refine ow_batch [.p, .p, .p, .p, .p, .p] rfl ?_
          obtain rfl := of_some H
          exact OW.sub key ⟨rfl, rfl, rfl, rfl, rfl, trivial⟩
    · have H := of_if_f hb H
      refine c_exit ?_
      refine x_qs_exit ?_
      refine x_ql_exit ?_
      refine x_qb_here ?_
      refine x_qs ?_
      refine c_seq ?_
      refine c_reg ?_
      refine ow_batch [.p] rfl ?_
      refine ow_nil ?_
      refine x_qs ?_
      refine c_ret ?_
      exact x_retR (rs := [.tmp 2]) (vs := [.bool true]) rfl ⟨rfl, trivial⟩ (fun w' hw' => by
          obtain rfl := of_some H
          exact ⟨rfl, hw'.ext⟩)

set_option maxHeartbeats 4000000 in
set_option maxRecDepth 100000 in
theorem impl_ascending_ok (w : World) {p0 : List Int} {a_0 : Option Addr} {n_0 c_0 : Nat} {r : Bool} (H : impl_ascending p0 = some r)  (g0 : (eList (eVal (Value.int .i64) (fun _ => rfl)) 3).rd w [] p0 [.slice a_0 n_0 c_0]) :
    Calls Try.prog 113 #[.slice a_0 n_0 c_0] w (fun en w' => en = .returned (.bool r) ∧ Ext [] w w') := by
  obtain rfl := rd_n g0
  unfold impl_ascending at H
  refine f_enter (vs := [.slice a_0 p0.length c_0]) Try.func113 rfl Try.ntmps113 rfl (St.init w []) ?_
  refine c_seq ?_
  refine c_reg ?_
  refine ow_batch [.p] rfl ?_
  refine ow_nil ?_
  refine x_qs ?_
  refine c_seq ?_
  refine c_seq ?_
  refine c_reg ?_
  refine ow_batch [.p] rfl ?_
  refine ow_nil ?_
  refine x_qs ?_
  refine c_block ?_
  refine CW.at (loopI1 (fun (i6 : Int) => St w [] []) (fun (i6 : Int) => [(0, .slice a_0 p0.length c_0), (3, .int .i64 i6)]) (fun kk => fun (i6 : Int) => impl_ascending_L1 p0 kk i6 = some r) (fun _ H => ?_) (fun k1 ihk1 i6 H => ?_) Fuel (1) (H)) (fun _ h => St.sel [] rfl rfl h) ⟨rfl, rfl,  trivial⟩
  · unfold impl_ascending_L1 at H
    exact absurd H (by simp)
  · unfold impl_ascending_L1 at H
    refine c_seq ?_
    refine c_seq ?_
    refine c_reg ?_
    refine ow_batch [.p, .p, .lenS 22 3 sl22, .p] rfl ?_
    refine ow_nil ?_
    refine x_qs ?_
    refine c_if rfl (fun hb => ?_) (fun hb => ?_)
    · have H := of_if_t hb H
      refine c_skip ?_
      refine x_qs ?_
      refine c_seq ?_
      refine c_block ?_
      refine c_seq ?_
      refine c_regQ mixed (by kernel_rfl) ?_
      refine ow_batch [.p, .p] rfl ?_
      obtain ⟨e12, h13, H⟩ := of_bind H
      refine ow_ixE (e := eVal (Value.int .i64) (fun _ => rfl)) (xs := p0) (j := i6) rfl rfl rfl rfl rfl sl22 ty3 rfl (fun w1 hw1 => rds_bor g0 w1 hw1) h13 (by rw [Nat.mul_one]) ?_
      refine ow_r rfl (dstOk_lt rfl) (ry_load1 rfl rfl ty3 (at_elV (fun w1 hw1 => rds_bor g0 w1 hw1) h13)) ?_
      refine ow_batch [.p, .p, .p] rfl ?_
      obtain ⟨e14, h15, H⟩ := of_bind H
      refine ow_ixE (e := eVal (Value.int .i64) (fun _ => rfl)) (xs := p0) (j := IntKind.i64.wrap (i6 - 1)) rfl rfl rfl rfl rfl sl22 ty3 rfl (fun w1 hw1 => rds_bor g0 w1 hw1) h15 (by rw [Nat.mul_one]) ?_
      refine ow_r rfl (dstOk_lt rfl) (ry_load1 rfl rfl ty3 (at_elV (fun w1 hw1 => rds_bor g0 w1 hw1) h15)) ?_
      refine ow_batch [.p] rfl ?_
      refine ow_nilQ ?_
      refine x_qs ?_
      refine c_if rfl (fun hb => ?_) (fun hb => ?_)
      · have H := of_if_t hb H
        refine c_seq ?_
        refine c_reg ?_
        refine ow_batch [.p] rfl ?_
        refine ow_nil ?_
        refine x_qs ?_
        refine c_ret ?_
        refine x_qb_ret ?_
        refine x_qs_ret ?_
        refine x_ql_ret ?_
        refine x_qb_ret ?_
        refine x_qs_ret ?_
        exact x_retR (rs := [.tmp 2]) (vs := [.bool false]) rfl ⟨rfl, trivial⟩ (fun w' hw' => by
            obtain rfl := of_some H
            exact ⟨rfl, hw'.ext⟩)
      · have H := of_if_f hb H
        refine c_skip ?_
        refine x_qb ?_
        refine x_qs ?_
        refine c_reg ?_
        refine ow_batch [.p, .p, .p] rfl ?_
        refine ow_nil ?_
        exact x_ql (RW.at (ihk1 (IntKind.i64.wrap (i6 + 1)) (H)) (fun _ h => St.sel [] rfl rfl h) ⟨rfl, rfl, trivial⟩)
    · have H := of_if_f hb H
      refine c_exit ?_
      refine x_qs_exit ?_
      refine x_ql_exit ?_
      refine x_qb_here ?_
      refine x_qs ?_
      refine c_seq ?_
      refine c_reg ?_
      refine ow_batch [.p] rfl ?_
      refine ow_nil ?_
      refine x_qs ?_
      refine c_ret ?_
      exact x_retR (rs := [.tmp 2]) (vs := [.bool true]) rfl ⟨rfl, trivial⟩ (fun w' hw' => by
          obtain rfl := of_some H
          exact ⟨rfl, hw'.ext⟩)

set_option maxHeartbeats 4000000 in
set_option maxRecDepth 100000 in
theorem impl_isCut_ok (w : World) {p0 : Int}  {r : Bool} (H : impl_isCut p0 = some r)   :
    Calls Try.prog 116 #[.int .i64 p0] w (fun en w' => en = .returned (.bool r) ∧ Ext [] w w') := by
  unfold impl_isCut at H
  refine f_enter (vs := [.int .i64 p0]) Try.func116 rfl Try.ntmps116 rfl (St.init w []) ?_
  refine c_seq ?_
  refine c_reg ?_
  refine ow_batch [.p] rfl ?_
  refine ow_nil ?_
  refine x_qs ?_
  refine c_seq ?_
  refine c_reg ?_
  refine ow_batch [.p] rfl ?_
  obtain ⟨y1, h2, H⟩ := of_bind H
  refine ow_q rfl rfl (dstOk_lt rfl) (qy_call rfl fn72 rfl (fun w1 hw1 => impl_within_ok w1  h2)) (fun _ _ => trivial) ?_
  refine ow_batch [.p] rfl ?_
  refine ow_nil ?_
  refine x_qs ?_
  refine c_ret ?_
  exact x_retR (rs := [.tmp 2]) (vs := [.bool y1]) rfl ⟨rfl, trivial⟩ (fun w' hw' => by
      obtain rfl := of_some H
      exact ⟨rfl, hw'.ext⟩)

set_option maxHeartbeats 4000000 in
set_option maxRecDepth 100000 in
theorem impl_CutsOk_1_ok (w : World) {p0 : Int}  {r : Bool} (H : impl_CutsOk_1 p0 = some r)   :
    Calls Try.prog 115 #[.int .i64 p0] w (fun en w' => en = .returned (.bool r) ∧ Ext [] w w') := by
  unfold impl_CutsOk_1 at H
  refine f_enter (vs := [.int .i64 p0]) Try.func115 rfl Try.ntmps115 rfl (St.init w []) ?_
  refine c_seq ?_
  refine c_reg ?_
  refine ow_batch [.p] rfl ?_
  refine ow_nil ?_
  refine x_qs ?_
  refine c_seq ?_
  refine c_reg ?_
  refine ow_batch [.p] rfl ?_
  obtain ⟨y1, h2, H⟩ := of_bind H
  refine ow_q rfl rfl (dstOk_lt rfl) (qy_call rfl fn116 rfl (fun w1 hw1 => impl_isCut_ok w1  h2)) (fun _ _ => trivial) ?_
  refine ow_batch [.p, .p] rfl ?_
  refine ow_nil ?_
  refine x_qs ?_
  refine c_ret ?_
  exact x_retR (rs := [.tmp 2]) (vs := [.bool (!y1)]) rfl ⟨rfl, trivial⟩ (fun w' hw' => by
      obtain rfl := of_some H
      exact ⟨rfl, hw'.ext⟩)

set_option maxHeartbeats 4000000 in
set_option maxRecDepth 100000 in
theorem lib_slices_IndexFunc___int_int___impl_CutsOk_1_ok (w : World) {p0 : List Int} {a_0 : Option Addr} {n_0 c_0 : Nat} {r : Int} (H : lib_slices_IndexFunc___int_int___impl_CutsOk_1 p0 = some r)  (g0 : (eList (eVal (Value.int .i64) (fun _ => rfl)) 3).rd w [] p0 [.slice a_0 n_0 c_0]) :
    Calls Try.prog 118 #[.slice a_0 n_0 c_0, .func (.func 115) #[] #[]] w (fun en w' => en = .returned (.int .i64 r) ∧ Ext [] w w') := by
  obtain rfl := rd_n g0
  unfold lib_slices_IndexFunc___int_int___impl_CutsOk_1 at H
  refine f_enter (vs := [.slice a_0 p0.length c_0, .func (.func 115) #[] #[]]) Try.func118 rfl Try.ntmps118 rfl (St.init w []) ?_
  refine c_seq ?_
  refine c_reg ?_
  refine ow_batch [.p] rfl ?_
  refine ow_nil ?_
  refine x_qs ?_
  refine c_seq ?_
  refine c_seq ?_
  refine c_reg ?_
  refine ow_batch [.p, .lenS 22 3 sl22, .p] rfl ?_
  refine ow_nil ?_
  refine x_qs ?_
  refine c_block ?_
  refine CW.at (loopI1 (fun (i6 : Int) => St w [] []) (fun (i6 : Int) => [(0, .slice a_0 p0.length c_0), (1, .func (.func 115) #[] #[]), (7, .int .i64 (p0.length : Int)), (8, .int .i64 i6)]) (fun kk => fun (i6 : Int) => lib_slices_IndexFunc___int_int___impl_CutsOk_1_L1 p0 kk i6 = some r) (fun _ H => ?_) (fun k1 ihk1 i6 H => ?_) Fuel (0) (H)) (fun _ h => St.sel [] rfl rfl h) ⟨rfl, rfl, rfl, rfl,  trivial⟩
  · unfold lib_slices_IndexFunc___int_int___impl_CutsOk_1_L1 at H
    exact absurd H (by simp)
  · unfold lib_slices_IndexFunc___int_int___impl_CutsOk_1_L1 at H
    refine c_seq ?_
    refine c_reg ?_
    refine ow_batch [.p] rfl ?_
    refine ow_nil ?_
    refine x_qs ?_
    refine c_seq ?_
    refine c_if rfl (fun hb => ?_) (fun hb => ?_)
    · have H := of_if_t hb H
      refine c_skip ?_
      refine x_qs ?_
      refine c_seq ?_
      refine c_block ?_
      refine c_seq ?_
      refine c_reg ?_
      refine ow_batch [.p, .p] rfl ?_
      refine ow_nil ?_
      refine x_qs ?_
      refine c_seq ?_
      refine c_reg ?_
      refine ow_batch [.p, .p, .p] rfl ?_
      obtain ⟨e12, h13, H⟩ := of_bind H
      refine ow_ixE (e := eVal (Value.int .i64) (fun _ => rfl)) (xs := p0) (j := i6) rfl rfl rfl rfl rfl sl22 ty3 rfl (fun w1 hw1 => rds_bor g0 w1 hw1) h13 (by rw [Nat.mul_one]) ?_
      refine ow_r rfl (dstOk_lt rfl) (ry_load1 rfl rfl ty3 (at_elV (fun w1 hw1 => rds_bor g0 w1 hw1) h13)) ?_
      obtain ⟨y14, h15, H⟩ := of_bind H
      refine ow_q rfl rfl (dstOk_lt rfl) (qy_callV (cap := []) rfl fn115 rfl rfl (fun w1 hw1 => impl_CutsOk_1_ok w1  h15)) (fun _ _ => trivial) ?_
      refine ow_nil ?_
      refine x_qs ?_
      refine c_if rfl (fun hb => ?_) (fun hb => ?_)
      · have H := of_if_t hb H
        refine c_seq ?_
        refine c_reg ?_
        refine ow_batch [.p, .p] rfl ?_
        refine ow_nil ?_
        refine x_qs ?_
        refine c_ret ?_
        refine x_qb_ret ?_
        refine x_qs_ret ?_
        refine x_ql_ret ?_
        refine x_qb_ret ?_
        refine x_qs_ret ?_
        exact x_retR (rs := [.tmp 4]) (vs := [.int .i64 i6]) rfl ⟨rfl, trivial⟩ (fun w' hw' => by
            obtain rfl := of_some H
            exact ⟨rfl, hw'.ext⟩)
      · have H := of_if_f hb H
        refine c_skip ?_
        refine x_qb ?_
        refine x_qs ?_
        refine c_reg ?_
        refine ow_batch [.p, .p] rfl ?_
        refine ow_nil ?_
        exact x_ql (RW.at (ihk1 (IntKind.i64.wrap (i6 + 1)) (H)) (fun _ h => St.sel [] rfl rfl h) ⟨rfl, rfl, rfl, rfl, trivial⟩)
    · have H := of_if_f hb H
      refine c_exit ?_
      refine x_qs_exit ?_
      refine x_ql_exit ?_
      refine x_qb_here ?_
      refine x_qs ?_
      refine c_seq ?_
      refine c_reg ?_
      refine ow_batch [.p] rfl ?_
      refine ow_nil ?_
      refine x_qs ?_
      refine c_ret ?_
      exact x_retR (rs := [.tmp 4]) (vs := [.int .i64 (-1)]) rfl ⟨rfl, trivial⟩ (fun w' hw' => by
          obtain rfl := of_some H
          exact ⟨rfl, hw'.ext⟩)

set_option maxHeartbeats 4000000 in
set_option maxRecDepth 100000 in
theorem lib_slices_ContainsFunc___int_int___impl_CutsOk_1_ok (w : World) {p0 : List Int} {a_0 : Option Addr} {n_0 c_0 : Nat} {r : Bool} (H : lib_slices_ContainsFunc___int_int___impl_CutsOk_1 p0 = some r)  (g0 : (eList (eVal (Value.int .i64) (fun _ => rfl)) 3).rd w [] p0 [.slice a_0 n_0 c_0]) :
    Calls Try.prog 114 #[.slice a_0 n_0 c_0, .func (.func 115) #[] #[]] w (fun en w' => en = .returned (.bool r) ∧ Ext [] w w') := by
  obtain rfl := rd_n g0
  unfold lib_slices_ContainsFunc___int_int___impl_CutsOk_1 at H
  refine f_enter (vs := [.slice a_0 p0.length c_0, .func (.func 115) #[] #[]]) Try.func114 rfl Try.ntmps114 rfl (St.init w []) ?_
  refine c_seq ?_
  refine c_reg ?_
  refine ow_batch [.p] rfl ?_
  refine ow_nil ?_
  refine x_qs ?_
  refine c_seq ?_
  refine c_reg ?_
  refine ow_batch [.p, .p] rfl ?_
  obtain ⟨y1, h2, H⟩ := of_bind H
  refine ow_q rfl rfl (dstOk_lt rfl) (qy_call rfl fn118 rfl (fun w1 hw1 => lib_slices_IndexFunc___int_int___impl_CutsOk_1_ok w1  h2 (rds_bor g0 w1 hw1))) (fun _ _ => trivial) ?_
  refine ow_batch [.p, .p] rfl ?_
  refine ow_nil ?_
  refine x_qs ?_
  refine c_ret ?_
  exact x_retR (rs := [.tmp 4]) (vs := [.bool (decide (y1 ≥ 0))]) rfl ⟨rfl, trivial⟩ (fun w' hw' => by
      obtain rfl := of_some H
      exact ⟨rfl, hw'.ext⟩)

set_option maxHeartbeats 4000000 in
set_option maxRecDepth 100000 in
theorem impl_CutsOk_ok (w : World) {p0 : List Int} {a_0 : Option Addr} {n_0 c_0 : Nat} {r : Bool} (H : impl_CutsOk p0 = some r)  (g0 : (eList (eVal (Value.int .i64) (fun _ => rfl)) 3).rd w [] p0 [.slice a_0 n_0 c_0]) :
    Calls Try.prog 108 #[.slice a_0 n_0 c_0] w (fun en w' => en = .returned (.bool r) ∧ Ext [] w w') := by
  obtain rfl := rd_n g0
  unfold impl_CutsOk at H
  refine f_enter (vs := [.slice a_0 p0.length c_0]) Try.func108 rfl Try.ntmps108 rfl (St.init w []) ?_
  refine c_seq ?_
  refine c_reg ?_
  refine ow_batch [.p] rfl ?_
  refine ow_nil ?_
  refine x_qs ?_
  refine c_seq ?_
  refine c_reg ?_
  refine ow_batch [.p, .lenS 22 3 sl22] rfl ?_
  obtain ⟨y1, h2, H⟩ := of_bind H
  refine ow_q rfl rfl (dstOk_lt rfl) (qy_call rfl fn72 rfl (fun w1 hw1 => impl_within_ok w1  h2)) (fun _ _ => trivial) ?_
  refine ow_batch [.p] rfl ?_
  obtain ⟨u3, hu7, H⟩ := of_bind H
  refine ow_cut [(9, .bool u3), (0, .slice a_0 p0.length c_0), (2, .bool false)] 3 ?_ (fun key => OW.sub (R := [(0, .slice a_0 p0.length c_0), (2, .bool false), (6, .bool y1)]) ?_ ⟨rfl, rfl, rfl, trivial⟩)
  · refine ow_batch [.p] rfl ?_
    obtain ⟨u9, hu13, H⟩ := of_bind H
    refine ow_cut [(14, .bool u9), (2, .bool false)] 4 ?_ (fun key => OW.sub (R := [(0, .slice a_0 p0.length c_0), (2, .bool false), (10, .bool u3)]) ?_ ⟨rfl, rfl, rfl, trivial⟩)
    · refine ow_batch [.p] rfl ?_
      refine ow_nil ?_
      refine x_qs ?_
      refine c_ret ?_
      exact x_retR (rs := [.tmp 2]) (vs := [.bool u9]) rfl ⟨rfl, trivial⟩ (fun w' hw' => by
          obtain rfl := of_some H
          exact ⟨rfl, hw'.ext⟩)
    · clear H
      have H := hu13
      clear hu13
      generalize u3 = t12 at H ⊢
      cases t12
      · have H := of_if_f rfl H
        refine ow_batch [.p, .p, .p, .p] rfl ?_
        obtain rfl := of_some H
        exact OW.sub key ⟨rfl, rfl, trivial⟩
      · have H := of_if_t rfl H
        refine ow_batch [.p] rfl ?_
        obtain ⟨y10, h11, H⟩ := of_bind H
        refine ow_q rfl rfl (dstOk_lt rfl) (qy_call rfl fn114 rfl (fun w1 hw1 => lib_slices_ContainsFunc___int_int___impl_CutsOk_1_ok w1  h11 (rds_bor g0 w1 hw1))) (fun _ _ => trivial) ?_
        refine ow_batch [.p] rfl ?_
        refine ow_batch [.p] rfl ?_
        obtain rfl := of_some H
        exact OW.sub key ⟨rfl, rfl, trivial⟩
  · clear H
    have H := hu7
    clear hu7
    generalize y1 = t6 at H ⊢
    cases t6
    · have H := of_if_f rfl H
      refine ow_batch [.p, .p, .p] rfl ?_
      obtain rfl := of_some H
      exact OW.sub key ⟨rfl, rfl, rfl, trivial⟩
    · have H := of_if_t rfl H
      refine ow_batch [.p] rfl ?_
      obtain ⟨y4, h5, H⟩ := of_bind H
      refine ow_q rfl rfl (dstOk_lt rfl) (qy_call rfl fn113 rfl (fun w1 hw1 => impl_ascending_ok w1  h5 (rds_bor g0 w1 hw1))) (fun _ _ => trivial) ?_
      refine ow_batch [.p] rfl ?_
      obtain rfl := of_some H
      exact OW.sub key ⟨rfl, rfl, rfl, trivial⟩

set_option maxHeartbeats 4000000 in
set_option maxRecDepth 100000 in
theorem impl_AttrOk_ok (w : World) {p0 : Timpl_Attr} {cs0 : List Value} {r : Bool} (H : impl_AttrOk p0 = some r)  (g0 : (eTimpl_Attr).rd w [] p0 cs0) :
    Calls Try.prog 62 #[.agg cs0.toArray] w (fun en w' => en = .returned (.bool r) ∧ Ext [] w w') := by
  obtain ⟨c1, c2, c3, rfl, g4, g5, g6⟩ := rdo_Timpl_Attr g0
  obtain rfl : c1 = [vS p0.Name_] := g4
  obtain ⟨a7, c8, rfl⟩ := rd_sl1 g5
  obtain ⟨a9, c10, rfl⟩ := rd_sl1 g6
  unfold impl_AttrOk at H
  refine f_enter (vs := [.agg #[vS p0.Name_, .slice a7 p0.Cuts_.length c8, .slice a9 p0.Values_.length c10]]) Try.func62 rfl Try.ntmps62 rfl (St.init w []) ?_
  refine c_seq ?_
  refine c_reg ?_
  refine ow_box (cs := [vS p0.Name_, .slice a7 p0.Cuts_.length c8, .slice a9 p0.Values_.length c10]) rfl rfl rfl rfl rfl rfl (fun _ => kp) (fun b11 => ?_)
  refine ow_batch [.p] rfl ?_
  refine ow_nil ?_
  refine x_qs ?_
  refine c_seq ?_
  refine c_seq ?_
  refine c_reg ?_
  refine ow_batch [.fa 28 0 0 fa28_0] rfl ?_
  refine ow_r rfl (dstOk_lt rfl) (ry_box1 (off := 0) rfl rfl ty9 (boxIn (i := 0) rfl) rfl) ?_
  obtain ⟨y12, h13, H⟩ := of_bind H
  refine ow_q rfl rfl (dstOk_lt rfl) (qy_call rfl fn106 rfl (fun w1 hw1 => impl_WordOk_ok w1  h13)) (fun _ _ => trivial) ?_
  refine ow_batch [.p] rfl ?_
  refine ow_nil ?_
  refine x_qs ?_
  refine c_if rfl (fun hb => ?_) (fun hb => ?_)
  · have H := of_if_t hb H
    refine c_seq ?_
    refine c_reg ?_
    refine ow_batch [.p] rfl ?_
    refine ow_nil ?_
    refine x_qs ?_
    refine c_ret ?_
    refine x_qs_ret ?_
    exact x_retR (rs := [.tmp 2]) (vs := [.bool false]) rfl ⟨rfl, trivial⟩ (fun w' hw' => by
        obtain rfl := of_some H
        exact ⟨rfl, hw'.ext⟩)
  · have H := of_if_f hb H
    refine c_skip ?_
    refine x_qs ?_
    refine c_seq ?_
    refine c_seq ?_
    refine c_reg ?_
    refine ow_batch [.fa 28 1 1 fa28_1] rfl ?_
    refine ow_r rfl (dstOk_lt rfl) (ry_box1 (off := 1) rfl rfl ty22 (boxIn (i := 0) rfl) rfl) ?_
    refine ow_batch [.lenS 22 3 sl22, .p] rfl ?_
    refine ow_nil ?_
    refine x_qs ?_
    refine c_if rfl (fun hb => ?_) (fun hb => ?_)
    · have H := of_if_t hb H
      refine c_seq ?_
      refine c_reg ?_
      refine ow_batch [.fa 28 2 2 fa28_2] rfl ?_
      refine ow_r rfl (dstOk_lt rfl) (ry_box1 (off := 2) rfl rfl ty23 (boxIn (i := 0) rfl) rfl) ?_
      refine ow_batch [.lenS 23 9 sl23] rfl ?_
      obtain ⟨y14, h15, H⟩ := of_bind H
      refine ow_q rfl rfl (dstOk_lt rfl) (qy_call rfl fn72 rfl (fun w1 hw1 => impl_within_ok w1  h15)) (fun _ _ => trivial) ?_
      refine ow_batch [.p] rfl ?_
      obtain ⟨u17, hu21, H⟩ := of_bind H
      refine ow_cut [(19, .bool u17), (2, .bool false)] 4 ?_ (fun key => OW.sub (R := [(1, .pointer (some ⟨b11, 0, none⟩)), (2, .bool false), (15, .bool y14)]) ?_ ⟨rfl, rfl, rfl, trivial⟩)
      · refine ow_batch [.p] rfl ?_
        refine ow_nil ?_
        refine x_qs ?_
        refine c_ret ?_
        refine x_qs_ret ?_
        exact x_retR (rs := [.tmp 2]) (vs := [.bool u17]) rfl ⟨rfl, trivial⟩ (fun w' hw' => by
            obtain rfl := of_some H
            exact ⟨rfl, hw'.ext⟩)
      · clear H
        have H := hu21
        clear hu21
        generalize y14 = t20 at H ⊢
        cases t20
        · have H := of_if_f rfl H
          refine ow_batch [.p, .p, .p, .p] rfl ?_
          obtain rfl := of_some H
          exact OW.sub key ⟨rfl, rfl, trivial⟩
        · have H := of_if_t rfl H
          refine ow_batch [.fa 28 2 2 fa28_2] rfl ?_
          refine ow_r rfl (dstOk_lt rfl) (ry_box1 (off := 2) rfl rfl ty23 (boxIn (i := 0) rfl) rfl) ?_
          obtain ⟨y18, h19, H⟩ := of_bind H
          refine ow_q rfl rfl (dstOk_lt rfl) (qy_call rfl fn107 rfl (fun w1 hw1 => impl_distinctWords_ok w1  h19 (rds_bor g6 w1 hw1))) (fun _ _ => trivial) ?_
          refine ow_batch [.p] rfl ?_
          obtain rfl := of_some H
          exact OW.sub key ⟨rfl, rfl, trivial⟩
    · have H := of_if_f hb H
      refine c_skip ?_
      refine x_qs ?_
      refine c_seq ?_
      refine c_reg ?_
      refine ow_batch [.fa 28 2 2 fa28_2] rfl ?_
      refine ow_r rfl (dstOk_lt rfl) (ry_box1 (off := 2) rfl rfl ty23 (boxIn (i := 0) rfl) rfl) ?_
      refine ow_batch [.lenS 23 9 sl23, .p, .p] rfl ?_
      obtain ⟨u22, hu26, H⟩ := of_bind H
      refine ow_cut [(28, .bool u22), (2, .bool false)] 4 ?_ (fun key => OW.sub (R := [(1, .pointer (some ⟨b11, 0, none⟩)), (2, .bool false), (24, .bool ((p0.Values_.length : Int) == 0))]) ?_ ⟨rfl, rfl, rfl, trivial⟩)
      · refine ow_batch [.p] rfl ?_
        refine ow_nil ?_
        refine x_qs ?_
        refine c_ret ?_
        exact x_retR (rs := [.tmp 2]) (vs := [.bool u22]) rfl ⟨rfl, trivial⟩ (fun w' hw' => by
            obtain rfl := of_some H
            exact ⟨rfl, hw'.ext⟩)
      · clear H
        have H := hu26
        clear hu26
        generalize ((p0.Values_.length : Int) == 0) = t25 at H ⊢
        cases t25
        · have H := of_if_f rfl H
          refine ow_batch [.p, .p, .p, .p] rfl ?_
          obtain rfl := of_some H
          exact OW.sub key ⟨rfl, rfl, trivial⟩
        · have H := of_if_t rfl H
          refine ow_batch [.fa 28 1 1 fa28_1] rfl ?_
          refine ow_r rfl (dstOk_lt rfl) (ry_box1 (off := 1) rfl rfl ty22 (boxIn (i := 0) rfl) rfl) ?_
          obtain ⟨y23, h24, H⟩ := of_bind H
          refine ow_q rfl rfl (dstOk_lt rfl) (qy_call rfl fn108 rfl (fun w1 hw1 => impl_CutsOk_ok w1  h24 (rds_bor g5 w1 hw1))) (fun _ _ => trivial) ?_
          refine ow_batch [.p] rfl ?_
          obtain rfl := of_some H
          exact OW.sub key ⟨rfl, rfl, trivial⟩

set_option maxHeartbeats 4000000 in
set_option maxRecDepth 100000 in
theorem impl_bins_ok (w : World) {p0 : Timpl_Attr} {cs0 : List Value} {r : Int} (H : impl_bins p0 = some r)  (g0 : (eTimpl_Attr).rd w [] p0 cs0) :
    Calls Try.prog 63 #[.agg cs0.toArray] w (fun en w' => en = .returned (.int .i64 r) ∧ Ext [] w w') := by
  obtain ⟨c1, c2, c3, rfl, g4, g5, g6⟩ := rdo_Timpl_Attr g0
  obtain rfl : c1 = [vS p0.Name_] := g4
  obtain ⟨a7, c8, rfl⟩ := rd_sl1 g5
  obtain ⟨a9, c10, rfl⟩ := rd_sl1 g6
  unfold impl_bins at H
  refine f_enter (vs := [.agg #[vS p0.Name_, .slice a7 p0.Cuts_.length c8, .slice a9 p0.Values_.length c10]]) Try.func63 rfl Try.ntmps63 rfl (St.init w []) ?_
  refine c_seq ?_
  refine c_reg ?_
  refine ow_box (cs := [vS p0.Name_, .slice a7 p0.Cuts_.length c8, .slice a9 p0.Values_.length c10]) rfl rfl rfl rfl rfl rfl (fun _ => kp) (fun b11 => ?_)
  refine ow_batch [.p] rfl ?_
  refine ow_nil ?_
  refine x_qs ?_
  refine c_seq ?_
  refine c_seq ?_
  refine c_reg ?_
  refine ow_batch [.fa 28 1 1 fa28_1] rfl ?_
  refine ow_r rfl (dstOk_lt rfl) (ry_box1 (off := 1) rfl rfl ty22 (boxIn (i := 0) rfl) rfl) ?_
  refine ow_batch [.lenS 22 3 sl22, .p] rfl ?_
  refine ow_nil ?_
  refine x_qs ?_
  refine c_if rfl (fun hb => ?_) (fun hb => ?_)
  · have H := of_if_t hb H
    refine c_seq ?_
    refine c_reg ?_
    refine ow_batch [.fa 28 1 1 fa28_1] rfl ?_
    refine ow_r rfl (dstOk_lt rfl) (ry_box1 (off := 1) rfl rfl ty22 (boxIn (i := 0) rfl) rfl) ?_
    refine ow_batch [.lenS 22 3 sl22, .p, .p] rfl ?_
    refine ow_nil ?_
    refine x_qs ?_
    refine c_ret ?_
    refine x_qs_ret ?_
    exact x_retR (rs := [.tmp 2]) (vs := [.int .i64 (IntKind.i64.wrap ((p0.Cuts_.length : Int) + 1))]) rfl ⟨rfl, trivial⟩ (fun w' hw' => by
        obtain rfl := of_some H
        exact ⟨rfl, hw'.ext⟩)
  · have H := of_if_f hb H
    refine c_skip ?_
    refine x_qs ?_
    refine c_seq ?_
    refine c_reg ?_
    refine ow_batch [.fa 28 2 2 fa28_2] rfl ?_
    refine ow_r rfl (dstOk_lt rfl) (ry_box1 (off := 2) rfl rfl ty23 (boxIn (i := 0) rfl) rfl) ?_
    refine ow_batch [.lenS 23 9 sl23, .p] rfl ?_
    refine ow_nil ?_
    refine x_qs ?_
    refine c_ret ?_
    exact x_retR (rs := [.tmp 2]) (vs := [.int .i64 (p0.Values_.length : Int)]) rfl ⟨rfl, trivial⟩ (fun w' hw' => by
        obtain rfl := of_some H
        exact ⟨rfl, hw'.ext⟩)

set_option maxHeartbeats 4000000 in
set_option maxRecDepth 100000 in
theorem impl_FullMask_ok (w : World) {p0 : Timpl_Attr} {cs0 : List Value} {r : Int} (H : impl_FullMask p0 = some r)  (g0 : (eTimpl_Attr).rd w [] p0 cs0) :
    Calls Try.prog 14 #[.agg cs0.toArray] w (fun en w' => en = .returned (.int .i64 r) ∧ Ext [] w w') := by
  obtain ⟨c1, c2, c3, rfl, g4, g5, g6⟩ := rdo_Timpl_Attr g0
  obtain rfl : c1 = [vS p0.Name_] := g4
  obtain ⟨a7, c8, rfl⟩ := rd_sl1 g5
  obtain ⟨a9, c10, rfl⟩ := rd_sl1 g6
  unfold impl_FullMask at H
  refine f_enter (vs := [.agg #[vS p0.Name_, .slice a7 p0.Cuts_.length c8, .slice a9 p0.Values_.length c10]]) Try.func14 rfl Try.ntmps14 rfl (St.init w []) ?_
  refine c_seq ?_
  refine c_reg ?_
  refine ow_box (cs := [vS p0.Name_, .slice a7 p0.Cuts_.length c8, .slice a9 p0.Values_.length c10]) rfl rfl rfl rfl rfl rfl (fun _ => kp) (fun b11 => ?_)
  refine ow_batch [.p] rfl ?_
  refine ow_nil ?_
  refine x_qs ?_
  refine c_seq ?_
  refine c_seq ?_
  refine c_reg ?_
  refine ow_r rfl (dstOk_lt rfl) (ry_box (off := 0) (ds := [vS p0.Name_, .slice a7 p0.Cuts_.length c8, .slice a9 p0.Values_.length c10]) rfl rfl ty28 (boxIn (i := 0) rfl) rfl rfl) ?_
  obtain ⟨y12, h13, H⟩ := of_bind H
  refine ow_q rfl rfl (dstOk_lt rfl) (qy_call rfl fn62 rfl (fun w1 hw1 => impl_AttrOk_ok w1 (cs0 := [vS p0.Name_, .slice a7 p0.Cuts_.length c8, .slice a9 p0.Values_.length c10]) h13 (rdm_Timpl_Attr (x := p0) (c0 := [vS p0.Name_]) (c1 := [.slice a7 p0.Cuts_.length c8]) (c2 := [.slice a9 p0.Values_.length c10]) rfl (rds_bor g5 w1 hw1) (rds_bor g6 w1 hw1)))) (fun _ _ => trivial) ?_
  refine ow_batch [.p] rfl ?_
  refine ow_nil ?_
  refine x_qs ?_
  refine c_if rfl (fun hb => ?_) (fun hb => ?_)
  · have H := of_if_t hb H
    refine c_seq ?_
    refine c_reg ?_
    refine ow_batch [.p] rfl ?_
    refine ow_nil ?_
    refine x_qs ?_
    refine c_ret ?_
    refine x_qs_ret ?_
    exact x_retR (rs := [.tmp 2]) (vs := [.int .i64 0]) rfl ⟨rfl, trivial⟩ (fun w' hw' => by
        obtain rfl := of_some H
        exact ⟨rfl, hw'.ext⟩)
  · have H := of_if_f hb H
    refine c_skip ?_
    refine x_qs ?_
    refine c_seq ?_
    refine c_reg ?_
    refine ow_r rfl (dstOk_lt rfl) (ry_box (off := 0) (ds := [vS p0.Name_, .slice a7 p0.Cuts_.length c8, .slice a9 p0.Values_.length c10]) rfl rfl ty28 (boxIn (i := 0) rfl) rfl rfl) ?_
    obtain ⟨y14, h15, H⟩ := of_bind H
    refine ow_q rfl rfl (dstOk_lt rfl) (qy_call rfl fn63 rfl (fun w1 hw1 => impl_bins_ok w1 (cs0 := [vS p0.Name_, .slice a7 p0.Cuts_.length c8, .slice a9 p0.Values_.length c10]) h15 (rdm_Timpl_Attr (x := p0) (c0 := [vS p0.Name_]) (c1 := [.slice a7 p0.Cuts_.length c8]) (c2 := [.slice a9 p0.Values_.length c10]) rfl (rds_bor g5 w1 hw1) (rds_bor g6 w1 hw1)))) (fun _ _ => trivial) ?_
    obtain ⟨x16, h17, H⟩ := of_bind H
    refine ow_r rfl (dstOk_lt rfl) (ry_shl rfl rfl rfl h17) ?_
    refine ow_batch [.p, .p, .p] rfl ?_
    refine ow_nil ?_
    refine x_qs ?_
    refine c_ret ?_
    exact x_retR (rs := [.tmp 2]) (vs := [.int .i64 (ibits .or .i64 (IntKind.i64.wrap (x16 - 1)) 16)]) rfl ⟨rfl, trivial⟩ (fun w' hw' => by
        obtain rfl := of_some H
        exact ⟨rfl, hw'.ext⟩)

set_option maxHeartbeats 4000000 in
set_option maxRecDepth 100000 in
theorem laws_eqIntS_ok (w : World) {p0 : List Int} {p1 : List Int} {a_0 : Option Addr} {n_0 c_0 : Nat} {a_1 : Option Addr} {n_1 c_1 : Nat} {r : Bool} (H : laws_eqIntS p0 p1 = some r)  (g0 : (eList (eVal (Value.int .i64) (fun _ => rfl)) 3).rd w [] p0 [.slice a_0 n_0 c_0]) (g1 : (eList (eVal (Value.int .i64) (fun _ => rfl)) 3).rd w [] p1 [.slice a_1 n_1 c_1]) :
    Calls Try.prog 64 #[.slice a_0 n_0 c_0, .slice a_1 n_1 c_1] w (fun en w' => en = .returned (.bool r) ∧ Ext [] w w') := by
  obtain rfl := rd_n g0
  obtain rfl := rd_n g1
  unfold laws_eqIntS at H
  refine f_enter (vs := [.slice a_0 p0.length c_0, .slice a_1 p1.length c_1]) Try.func64 rfl Try.ntmps64 rfl (St.init w []) ?_
  refine c_seq ?_
  refine c_reg ?_
  refine ow_batch [.p] rfl ?_
  refine ow_nil ?_
  refine x_qs ?_
  refine c_seq ?_
  refine c_seq ?_
  refine c_reg ?_
  refine ow_batch [.p, .lenS 22 3 sl22, .p, .lenS 22 3 sl22, .p] rfl ?_
  refine ow_nil ?_
  refine x_qs ?_
  refine c_if rfl (fun hb => ?_) (fun hb => ?_)
  · have H := of_if_t hb H
    refine c_seq ?_
    refine c_reg ?_
    refine ow_batch [.p] rfl ?_
    refine ow_nil ?_
    refine x_qs ?_
    refine c_ret ?_
    refine x_qs_ret ?_
    exact x_retR (rs := [.tmp 4]) (vs := [.bool false]) rfl ⟨rfl, trivial⟩ (fun w' hw' => by
        obtain rfl := of_some H
        exact ⟨rfl, hw'.ext⟩)
  · have H := of_if_f hb H
    refine c_skip ?_
    refine x_qs ?_
    refine c_seq ?_
    refine c_seq ?_
    refine c_reg ?_
    refine ow_batch [.p] rfl ?_
    refine ow_nil ?_
    refine x_qs ?_
    refine c_block ?_
    refine CW.at (loopI1 (fun (i6 : Int) => St w [] []) (fun (i6 : Int) => [(0, .slice a_0 p0.length c_0), (1, .slice a_1 p1.length c_1), (5, .int .i64 i6)]) (fun kk => fun (i6 : Int) => laws_eqIntS_L1 p0 p1 kk i6 = some r) (fun _ H => ?_) (fun k1 ihk1 i6 H => ?_) Fuel (0) (H)) (fun _ h => St.sel [] rfl rfl h) ⟨rfl, rfl, rfl,  trivial⟩
    · unfold laws_eqIntS_L1 at H
      exact absurd H (by simp)
    · unfold laws_eqIntS_L1 at H
      refine c_seq ?_
      refine c_seq ?_
      refine c_reg ?_
      refine ow_batch [.p, .p, .lenS 22 3 sl22, .p] rfl ?_
      refine ow_nil ?_
      refine x_qs ?_
      refine c_if rfl (fun hb => ?_) (fun hb => ?_)
      · have H := of_if_t hb H
        refine c_skip ?_
        refine x_qs ?_
        refine c_seq ?_
        refine c_block ?_
        refine c_seq ?_
        refine c_regQ mixed (by kernel_rfl) ?_
        refine ow_batch [.p, .p] rfl ?_
        obtain ⟨e12, h13, H⟩ := of_bind H
        refine ow_ixE (e := eVal (Value.int .i64) (fun _ => rfl)) (xs := p0) (j := i6) rfl rfl rfl rfl rfl sl22 ty3 rfl (fun w1 hw1 => rds_bor g0 w1 hw1) h13 (by rw [Nat.mul_one]) ?_
        refine ow_r rfl (dstOk_lt rfl) (ry_load1 rfl rfl ty3 (at_elV (fun w1 hw1 => rds_bor g0 w1 hw1) h13)) ?_
        refine ow_batch [.p, .p] rfl ?_
        obtain ⟨e14, h15, H⟩ := of_bind H
        refine ow_ixE (e := eVal (Value.int .i64) (fun _ => rfl)) (xs := p1) (j := i6) rfl rfl rfl rfl rfl sl22 ty3 rfl (fun w1 hw1 => rds_bor g1 w1 hw1) h15 (by rw [Nat.mul_one]) ?_
        refine ow_r rfl (dstOk_lt rfl) (ry_load1 rfl rfl ty3 (at_elV (fun w1 hw1 => rds_bor g1 w1 hw1) h15)) ?_
        refine ow_batch [.p] rfl ?_
        refine ow_nilQ ?_
        refine x_qs ?_
        refine c_if rfl (fun hb => ?_) (fun hb => ?_)
        · have H := of_if_t hb H
          refine c_seq ?_
          refine c_reg ?_
          refine ow_batch [.p] rfl ?_
          refine ow_nil ?_
          refine x_qs ?_
          refine c_ret ?_
          refine x_qb_ret ?_
          refine x_qs_ret ?_
          refine x_ql_ret ?_
          refine x_qb_ret ?_
          refine x_qs_ret ?_
          exact x_retR (rs := [.tmp 4]) (vs := [.bool false]) rfl ⟨rfl, trivial⟩ (fun w' hw' => by
              obtain rfl := of_some H
              exact ⟨rfl, hw'.ext⟩)
        · have H := of_if_f hb H
          refine c_skip ?_
          refine x_qb ?_
          refine x_qs ?_
          refine c_reg ?_
          refine ow_batch [.p, .p, .p] rfl ?_
          refine ow_nil ?_
          exact x_ql (RW.at (ihk1 (IntKind.i64.wrap (i6 + 1)) (H)) (fun _ h => St.sel [] rfl rfl h) ⟨rfl, rfl, rfl, trivial⟩)
      · have H := of_if_f hb H
        refine c_exit ?_
        refine x_qs_exit ?_
        refine x_ql_exit ?_
        refine x_qb_here ?_
        refine x_qs ?_
        refine c_seq ?_
        refine c_reg ?_
        refine ow_batch [.p] rfl ?_
        refine ow_nil ?_
        refine x_qs ?_
        refine c_ret ?_
        exact x_retR (rs := [.tmp 4]) (vs := [.bool true]) rfl ⟨rfl, trivial⟩ (fun w' hw' => by
            obtain rfl := of_some H
            exact ⟨rfl, hw'.ext⟩)

set_option maxHeartbeats 4000000 in
set_option maxRecDepth 100000 in
theorem laws_eqStringS_ok (w : World) {p0 : List (List UInt8)} {p1 : List (List UInt8)} {a_0 : Option Addr} {n_0 c_0 : Nat} {a_1 : Option Addr} {n_1 c_1 : Nat} {r : Bool} (H : laws_eqStringS p0 p1 = some r)  (g0 : (eList (eStr) 9).rd w [] p0 [.slice a_0 n_0 c_0]) (g1 : (eList (eStr) 9).rd w [] p1 [.slice a_1 n_1 c_1]) :
    Calls Try.prog 65 #[.slice a_0 n_0 c_0, .slice a_1 n_1 c_1] w (fun en w' => en = .returned (.bool r) ∧ Ext [] w w') := by
  obtain rfl := rd_n g0
  obtain rfl := rd_n g1
  unfold laws_eqStringS at H
  refine f_enter (vs := [.slice a_0 p0.length c_0, .slice a_1 p1.length c_1]) Try.func65 rfl Try.ntmps65 rfl (St.init w []) ?_
  refine c_seq ?_
  refine c_reg ?_
  refine ow_batch [.p] rfl ?_
  refine ow_nil ?_
  refine x_qs ?_
  refine c_seq ?_
  refine c_seq ?_
  refine c_reg ?_
  refine ow_batch [.p, .lenS 23 9 sl23, .p, .lenS 23 9 sl23, .p] rfl ?_
  refine ow_nil ?_
  refine x_qs ?_
  refine c_if rfl (fun hb => ?_) (fun hb => ?_)
  · have H := of_if_t hb H
    refine c_seq ?_
    refine c_reg ?_
    refine ow_batch [.p] rfl ?_
    refine ow_nil ?_
    refine x_qs ?_
    refine c_ret ?_
    refine x_qs_ret ?_
    exact x_retR (rs := [.tmp 4]) (vs := [.bool false]) rfl ⟨rfl, trivial⟩ (fun w' hw' => by
        obtain rfl := of_some H
        exact ⟨rfl, hw'.ext⟩)
  · have H := of_if_f hb H
    refine c_skip ?_
    refine x_qs ?_
    refine c_seq ?_
    refine c_seq ?_
    refine c_reg ?_
    refine ow_batch [.p] rfl ?_
    refine ow_nil ?_
    refine x_qs ?_
    refine c_block ?_
    refine CW.at (loopI1 (fun (i6 : Int) => St w [] []) (fun (i6 : Int) => [(0, .slice a_0 p0.length c_0), (1, .slice a_1 p1.length c_1), (5, .int .i64 i6)]) (fun kk => fun (i6 : Int) => laws_eqStringS_L1 p0 p1 kk i6 = some r) (fun _ H => ?_) (fun k1 ihk1 i6 H => ?_) Fuel (0) (H)) (fun _ h => St.sel [] rfl rfl h) ⟨rfl, rfl, rfl,  trivial⟩
    · unfold laws_eqStringS_L1 at H
      exact absurd H (by simp)
    · unfold laws_eqStringS_L1 at H
      refine c_seq ?_
      refine c_seq ?_
      refine c_reg ?_
      refine ow_batch [.p, .p, .lenS 23 9 sl23, .p] rfl ?_
      refine ow_nil ?_
      refine x_qs ?_
      refine c_if rfl (fun hb => ?_) (fun hb => ?_)
      · have H := of_if_t hb H
        refine c_skip ?_
        refine x_qs ?_
        refine c_seq ?_
        refine c_block ?_
        refine c_seq ?_
        refine c_regQ mixed (by kernel_rfl) ?_
        refine ow_batch [.p, .p] rfl ?_
        obtain ⟨e12, h13, H⟩ := of_bind H
        refine ow_ixE (e := eStr) (xs := p0) (j := i6) rfl rfl rfl rfl rfl sl23 ty9 rfl (fun w1 hw1 => rds_bor g0 w1 hw1) h13 (by rw [Nat.mul_one]) ?_
        refine ow_r rfl (dstOk_lt rfl) (ry_load1 rfl rfl ty9 (at_elV (fun w1 hw1 => rds_bor g0 w1 hw1) h13)) ?_
        refine ow_batch [.p, .p] rfl ?_
        obtain ⟨e14, h15, H⟩ := of_bind H
        refine ow_ixE (e := eStr) (xs := p1) (j := i6) rfl rfl rfl rfl rfl sl23 ty9 rfl (fun w1 hw1 => rds_bor g1 w1 hw1) h15 (by rw [Nat.mul_one]) ?_
        refine ow_r rfl (dstOk_lt rfl) (ry_load1 rfl rfl ty9 (at_elV (fun w1 hw1 => rds_bor g1 w1 hw1) h15)) ?_
        refine ow_batch [.p] rfl ?_
        refine ow_nilQ ?_
        refine x_qs ?_
        refine c_if rfl (fun hb => ?_) (fun hb => ?_)
        · have H := of_if_t hb H
          refine c_seq ?_
          refine c_reg ?_
          refine ow_batch [.p] rfl ?_
          refine ow_nil ?_
          refine x_qs ?_
          refine c_ret ?_
          refine x_qb_ret ?_
          refine x_qs_ret ?_
          refine x_ql_ret ?_
          refine x_qb_ret ?_
          refine x_qs_ret ?_
          exact x_retR (rs := [.tmp 4]) (vs := [.bool false]) rfl ⟨rfl, trivial⟩ (fun w' hw' => by
              obtain rfl := of_some H
              exact ⟨rfl, hw'.ext⟩)
        · have H := of_if_f hb H
          refine c_skip ?_
          refine x_qb ?_
          refine x_qs ?_
          refine c_reg ?_
          refine ow_batch [.p, .p, .p] rfl ?_
          refine ow_nil ?_
          exact x_ql (RW.at (ihk1 (IntKind.i64.wrap (i6 + 1)) (H)) (fun _ h => St.sel [] rfl rfl h) ⟨rfl, rfl, rfl, trivial⟩)
      · have H := of_if_f hb H
        refine c_exit ?_
        refine x_qs_exit ?_
        refine x_ql_exit ?_
        refine x_qb_here ?_
        refine x_qs ?_
        refine c_seq ?_
        refine c_reg ?_
        refine ow_batch [.p] rfl ?_
        refine ow_nil ?_
        refine x_qs ?_
        refine c_ret ?_
        exact x_retR (rs := [.tmp 4]) (vs := [.bool true]) rfl ⟨rfl, trivial⟩ (fun w' hw' => by
            obtain rfl := of_some H
            exact ⟨rfl, hw'.ext⟩)

set_option maxHeartbeats 4000000 in
set_option maxRecDepth 100000 in
theorem laws_eqAttr_ok (w : World) {p0 : Timpl_Attr} {p1 : Timpl_Attr} {cs0 : List Value} {cs1 : List Value} {r : Bool} (H : laws_eqAttr p0 p1 = some r)  (g0 : (eTimpl_Attr).rd w [] p0 cs0) (g1 : (eTimpl_Attr).rd w [] p1 cs1) :
    Calls Try.prog 15 #[.agg cs0.toArray, .agg cs1.toArray] w (fun en w' => en = .returned (.bool r) ∧ Ext [] w w') := by
  obtain ⟨c1, c2, c3, rfl, g4, g5, g6⟩ := rdo_Timpl_Attr g0
  obtain rfl : c1 = [vS p0.Name_] := g4
  obtain ⟨a7, c8, rfl⟩ := rd_sl1 g5
  obtain ⟨a9, c10, rfl⟩ := rd_sl1 g6
  obtain ⟨c11, c12, c13, rfl, g14, g15, g16⟩ := rdo_Timpl_Attr g1
  obtain rfl : c11 = [vS p1.Name_] := g14
  obtain ⟨a17, c18, rfl⟩ := rd_sl1 g15
  obtain ⟨a19, c20, rfl⟩ := rd_sl1 g16
  unfold laws_eqAttr at H
  refine f_enter (vs := [.agg #[vS p0.Name_, .slice a7 p0.Cuts_.length c8, .slice a9 p0.Values_.length c10], .agg #[vS p1.Name_, .slice a17 p1.Cuts_.length c18, .slice a19 p1.Values_.length c20]]) Try.func15 rfl Try.ntmps15 rfl (St.init w []) ?_
  refine c_seq ?_
  refine c_reg ?_
  refine ow_box (cs := [vS p0.Name_, .slice a7 p0.Cuts_.length c8, .slice a9 p0.Values_.length c10]) rfl rfl rfl rfl rfl rfl (fun _ => kp) (fun b21 => ?_)
  refine ow_box (cs := [vS p1.Name_, .slice a17 p1.Cuts_.length c18, .slice a19 p1.Values_.length c20]) rfl rfl rfl rfl rfl rfl (fun _ => kp) (fun b22 => ?_)
  refine ow_batch [.p] rfl ?_
  refine ow_nil ?_
  refine x_qs ?_
  refine c_seq ?_
  refine c_seq ?_
  refine c_reg ?_
  refine ow_batch [.fa 28 0 0 fa28_0] rfl ?_
  refine ow_r rfl (dstOk_lt rfl) (ry_box1 (off := 0) rfl rfl ty9 (boxIn (i := 0) rfl) rfl) ?_
  refine ow_batch [.fa 28 0 0 fa28_0] rfl ?_
  refine ow_r rfl (dstOk_lt rfl) (ry_box1 (off := 0) rfl rfl ty9 (boxIn (i := 1) rfl) rfl) ?_
  refine ow_batch [.p] rfl ?_
  refine ow_nil ?_
  refine x_qs ?_
  refine c_if rfl (fun hb => ?_) (fun hb => ?_)
  · have H := of_if_t hb H
    refine c_seq ?_
    refine c_reg ?_
    refine ow_batch [.p] rfl ?_
    refine ow_nil ?_
    refine x_qs ?_
    refine c_ret ?_
    refine x_qs_ret ?_
    exact x_retR (rs := [.tmp 4]) (vs := [.bool false]) rfl ⟨rfl, trivial⟩ (fun w' hw' => by
        obtain rfl := of_some H
        exact ⟨rfl, hw'.ext⟩)
  · have H := of_if_f hb H
    refine c_skip ?_
    refine x_qs ?_
    refine c_seq ?_
    refine c_seq ?_
    refine c_reg ?_
    refine ow_batch [.fa 28 1 1 fa28_1] rfl ?_
    refine ow_r rfl (dstOk_lt rfl) (ry_box1 (off := 1) rfl rfl ty22 (boxIn (i := 0) rfl) rfl) ?_
    refine ow_batch [.fa 28 1 1 fa28_1] rfl ?_
    refine ow_r rfl (dstOk_lt rfl) (ry_box1 (off := 1) rfl rfl ty22 (boxIn (i := 1) rfl) rfl) ?_
    obtain ⟨y23, h24, H⟩ := of_bind H
    refine ow_q rfl rfl (dstOk_lt rfl) (qy_call rfl fn64 rfl (fun w1 hw1 => laws_eqIntS_ok w1  h24 (rds_bor g5 w1 hw1) (rds_bor g15 w1 hw1))) (fun _ _ => trivial) ?_
    refine ow_batch [.p] rfl ?_
    refine ow_nil ?_
    refine x_qs ?_
    refine c_if rfl (fun hb => ?_) (fun hb => ?_)
    · have H := of_if_t hb H
      refine c_seq ?_
      refine c_reg ?_
      refine ow_batch [.p] rfl ?_
      refine ow_nil ?_
      refine x_qs ?_
      refine c_ret ?_
      refine x_qs_ret ?_
      exact x_retR (rs := [.tmp 4]) (vs := [.bool false]) rfl ⟨rfl, trivial⟩ (fun w' hw' => by
          obtain rfl := of_some H
          exact ⟨rfl, hw'.ext⟩)
    · have H := of_if_f hb H
      refine c_skip ?_
      refine x_qs ?_
      refine c_seq ?_
      refine c_seq ?_
      refine c_reg ?_
      refine ow_batch [.fa 28 2 2 fa28_2] rfl ?_
      refine ow_r rfl (dstOk_lt rfl) (ry_box1 (off := 2) rfl rfl ty23 (boxIn (i := 0) rfl) rfl) ?_
      refine ow_batch [.fa 28 2 2 fa28_2] rfl ?_
      refine ow_r rfl (dstOk_lt rfl) (ry_box1 (off := 2) rfl rfl ty23 (boxIn (i := 1) rfl) rfl) ?_
      obtain ⟨y25, h26, H⟩ := of_bind H
      refine ow_q rfl rfl (dstOk_lt rfl) (qy_call rfl fn65 rfl (fun w1 hw1 => laws_eqStringS_ok w1  h26 (rds_bor g6 w1 hw1) (rds_bor g16 w1 hw1))) (fun _ _ => trivial) ?_
      refine ow_batch [.p] rfl ?_
      refine ow_nil ?_
      refine x_qs ?_
      refine c_if rfl (fun hb => ?_) (fun hb => ?_)
      · have H := of_if_t hb H
        refine c_seq ?_
        refine c_reg ?_
        refine ow_batch [.p] rfl ?_
        refine ow_nil ?_
        refine x_qs ?_
        refine c_ret ?_
        refine x_qs_ret ?_
        exact x_retR (rs := [.tmp 4]) (vs := [.bool false]) rfl ⟨rfl, trivial⟩ (fun w' hw' => by
            obtain rfl := of_some H
            exact ⟨rfl, hw'.ext⟩)
      · have H := of_if_f hb H
        refine c_skip ?_
        refine x_qs ?_
        refine c_seq ?_
        refine c_reg ?_
        refine ow_batch [.p] rfl ?_
        refine ow_nil ?_
        refine x_qs ?_
        refine c_ret ?_
        exact x_retR (rs := [.tmp 4]) (vs := [.bool true]) rfl ⟨rfl, trivial⟩ (fun w' hw' => by
            obtain rfl := of_some H
            exact ⟨rfl, hw'.ext⟩)

set_option maxHeartbeats 4000000 in
set_option maxRecDepth 100000 in
theorem laws_FnExactFullMask_ok (w : World) {p0 : Tlaws_Attr} {cs0 : List Value} {r : Bool} (H : laws_FnExactFullMask p0 = some r)  (g0 : (eTlaws_Attr).rd w [] p0 cs0) :
    Calls Try.prog 3 #[.agg cs0.toArray] w (fun en w' => en = .returned (.bool r) ∧ Ext [] w w') := by
  obtain ⟨c1, c2, c3, rfl, g4, g5, g6⟩ := rdo_Tlaws_Attr g0
  obtain rfl : c1 = [vS p0.Name_] := g4
  obtain ⟨a7, c8, rfl⟩ := rd_sl1 g5
  obtain ⟨a9, c10, rfl⟩ := rd_sl1 g6
  unfold laws_FnExactFullMask at H
  refine f_enter (vs := [.agg #[vS p0.Name_, .slice a7 p0.Cuts_.length c8, .slice a9 p0.Values_.length c10]]) Try.func3 rfl Try.ntmps3 rfl (St.init w []) ?_
  refine c_seq ?_
  refine c_reg ?_
  refine ow_box (cs := [vS p0.Name_, .slice a7 p0.Cuts_.length c8, .slice a9 p0.Values_.length c10]) rfl rfl rfl rfl rfl rfl (fun _ => kp) (fun b11 => ?_)
  refine ow_batch [.p] rfl ?_
  refine ow_nil ?_
  refine x_qs ?_
  refine c_seq ?_
  refine c_reg ?_
  refine ow_batch [.p] rfl ?_
  refine ow_nil ?_
  refine x_qs ?_
  refine c_seq ?_
  refine c_reg ?_
  refine ow_r rfl (dstOk_lt rfl) (ry_box (off := 0) (ds := [vS p0.Name_, .slice a7 p0.Cuts_.length c8, .slice a9 p0.Values_.length c10]) rfl rfl ty25 (boxIn (i := 0) rfl) rfl rfl) ?_
  refine ow_batch [.p] rfl ?_
  obtain ⟨y12, h13, H⟩ := of_bind H
  refine ow_q rfl rfl (dstOk_lt rfl) (qy_call rfl fn11 rfl (fun w1 hw1 => laws_szAttr_ok w1 (cs0 := [vS p0.Name_, .slice a7 p0.Cuts_.length c8, .slice a9 p0.Values_.length c10]) h13 (rdm_Tlaws_Attr (x := p0) (c0 := [vS p0.Name_]) (c1 := [.slice a7 p0.Cuts_.length c8]) (c2 := [.slice a9 p0.Values_.length c10]) rfl (rds_bor g5 w1 hw1) (rds_bor g6 w1 hw1)))) (fun _ _ => trivial) ?_
  refine ow_batch [.p] rfl ?_
  refine ow_nil ?_
  refine x_qs ?_
  refine c_seq ?_
  refine c_seq ?_
  refine c_reg ?_
  refine ow_batch [.p, .p] rfl ?_
  refine ow_nil ?_
  refine x_qs ?_
  refine c_if rfl (fun hb => ?_) (fun hb => ?_)
  · have H := of_if_t hb H
    refine c_seq ?_
    refine c_reg ?_
    refine ow_batch [.p] rfl ?_
    refine ow_nil ?_
    refine x_qs ?_
    refine c_ret ?_
    refine x_qs_ret ?_
    exact x_retR (rs := [.tmp 2]) (vs := [.bool true]) rfl ⟨rfl, trivial⟩ (fun w' hw' => by
        obtain rfl := of_some H
        exact ⟨rfl, hw'.ext⟩)
  · have H := of_if_f hb H
    refine c_skip ?_
    refine x_qs ?_
    refine c_seq ?_
    refine c_reg ?_
    refine ow_r rfl (dstOk_lt rfl) (ry_box (off := 0) (ds := [vS p0.Name_, .slice a7 p0.Cuts_.length c8, .slice a9 p0.Values_.length c10]) rfl rfl ty25 (boxIn (i := 0) rfl) rfl rfl) ?_
    obtain ⟨y14, h15, H⟩ := of_bind H
    refine ow_callS rfl fn13 rfl rfl rfl rfl (fun w1 hw1 => laws_toAttr_ok w1 (cs0 := [vS p0.Name_, .slice a7 p0.Cuts_.length c8, .slice a9 p0.Values_.length c10]) h15 (hw1.carve [] rfl rfl) (rdm_Tlaws_Attr (x := p0) (c0 := [vS p0.Name_]) (c1 := [.slice a7 p0.Cuts_.length c8]) (c2 := [.slice a9 p0.Values_.length c10]) rfl (rds_bor g5 w1 hw1) (rds_bor g6 w1 hw1))) (fun v16 w1 w2 hw1 hR18 => ?_)
    obtain ⟨a19, n20, c21, F22, a23, n24, c25, F26, rfl, hS17⟩ := hR18
    obtain rfl := own_nS (i := 0) hS17 rfl
    obtain rfl := own_nS (i := 1) hS17 rfl
    refine ⟨St w [] [_, _, _], hw1.comp [] rfl rfl hS17, fun _ _ => trivial, ?_⟩
    obtain ⟨y27, h28, H⟩ := of_bind H
    refine ow_q rfl rfl (dstOk_lt rfl) (qy_call rfl fn12 rfl (fun w1 hw1 => spec_FullMask_ok w1 (cs0 := [vS y14.Name_, .slice a19 y14.Cuts_.length c21, .slice a23 y14.Values_.length c25]) h28 (rdm_Timpl_Attr (x := y14) (c0 := [vS y14.Name_]) (c1 := [.slice a19 y14.Cuts_.length c21]) (c2 := [.slice a23 y14.Values_.length c25]) rfl (rds_own (r := 1) rfl w1 hw1) (rds_own (r := 2) rfl w1 hw1)))) (fun _ _ => trivial) ?_
    refine ow_batch [.p] rfl ?_
    refine ow_nil ?_
    refine x_qs ?_
    refine c_seq ?_
    refine c_reg ?_
    refine ow_r rfl (dstOk_lt rfl) (ry_box (off := 0) (ds := [vS p0.Name_, .slice a7 p0.Cuts_.length c8, .slice a9 p0.Values_.length c10]) rfl rfl ty25 (boxIn (i := 0) rfl) rfl rfl) ?_
    obtain ⟨y29, h30, H⟩ := of_bind H
    refine ow_callS rfl fn13 rfl rfl rfl rfl (fun w1 hw1 => laws_toAttr_ok w1 (cs0 := [vS p0.Name_, .slice a7 p0.Cuts_.length c8, .slice a9 p0.Values_.length c10]) h30 (hw1.carve [] rfl rfl) (rdm_Tlaws_Attr (x := p0) (c0 := [vS p0.Name_]) (c1 := [.slice a7 p0.Cuts_.length c8]) (c2 := [.slice a9 p0.Values_.length c10]) rfl (rds_bor g5 w1 hw1) (rds_bor g6 w1 hw1))) (fun v31 w1 w2 hw1 hR33 => ?_)
    obtain ⟨a34, n35, c36, F37, a38, n39, c40, F41, rfl, hS32⟩ := hR33
    obtain rfl := own_nS (i := 0) hS32 rfl
    obtain rfl := own_nS (i := 1) hS32 rfl
    refine ⟨St w [] [_, _, _, _, _], hw1.comp [] rfl rfl hS32, fun _ _ => trivial, ?_⟩
    refine ow_alloc rfl rfl rfl rfl ty28 (fun _ => kp) (fun b42 => ?_)
    refine ow_storeC (off := 0) [vS y29.Name_, .slice a34 y29.Cuts_.length c36, .slice a38 y29.Values_.length c40] [_, _, _] (i := 5) rfl rfl rfl rfl rfl rfl ty28 rfl rfl (by intro u hu; simp only [List.mem_cons, List.not_mem_nil, or_false] at hu; rcases hu with rfl | rfl | rfl <;> rfl) rfl rfl rfl kp ?_
    refine ow_nil ?_
    refine x_qs ?_
    refine c_seq ?_
    refine c_reg ?_
    refine ow_r rfl (dstOk_lt rfl) (ry_box (off := 0) (ds := [vS y29.Name_, .slice a34 y29.Cuts_.length c36, .slice a38 y29.Values_.length c40]) rfl rfl ty28 (boxIn (i := 5) rfl) rfl rfl) ?_
    obtain ⟨y43, h44, H⟩ := of_bind H
    refine ow_q rfl rfl (dstOk_lt rfl) (qy_call rfl fn14 rfl (fun w1 hw1 => impl_FullMask_ok w1 (cs0 := [vS y29.Name_, .slice a34 y29.Cuts_.length c36, .slice a38 y29.Values_.length c40]) h44 (rdm_Timpl_Attr (x := y29) (c0 := [vS y29.Name_]) (c1 := [.slice a34 y29.Cuts_.length c36]) (c2 := [.slice a38 y29.Values_.length c40]) rfl (rds_own (r := 3) rfl w1 hw1) (rds_own (r := 4) rfl w1 hw1)))) (fun _ _ => trivial) ?_
    refine ow_batch [.p] rfl ?_
    refine ow_nil ?_
    refine x_qs ?_
    refine c_seq ?_
    refine c_seq ?_
    refine c_reg ?_
    refine ow_batch [.p, .p, .p] rfl ?_
    refine ow_nil ?_
    refine x_qs ?_
    refine c_if rfl (fun hb => ?_) (fun hb => ?_)
    · have H := of_if_t hb H
      refine c_seq ?_
      refine c_reg ?_
      refine ow_batch [.p] rfl ?_
      refine ow_nil ?_
      refine x_qs ?_
      refine c_ret ?_
      refine x_qs_ret ?_
      exact x_retR (rs := [.tmp 2]) (vs := [.bool false]) rfl ⟨rfl, trivial⟩ (fun w' hw' => by
          obtain rfl := of_some H
          exact ⟨rfl, hw'.ext⟩)
    · have H := of_if_f hb H
      refine c_skip ?_
      refine x_qs ?_
      refine c_seq ?_
      refine c_seq ?_
      refine c_regHT 3 [(0, true), (1, true), (2, false)] (St w [] [Res.box b11 25 [vS p0.Name_, .slice a7 p0.Cuts_.length c8, .slice a9 p0.Values_.length c10], Res.own (eList (eVal (Value.int .i64) (fun _ => rfl)) 3) F22 y14.Cuts_ [.slice a19 y14.Cuts_.length c21], Res.own (eList (eStr) 9) F26 y14.Values_ [.slice a23 y14.Values_.length c25], Res.own (eList (eVal (Value.int .i64) (fun _ => rfl)) 3) F37 y29.Cuts_ [.slice a34 y29.Cuts_.length c36], Res.own (eList (eStr) 9) F41 y29.Values_ [.slice a38 y29.Values_.length c40], Res.box b42 28 [vS y29.Name_, .slice a34 y29.Cuts_.length c36, .slice a38 y29.Values_.length c40]]) mixed (by kernel_rfl) (panicOk_qs (panicOk_qs panicOk_body)) (fun _ h => St.mask [true, true, true, true, true, true] rfl h) ?_
      refine ow_rH rfl (dstOk_lt rfl) (ry_box (off := 0) (ds := [vS y29.Name_, .slice a34 y29.Cuts_.length c36, .slice a38 y29.Values_.length c40]) rfl rfl ty28 (boxIn (i := 5) rfl) rfl rfl) ?_
      refine ow_rH rfl (dstOk_lt rfl) (ry_box (off := 0) (ds := [vS p0.Name_, .slice a7 p0.Cuts_.length c8, .slice a9 p0.Values_.length c10]) rfl rfl ty25 (boxIn (i := 0) rfl) rfl rfl) ?_
      obtain ⟨y58, h59, H⟩ := of_bind H
      refine ow_callS rfl fn13 rfl rfl rfl rfl (fun w1 hw1 => laws_toAttr_ok w1 (cs0 := [vS p0.Name_, .slice a7 p0.Cuts_.length c8, .slice a9 p0.Values_.length c10]) h59 (hw1.carve [] rfl rfl) (rdm_Tlaws_Attr (x := p0) (c0 := [vS p0.Name_]) (c1 := [.slice a7 p0.Cuts_.length c8]) (c2 := [.slice a9 p0.Values_.length c10]) rfl (rds_bor g5 w1 hw1) (rds_bor g6 w1 hw1))) (fun v60 w1 w2 hw1 hR62 => ?_)
      obtain ⟨a63, n64, c65, F66, a67, n68, c69, F70, rfl, hS61⟩ := hR62
      obtain rfl := own_nS (i := 0) hS61 rfl
      obtain rfl := own_nS (i := 1) hS61 rfl
      refine ⟨St w [] [_, _, _, _, _, _, _, _], hw1.comp [] rfl rfl hS61, (fun _ h => St.mask [true, true, true, true, true, true] rfl h), ?_⟩
      refine ow_nilH ?_
      refine x_qt ?_
      obtain ⟨y71, h72, H⟩ := of_bind H
      refine ow_q rfl rfl (dstOk_lt rfl) (qy_call rfl fn15 rfl (fun w1 hw1 => laws_eqAttr_ok w1 (cs0 := [vS y29.Name_, .slice a34 y29.Cuts_.length c36, .slice a38 y29.Values_.length c40]) (cs1 := [vS y58.Name_, .slice a63 y58.Cuts_.length c65, .slice a67 y58.Values_.length c69]) h72 (rdm_Timpl_Attr (x := y29) (c0 := [vS y29.Name_]) (c1 := [.slice a34 y29.Cuts_.length c36]) (c2 := [.slice a38 y29.Values_.length c40]) rfl (rds_own (r := 3) rfl w1 hw1) (rds_own (r := 4) rfl w1 hw1)) (rdm_Timpl_Attr (x := y58) (c0 := [vS y58.Name_]) (c1 := [.slice a63 y58.Cuts_.length c65]) (c2 := [.slice a67 y58.Values_.length c69]) rfl (rds_own (r := 6) rfl w1 hw1) (rds_own (r := 7) rfl w1 hw1)))) (fun _ _ => trivial) ?_
      refine ow_batch [.p] rfl ?_
      refine ow_nil ?_
      refine x_qs ?_
      refine c_if rfl (fun hb => ?_) (fun hb => ?_)
      · have H := of_if_t hb H
        refine c_seq ?_
        refine c_reg ?_
        refine ow_batch [.p] rfl ?_
        refine ow_nil ?_
        refine x_qs ?_
        refine c_ret ?_
        refine x_qs_ret ?_
        exact x_retR (rs := [.tmp 2]) (vs := [.bool false]) rfl ⟨rfl, trivial⟩ (fun w' hw' => by
            obtain rfl := of_some H
            exact ⟨rfl, hw'.ext⟩)
      · have H := of_if_f hb H
        refine c_skip ?_
        refine x_qs ?_
        refine c_seq ?_
        refine c_reg ?_
        refine ow_batch [.p] rfl ?_
        refine ow_nil ?_
        refine x_qs ?_
        refine c_ret ?_
        exact x_retR (rs := [.tmp 2]) (vs := [.bool true]) rfl ⟨rfl, trivial⟩ (fun w' hw' => by
            obtain rfl := of_some H
            exact ⟨rfl, hw'.ext⟩)

end Go.Vk
