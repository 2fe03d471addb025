/- The code does what the functions of data say. Printed by program. -/

import Derived.Test.YtkhdakkhmikfcaaRF

import Derived.Test.YtkhdakkhmikfcaaChecked

namespace Go.Vk

open Go.Proofs Go.RowKit



def eTlaws_Pair : Enc Tlaws_Pair := eFlat (fun x => [.int .i64 x.Truth_, .int .i64 x.Said_]) 2 (fun _ => rfl) (by intro x u hu; simp only [List.mem_cons, List.not_mem_nil, or_false] at hu; rcases hu with rfl | rfl <;> rfl)

def eTlaws_Score : Enc Tlaws_Score := eIso (ePair (eList (eList (eVal (Value.int .i64) (fun _ => rfl)) 3) 53) (eList (eTlaws_Pair) 75)) (fun x => (x.Table_, x.Last_))

theorem rdm_Tlaws_Score {w : World} {X : List Nat} {x : Tlaws_Score} {c0 c1 : List Value} (h0 : (eList (eList (eVal (Value.int .i64) (fun _ => rfl)) 3) 53).rd w X x.Table_ c0) (h1 : (eList (eTlaws_Pair) 75).rd w X x.Last_ c1) : (eTlaws_Score).rd w X x (c0 ++ c1) := by
  show (ePair (eList (eList (eVal (Value.int .i64) (fun _ => rfl)) 3) 53) (eList (eTlaws_Pair) 75)).rd w X (x.Table_, x.Last_) _
  exact (ePair_rd h0 h1)

theorem rdo_Tlaws_Score {w : World} {X : List Nat} {x : Tlaws_Score} {cs : List Value} (h : (eTlaws_Score).rd w X x cs) : ∃ c0 c1, cs = (c0 ++ c1) ∧ (eList (eList (eVal (Value.int .i64) (fun _ => rfl)) 3) 53).rd w X x.Table_ c0 ∧ (eList (eTlaws_Pair) 75).rd w X x.Last_ c1 := by
  have h : (ePair (eList (eList (eVal (Value.int .i64) (fun _ => rfl)) 3) 53) (eList (eTlaws_Pair) 75)).rd w X (x.Table_, x.Last_) cs := h
  obtain ⟨c0, c1, rfl, h0, h1⟩ := h
  exact ⟨c0, c1, rfl, h0, h1⟩

def eTimpl_Pair : Enc Timpl_Pair := eFlat (fun x => [.int .i64 x.Truth_, .int .i64 x.Said_]) 2 (fun _ => rfl) (by intro x u hu; simp only [List.mem_cons, List.not_mem_nil, or_false] at hu; rcases hu with rfl | rfl <;> rfl)

def eTimpl_Score : Enc Timpl_Score := eIso (ePair (eList (eList (eVal (Value.int .i64) (fun _ => rfl)) 3) 53) (eList (eTimpl_Pair) 60)) (fun x => (x.Table_, x.Last_))

theorem rdm_Timpl_Score {w : World} {X : List Nat} {x : Timpl_Score} {c0 c1 : List Value} (h0 : (eList (eList (eVal (Value.int .i64) (fun _ => rfl)) 3) 53).rd w X x.Table_ c0) (h1 : (eList (eTimpl_Pair) 60).rd w X x.Last_ c1) : (eTimpl_Score).rd w X x (c0 ++ c1) := by
  show (ePair (eList (eList (eVal (Value.int .i64) (fun _ => rfl)) 3) 53) (eList (eTimpl_Pair) 60)).rd w X (x.Table_, x.Last_) _
  exact (ePair_rd h0 h1)

theorem rdo_Timpl_Score {w : World} {X : List Nat} {x : Timpl_Score} {cs : List Value} (h : (eTimpl_Score).rd w X x cs) : ∃ c0 c1, cs = (c0 ++ c1) ∧ (eList (eList (eVal (Value.int .i64) (fun _ => rfl)) 3) 53).rd w X x.Table_ c0 ∧ (eList (eTimpl_Pair) 60).rd w X x.Last_ c1 := by
  have h : (ePair (eList (eList (eVal (Value.int .i64) (fun _ => rfl)) 3) 53) (eList (eTimpl_Pair) 60)).rd w X (x.Table_, x.Last_) cs := h
  obtain ⟨c0, c1, rfl, h0, h1⟩ := h
  exact ⟨c0, c1, rfl, h0, h1⟩

def kfTimpl_Pair (x : Timpl_Pair) : List Value := [.int .i64 x.Truth_, .int .i64 x.Said_]

theorem ke60 : ∀ a b : Timpl_Pair, eqSB Try.prog 60 (kfTimpl_Pair a) (kfTimpl_Pair b) = some (a.Truth_ == b.Truth_ && (a.Said_ == b.Said_ && true)) := by
  intro a b
  kernel_rfl

theorem ko60 : KeyOk Try.prog 60 kfTimpl_Pair := keyOk_of ke60 (by intro a b; cases a; cases b; rw [Bool.eq_iff_iff]; simp) (by intro a; simp [kfTimpl_Pair, Instr.sameBits]) (by kernel_rfl)

theorem sl53 : isSl Try.prog 53 3 := isSl_of (by kernel_rfl)

theorem sl22 : isSl Try.prog 22 53 := isSl_of (by kernel_rfl)

theorem ty53 : isTy Try.prog 53 false 1 24 [.slice none 0 0] := isTy_of (by kernel_rfl)

theorem fn60 : isFn Try.prog 60 := ⟨Try.f60, Try.func60, rfl, by decide⟩

theorem sl23 : isSl Try.prog 23 75 := isSl_of (by kernel_rfl)

theorem fa25_0 : isFa Try.prog 25 0 0 := isFa_of (by kernel_rfl)

theorem ty22 : isTy Try.prog 22 false 1 24 [.slice none 0 0] := isTy_of (by kernel_rfl)

theorem fn35 : isFn Try.prog 35 := ⟨Try.f35, Try.func35, rfl, by decide⟩

theorem fa25_1 : isFa Try.prog 25 1 1 := isFa_of (by kernel_rfl)

theorem ty23 : isTy Try.prog 23 false 1 24 [.slice none 0 0] := isTy_of (by kernel_rfl)

theorem fn36 : isFn Try.prog 36 := ⟨Try.f36, Try.func36, rfl, by decide⟩

theorem ty3 : isTy Try.prog 3 false 1 8 [.int .i64 0] := isTy_of (by kernel_rfl)

theorem fn61 : isFn Try.prog 61 := ⟨Try.f61, Try.func61, rfl, by decide⟩

theorem ty60 : isTy Try.prog 60 true 2 16 [.int .i64 0, .int .i64 0] := isTy_of (by kernel_rfl)

theorem fa75_0 : isFa Try.prog 75 0 0 := isFa_of (by kernel_rfl)

theorem fa60_0 : isFa Try.prog 60 0 0 := isFa_of (by kernel_rfl)

theorem fa75_1 : isFa Try.prog 75 1 1 := isFa_of (by kernel_rfl)

theorem fa60_1 : isFa Try.prog 60 1 1 := isFa_of (by kernel_rfl)

theorem sl28 : isSl Try.prog 28 60 := isSl_of (by kernel_rfl)

theorem ty75 : isTy Try.prog 75 true 2 16 [.int .i64 0, .int .i64 0] := isTy_of (by kernel_rfl)

theorem fn62 : isFn Try.prog 62 := ⟨Try.f62, Try.func62, rfl, by decide⟩

theorem ty30 : isTy Try.prog 30 true 2 48 [.slice none 0 0, .slice none 0 0] := isTy_of (by kernel_rfl)

theorem fn37 : isFn Try.prog 37 := ⟨Try.f37, Try.func37, rfl, by decide⟩

theorem fa30_0 : isFa Try.prog 30 0 0 := isFa_of (by kernel_rfl)

theorem fn38 : isFn Try.prog 38 := ⟨Try.f38, Try.func38, rfl, by decide⟩

theorem fa30_1 : isFa Try.prog 30 1 1 := isFa_of (by kernel_rfl)

theorem ty28 : isTy Try.prog 28 false 1 24 [.slice none 0 0] := isTy_of (by kernel_rfl)

theorem fn45 : isFn Try.prog 45 := ⟨Try.f45, Try.func45, rfl, by decide⟩

theorem mixed : Try.prog.follows .mixedOrders = true := by kernel_rfl

theorem fn41 : isFn Try.prog 41 := ⟨Try.f41, Try.func41, rfl, by decide⟩

theorem fn57 : isFn Try.prog 57 := ⟨Try.f57, Try.func57, rfl, by decide⟩

theorem fn33 : isFn Try.prog 33 := ⟨Try.f33, Try.func33, rfl, by decide⟩

theorem fn42 : isFn Try.prog 42 := ⟨Try.f42, Try.func42, rfl, by decide⟩

theorem fn47 : isFn Try.prog 47 := ⟨Try.f47, Try.func47, rfl, by decide⟩

theorem fn44 : isFn Try.prog 44 := ⟨Try.f44, Try.func44, rfl, by decide⟩

theorem fn59 : isFn Try.prog 59 := ⟨Try.f59, Try.func59, rfl, by decide⟩

theorem fn76 : isFn Try.prog 76 := ⟨Try.f76, Try.func76, rfl, by decide⟩

theorem fn58 : isFn Try.prog 58 := ⟨Try.f58, Try.func58, rfl, by decide⟩

theorem fn43 : isFn Try.prog 43 := ⟨Try.f43, Try.func43, rfl, by decide⟩

theorem iz3 : isZ0 Try.prog 3 := isZ0_of (by kernel_rfl)

theorem mt71 : isMap Try.prog 71 60 3 := (by kernel_rfl : Try.prog.underlying 71 = some (.map 60 3))

theorem fn34 : isFn Try.prog 34 := ⟨Try.f34, Try.func34, rfl, by decide⟩

theorem fn63 : isFn Try.prog 63 := ⟨Try.f63, Try.func63, rfl, by decide⟩

theorem fn64 : isFn Try.prog 64 := ⟨Try.f64, Try.func64, rfl, by decide⟩

theorem fn39 : isFn Try.prog 39 := ⟨Try.f39, Try.func39, rfl, by decide⟩

theorem fn40 : isFn Try.prog 40 := ⟨Try.f40, Try.func40, rfl, by decide⟩

theorem ty25 : isTy Try.prog 25 true 2 48 [.slice none 0 0, .slice none 0 0] := isTy_of (by kernel_rfl)

theorem fn11 : isFn Try.prog 11 := ⟨Try.f11, Try.func11, rfl, by decide⟩

theorem fn13 : isFn Try.prog 13 := ⟨Try.f13, Try.func13, rfl, by decide⟩

theorem fn18 : isFn Try.prog 18 := ⟨Try.f18, Try.func18, rfl, by decide⟩

theorem fn15 : isFn Try.prog 15 := ⟨Try.f15, Try.func15, rfl, by decide⟩

theorem fs30 : isFs Try.prog 30 [(0, 1), (1, 1)] := isFs_of (by kernel_rfl)

theorem fn49 : isFn Try.prog 49 := ⟨Try.f49, Try.func49, rfl, by decide⟩

theorem fs60 : isFs Try.prog 60 [(0, 1), (1, 1)] := isFs_of (by kernel_rfl)

theorem fn81 : isFn Try.prog 81 := ⟨Try.f81, Try.func81, rfl, by decide⟩

theorem fn67 : isFn Try.prog 67 := ⟨Try.f67, Try.func67, rfl, by decide⟩

theorem fn68 : isFn Try.prog 68 := ⟨Try.f68, Try.func68, rfl, by decide⟩

theorem fn50 : isFn Try.prog 50 := ⟨Try.f50, Try.func50, rfl, by decide⟩

theorem fn51 : isFn Try.prog 51 := ⟨Try.f51, Try.func51, rfl, by decide⟩

theorem fn69 : isFn Try.prog 69 := ⟨Try.f69, Try.func69, rfl, by decide⟩

theorem fn52 : isFn Try.prog 52 := ⟨Try.f52, Try.func52, rfl, by decide⟩

theorem fn53 : isFn Try.prog 53 := ⟨Try.f53, Try.func53, rfl, by decide⟩

theorem fn70 : isFn Try.prog 70 := ⟨Try.f70, Try.func70, rfl, by decide⟩

theorem fn54 : isFn Try.prog 54 := ⟨Try.f54, Try.func54, rfl, by decide⟩

theorem fn55 : isFn Try.prog 55 := ⟨Try.f55, Try.func55, rfl, by decide⟩

theorem fn27 : isFn Try.prog 27 := ⟨Try.f27, Try.func27, rfl, by decide⟩

theorem fn28 : isFn Try.prog 28 := ⟨Try.f28, Try.func28, rfl, by decide⟩

theorem bl4 : isBl Try.prog 4 := isBl_of (by kernel_rfl)

theorem fn29 : isFn Try.prog 29 := ⟨Try.f29, Try.func29, rfl, by decide⟩

theorem fn30 : isFn Try.prog 30 := ⟨Try.f30, Try.func30, rfl, by decide⟩

set_option maxHeartbeats 4000000 in
set_option maxRecDepth 100000 in
theorem laws_szIntS_ok (w : World) {p0 : List Int} {p1 : Int} {a_0 : Option Addr} {n_0 c_0 : Nat} {r : Int} (H : laws_szIntS p0 p1 = some r)  (g0 : (eList (eVal (Value.int .i64) (fun _ => rfl)) 3).rd w [] p0 [.slice a_0 n_0 c_0]) :
    Calls Try.prog 60 #[.slice a_0 n_0 c_0, .int .i64 p1] w (fun en w' => en = .returned (.int .i64 r) ∧ Ext [] w w') := by
  obtain rfl := rd_n g0
  unfold laws_szIntS at H
  refine f_enter (vs := [.slice a_0 p0.length c_0, .int .i64 p1]) Try.func60 rfl Try.ntmps60 rfl (St.init w []) ?_
  refine c_seq ?_
  refine c_reg ?_
  refine ow_batch [.p] rfl ?_
  refine ow_nil ?_
  refine x_qs ?_
  refine c_seq ?_
  refine c_reg ?_
  refine ow_batch [.p, .p, .lenS 53 3 sl53, .p, .p] rfl ?_
  refine ow_nil ?_
  refine x_qs ?_
  refine c_seq ?_
  refine c_seq ?_
  refine c_reg ?_
  refine ow_batch [.p, .p] rfl ?_
  refine ow_nil ?_
  refine x_qs ?_
  refine c_if rfl (fun hb => ?_) (fun hb => ?_)
  · have H := of_if_t hb H
    refine c_seq ?_
    refine c_reg ?_
    refine ow_batch [.p] rfl ?_
    refine ow_nil ?_
    refine x_qs ?_
    refine c_ret ?_
    refine x_qs_ret ?_
    exact x_retR (rs := [.tmp 4]) (vs := [.int .i64 (-1)]) rfl ⟨rfl, trivial⟩ (fun w' hw' => by
        obtain rfl := of_some H
        exact ⟨rfl, hw'.ext⟩)
  · have H := of_if_f hb H
    refine c_skip ?_
    refine x_qs ?_
    refine c_seq ?_
    refine c_reg ?_
    refine ow_batch [.p, .p] rfl ?_
    refine ow_nil ?_
    refine x_qs ?_
    refine c_ret ?_
    exact x_retR (rs := [.tmp 4]) (vs := [.int .i64 (IntKind.i64.wrap (p1 - (p0.length : Int)))]) rfl ⟨rfl, trivial⟩ (fun w' hw' => by
        obtain rfl := of_some H
        exact ⟨rfl, hw'.ext⟩)

set_option maxHeartbeats 4000000 in
set_option maxRecDepth 100000 in
theorem laws_szIntSS_ok (w : World) {p0 : List (List Int)} {p1 : Int} {a_0 : Option Addr} {n_0 c_0 : Nat} {r : Int} (H : laws_szIntSS p0 p1 = some r)  (g0 : (eList (eList (eVal (Value.int .i64) (fun _ => rfl)) 3) 53).rd w [] p0 [.slice a_0 n_0 c_0]) :
    Calls Try.prog 35 #[.slice a_0 n_0 c_0, .int .i64 p1] w (fun en w' => en = .returned (.int .i64 r) ∧ Ext [] w w') := by
  obtain rfl := rd_n g0
  unfold laws_szIntSS at H
  refine f_enter (vs := [.slice a_0 p0.length c_0, .int .i64 p1]) Try.func35 rfl Try.ntmps35 rfl (St.init w []) ?_
  refine c_seq ?_
  refine c_reg ?_
  refine ow_batch [.p] rfl ?_
  refine ow_nil ?_
  refine x_qs ?_
  refine c_seq ?_
  refine c_reg ?_
  refine ow_batch [.p, .p, .lenS 22 53 sl22, .p, .p] rfl ?_
  refine ow_nil ?_
  refine x_qs ?_
  refine c_seq ?_
  refine c_seq ?_
  refine c_reg ?_
  refine ow_batch [.p, .p] rfl ?_
  refine ow_nil ?_
  refine x_qs ?_
  refine c_if rfl (fun hb => ?_) (fun hb => ?_)
  · have H := of_if_t hb H
    refine c_seq ?_
    refine c_reg ?_
    refine ow_batch [.p] rfl ?_
    refine ow_nil ?_
    refine x_qs ?_
    refine c_ret ?_
    refine x_qs_ret ?_
    exact x_retR (rs := [.tmp 4]) (vs := [.int .i64 (-1)]) rfl ⟨rfl, trivial⟩ (fun w' hw' => by
        obtain rfl := of_some H
        exact ⟨rfl, hw'.ext⟩)
  · have H := of_if_f hb H
    refine c_skip ?_
    refine x_qs ?_
    refine c_seq ?_
    refine c_seq ?_
    refine c_reg ?_
    refine ow_batch [.p] rfl ?_
    refine ow_nil ?_
    refine x_qs ?_
    refine c_block ?_
    refine CW.at (loopI2 (fun (i13 : Int) (i14 : Int) => St w [] []) (fun (i13 : Int) (i14 : Int) => [(0, .slice a_0 p0.length c_0), (1, .int .i64 i13), (5, .int .i64 i14)]) (fun kk => fun (i13 : Int) (i14 : Int) => laws_szIntSS_L1 p0 kk i13 i14 = some r) (fun _ _ H => ?_) (fun k1 ihk1 i13 i14 H => ?_) Fuel (IntKind.i64.wrap (p1 - (p0.length : Int))) (0) (H)) (fun _ h => St.sel [] rfl rfl h) ⟨rfl, rfl, rfl,  trivial⟩
    · unfold laws_szIntSS_L1 at H
      exact absurd H (by simp)
    · unfold laws_szIntSS_L1 at H
      refine c_seq ?_
      refine c_seq ?_
      refine c_reg ?_
      refine ow_batch [.p, .p, .lenS 22 53 sl22, .p] rfl ?_
      refine ow_nil ?_
      refine x_qs ?_
      refine c_if rfl (fun hb => ?_) (fun hb => ?_)
      · have H := of_if_t hb H
        refine c_skip ?_
        refine x_qs ?_
        refine c_seq ?_
        refine c_block ?_
        refine c_seq ?_
        refine c_reg ?_
        refine ow_batch [.p, .p] rfl ?_
        obtain ⟨e27, h28, H⟩ := of_bind H
        refine ow_ixB rfl rfl rfl rfl rfl sl22 ty53 rfl g0 h28 (fun q31 c32 hd29 hA30 => ?_)
        obtain ⟨a33, c34, rfl⟩ := rd_sl1 hd29
        refine ow_r rfl (dstOk_lt rfl) (ry_load1 rfl rfl ty53 (at_bor bor hA30)) ?_
        refine ow_batch [.p] rfl ?_
        obtain ⟨y35, h36, H⟩ := of_bind H
        refine ow_q rfl rfl (dstOk_lt rfl) (qy_call rfl fn60 rfl (fun w1 hw1 => laws_szIntS_ok w1  h36 (rds_bor hd29 w1 hw1))) (fun _ _ => trivial) ?_
        refine ow_batch [.p] rfl ?_
        refine ow_nil ?_
        refine x_qs ?_
        refine c_seq ?_
        refine c_reg ?_
        refine ow_batch [.p, .p] rfl ?_
        refine ow_nil ?_
        refine x_qs ?_
        refine c_if rfl (fun hb => ?_) (fun hb => ?_)
        · have H := of_if_t hb H
          refine c_seq ?_
          refine c_reg ?_
          refine ow_batch [.p] rfl ?_
          refine ow_nil ?_
          refine x_qs ?_
          refine c_ret ?_
          refine x_qb_ret ?_
          refine x_qs_ret ?_
          refine x_ql_ret ?_
          refine x_qb_ret ?_
          refine x_qs_ret ?_
          exact x_retR (rs := [.tmp 4]) (vs := [.int .i64 (-1)]) rfl ⟨rfl, trivial⟩ (fun w' hw' => by
              obtain rfl := of_some H
              exact ⟨rfl, hw'.ext⟩)
        · have H := of_if_f hb H
          refine c_skip ?_
          refine x_qb ?_
          refine x_qs ?_
          refine c_reg ?_
          refine ow_batch [.p, .p, .p] rfl ?_
          refine ow_nil ?_
          exact x_ql (RW.at (ihk1 (y35) (IntKind.i64.wrap (i14 + 1)) (H)) (fun _ h => St.sel [] rfl rfl h) ⟨rfl, rfl, rfl, trivial⟩)
      · have H := of_if_f hb H
        refine c_exit ?_
        refine x_qs_exit ?_
        refine x_ql_exit ?_
        refine x_qb_here ?_
        refine x_qs ?_
        refine c_seq ?_
        refine c_reg ?_
        refine ow_batch [.p, .p] rfl ?_
        refine ow_nil ?_
        refine x_qs ?_
        refine c_ret ?_
        exact x_retR (rs := [.tmp 4]) (vs := [.int .i64 i13]) rfl ⟨rfl, trivial⟩ (fun w' hw' => by
            obtain rfl := of_some H
            exact ⟨rfl, hw'.ext⟩)

set_option maxHeartbeats 4000000 in
set_option maxRecDepth 100000 in
theorem laws_szPairS_ok (w : World) {p0 : List Tlaws_Pair} {p1 : Int} {a_0 : Option Addr} {n_0 c_0 : Nat} {r : Int} (H : laws_szPairS p0 p1 = some r)  (g0 : (eList (eTlaws_Pair) 75).rd w [] p0 [.slice a_0 n_0 c_0]) :
    Calls Try.prog 36 #[.slice a_0 n_0 c_0, .int .i64 p1] w (fun en w' => en = .returned (.int .i64 r) ∧ Ext [] w w') := by
  obtain rfl := rd_n g0
  unfold laws_szPairS at H
  refine f_enter (vs := [.slice a_0 p0.length c_0, .int .i64 p1]) Try.func36 rfl Try.ntmps36 rfl (St.init w []) ?_
  refine c_seq ?_
  refine c_reg ?_
  refine ow_batch [.p] rfl ?_
  refine ow_nil ?_
  refine x_qs ?_
  refine c_seq ?_
  refine c_reg ?_
  refine ow_batch [.p, .p, .lenS 23 75 sl23, .p, .p] rfl ?_
  refine ow_nil ?_
  refine x_qs ?_
  refine c_seq ?_
  refine c_seq ?_
  refine c_reg ?_
  refine ow_batch [.p, .p] rfl ?_
  refine ow_nil ?_
  refine x_qs ?_
  refine c_if rfl (fun hb => ?_) (fun hb => ?_)
  · have H := of_if_t hb H
    refine c_seq ?_
    refine c_reg ?_
    refine ow_batch [.p] rfl ?_
    refine ow_nil ?_
    refine x_qs ?_
    refine c_ret ?_
    refine x_qs_ret ?_
    exact x_retR (rs := [.tmp 4]) (vs := [.int .i64 (-1)]) rfl ⟨rfl, trivial⟩ (fun w' hw' => by
        obtain rfl := of_some H
        exact ⟨rfl, hw'.ext⟩)
  · have H := of_if_f hb H
    refine c_skip ?_
    refine x_qs ?_
    refine c_seq ?_
    refine c_reg ?_
    refine ow_batch [.p, .p] rfl ?_
    refine ow_nil ?_
    refine x_qs ?_
    refine c_ret ?_
    exact x_retR (rs := [.tmp 4]) (vs := [.int .i64 (IntKind.i64.wrap (p1 - (p0.length : Int)))]) rfl ⟨rfl, trivial⟩ (fun w' hw' => by
        obtain rfl := of_some H
        exact ⟨rfl, hw'.ext⟩)

set_option maxHeartbeats 4000000 in
set_option maxRecDepth 100000 in
theorem laws_szScore_ok (w : World) {p0 : Tlaws_Score} {p1 : Int} {cs0 : List Value} {r : Int} (H : laws_szScore p0 p1 = some r)  (g0 : (eTlaws_Score).rd w [] p0 cs0) :
    Calls Try.prog 11 #[.agg cs0.toArray, .int .i64 p1] w (fun en w' => en = .returned (.int .i64 r) ∧ Ext [] w w') := by
  obtain ⟨c1, c2, rfl, g3, g4⟩ := rdo_Tlaws_Score g0
  obtain ⟨a5, c6, rfl⟩ := rd_sl1 g3
  obtain ⟨a7, c8, rfl⟩ := rd_sl1 g4
  unfold laws_szScore at H
  refine f_enter (vs := [.agg #[.slice a5 p0.Table_.length c6, .slice a7 p0.Last_.length c8], .int .i64 p1]) Try.func11 rfl Try.ntmps11 rfl (St.init w []) ?_
  refine c_seq ?_
  refine c_reg ?_
  refine ow_box (cs := [.slice a5 p0.Table_.length c6, .slice a7 p0.Last_.length c8]) rfl rfl rfl rfl rfl rfl (fun _ => kp) (fun b9 => ?_)
  refine ow_batch [.p] rfl ?_
  refine ow_nil ?_
  refine x_qs ?_
  refine c_seq ?_
  refine c_reg ?_
  refine ow_batch [.fa 25 0 0 fa25_0] rfl ?_
  refine ow_r rfl (dstOk_lt rfl) (ry_box1 (off := 0) rfl rfl ty22 (boxIn (i := 0) rfl) rfl) ?_
  refine ow_batch [.p] rfl ?_
  obtain ⟨y10, h11, H⟩ := of_bind H
  refine ow_q rfl rfl (dstOk_lt rfl) (qy_call rfl fn35 rfl (fun w1 hw1 => laws_szIntSS_ok w1  h11 (rds_bor g3 w1 hw1))) (fun _ _ => trivial) ?_
  refine ow_batch [.p] rfl ?_
  refine ow_nil ?_
  refine x_qs ?_
  refine c_seq ?_
  refine c_seq ?_
  refine c_reg ?_
  refine ow_batch [.p, .p] rfl ?_
  refine ow_nil ?_
  refine x_qs ?_
  refine c_if rfl (fun hb => ?_) (fun hb => ?_)
  · have H := of_if_t hb H
    refine c_seq ?_
    refine c_reg ?_
    refine ow_batch [.p] rfl ?_
    refine ow_nil ?_
    refine x_qs ?_
    refine c_ret ?_
    refine x_qs_ret ?_
    exact x_retR (rs := [.tmp 4]) (vs := [.int .i64 (-1)]) rfl ⟨rfl, trivial⟩ (fun w' hw' => by
        obtain rfl := of_some H
        exact ⟨rfl, hw'.ext⟩)
  · have H := of_if_f hb H
    refine c_skip ?_
    refine x_qs ?_
    refine c_seq ?_
    refine c_reg ?_
    refine ow_batch [.fa 25 1 1 fa25_1] rfl ?_
    refine ow_r rfl (dstOk_lt rfl) (ry_box1 (off := 1) rfl rfl ty23 (boxIn (i := 0) rfl) rfl) ?_
    refine ow_batch [.p] rfl ?_
    obtain ⟨y12, h13, H⟩ := of_bind H
    refine ow_q rfl rfl (dstOk_lt rfl) (qy_call rfl fn36 rfl (fun w1 hw1 => laws_szPairS_ok w1  h13 (rds_bor g4 w1 hw1))) (fun _ _ => trivial) ?_
    refine ow_batch [.p] rfl ?_
    refine ow_nil ?_
    refine x_qs ?_
    refine c_seq ?_
    refine c_seq ?_
    refine c_reg ?_
    refine ow_batch [.p, .p] rfl ?_
    refine ow_nil ?_
    refine x_qs ?_
    refine c_if rfl (fun hb => ?_) (fun hb => ?_)
    · have H := of_if_t hb H
      refine c_seq ?_
      refine c_reg ?_
      refine ow_batch [.p] rfl ?_
      refine ow_nil ?_
      refine x_qs ?_
      refine c_ret ?_
      refine x_qs_ret ?_
      exact x_retR (rs := [.tmp 4]) (vs := [.int .i64 (-1)]) rfl ⟨rfl, trivial⟩ (fun w' hw' => by
          obtain rfl := of_some H
          exact ⟨rfl, hw'.ext⟩)
    · have H := of_if_f hb H
      refine c_skip ?_
      refine x_qs ?_
      refine c_seq ?_
      refine c_reg ?_
      refine ow_batch [.p, .p] rfl ?_
      refine ow_nil ?_
      refine x_qs ?_
      refine c_ret ?_
      exact x_retR (rs := [.tmp 4]) (vs := [.int .i64 y12]) rfl ⟨rfl, trivial⟩ (fun w' hw' => by
          obtain rfl := of_some H
          exact ⟨rfl, hw'.ext⟩)

set_option maxHeartbeats 4000000 in
set_option maxRecDepth 100000 in
theorem laws_toIntS_ok (w : World) {M0 : List Nat} {p0 : List Int} {a_0 : Option Addr} {n_0 c_0 : Nat} {r : List Int} (H : laws_toIntS p0 = some r) (HS : St w M0 [] w) (g0 : (eList (eVal (Value.int .i64) (fun _ => rfl)) 3).rd w M0 p0 [.slice a_0 n_0 c_0]) :
    Calls Try.prog 61 #[.slice a_0 n_0 c_0] w (fun en w' => ∃ v, en = .returned v ∧ ∃ (a0 : Option Addr), ∃ (n0 : Nat), ∃ (c0 : Nat), ∃ (F0 : List Nat), v = .slice a0 n0 c0 ∧ St w M0 [Res.own (eList (eVal (Value.int .i64) (fun _ => rfl)) 3) F0 r [.slice a0 n0 c0]] w') := by
  obtain rfl := rd_n g0
  unfold laws_toIntS at H
  refine f_enter (vs := [.slice a_0 p0.length c_0]) Try.func61 rfl Try.ntmps61 rfl (HS) ?_
  refine c_seq ?_
  refine c_reg ?_
  refine ow_batch [.p] rfl ?_
  refine ow_nil ?_
  refine x_qs ?_
  refine c_seq ?_
  refine c_reg ?_
  refine ow_batch [.p, .lenS 53 3 sl53] rfl ?_
  obtain ⟨l1, h2, H⟩ := of_bind H
  refine ow_make (e := eVal (Value.int .i64) (fun _ => rfl)) (zero := (0 : Int)) rfl rfl rfl rfl rfl rfl sl53 ty3 rfl rfl rfl rfl (fun _ => ⟨rfl, rfl⟩) h2 (fun _ => kp) (fun b3 => ?_)
  refine ow_batch [.p] rfl ?_
  refine ow_nil ?_
  refine x_qs ?_
  refine c_seq ?_
  refine c_seq ?_
  refine c_reg ?_
  refine ow_batch [.p] rfl ?_
  refine ow_nil ?_
  refine x_qs ?_
  refine c_block ?_
  refine CW.at (loopI2 (fun (l10 : List Int) (i11 : Int) => St w M0 [Res.own (eList (eVal (Value.int .i64) (fun _ => rfl)) 3) [b3] l10 [.slice (some ⟨b3, 0, none⟩) l1.length l1.length]]) (fun (l10 : List Int) (i11 : Int) => [(0, .slice a_0 p0.length c_0), (3, .slice (some ⟨b3, 0, none⟩) l1.length l1.length), (4, .int .i64 i11)]) (fun kk => fun (l10 : List Int) (i11 : Int) => laws_toIntS_L1 p0 kk l10 i11 = some r) (fun _ _ H => ?_) (fun k1 ihk1 l10 i11 H => ?_) Fuel (l1) (0) (H)) (fun _ h => St.sel [0] rfl rfl h) ⟨rfl, rfl, rfl,  trivial⟩
  · unfold laws_toIntS_L1 at H
    exact absurd H (by simp)
  · unfold laws_toIntS_L1 at H
    refine c_seq ?_
    refine c_seq ?_
    refine c_reg ?_
    refine ow_batch [.p, .p, .lenS 53 3 sl53, .p] rfl ?_
    refine ow_nil ?_
    refine x_qs ?_
    refine c_if rfl (fun hb => ?_) (fun hb => ?_)
    · have H := of_if_t hb H
      refine c_skip ?_
      refine x_qs ?_
      refine c_seq ?_
      refine c_block ?_
      refine c_reg ?_
      refine ow_batch [.p, .p, .p, .p] rfl ?_
      obtain ⟨e18, h19, H⟩ := of_bind H
      refine ow_ixE (e := eVal (Value.int .i64) (fun _ => rfl)) (xs := p0) (j := i11) rfl rfl rfl rfl rfl sl53 ty3 rfl (fun w1 hw1 => rds_bor g0 w1 hw1) h19 (by rw [Nat.mul_one]) ?_
      refine ow_r rfl (dstOk_lt rfl) (ry_load1 rfl rfl ty3 (at_elV (fun w1 hw1 => rds_bor g0 w1 hw1) h19)) ?_
      obtain ⟨e20, h21, H⟩ := of_bind H
      refine ow_ixE (e := eVal (Value.int .i64) (fun _ => rfl)) (xs := l10) (j := i11) rfl rfl rfl rfl rfl sl53 ty3 rfl (fun w1 hw1 => rds_own (r := 0) rfl w1 hw1) h21 (by rw [Nat.mul_one]) ?_
      refine ow_storeV (i := 0) (j := i11) rfl rfl rfl rfl rfl rfl ty3 rfl h21 (fun _ => rfl) kp ?_
      refine ow_nil ?_
      refine x_qb ?_
      refine x_qs ?_
      refine c_reg ?_
      refine ow_batch [.p, .p, .p] rfl ?_
      refine ow_nil ?_
      exact x_ql (RW.at (ihk1 ((l10.set i11.toNat e18)) (IntKind.i64.wrap (i11 + 1)) (H)) (fun _ h => St.sel [0] rfl rfl h) ⟨rfl, rfl, rfl, trivial⟩)
    · have H := of_if_f hb H
      refine c_exit ?_
      refine x_qs_exit ?_
      refine x_ql_exit ?_
      refine x_qb_here ?_
      refine x_qs ?_
      refine c_seq ?_
      refine c_reg ?_
      refine ow_batch [.p, .p] rfl ?_
      refine ow_nil ?_
      refine x_qs ?_
      refine c_ret ?_
      exact x_retR (rs := [.tmp 2]) (vs := [.slice (some ⟨b3, 0, none⟩) l1.length l1.length]) rfl ⟨rfl, trivial⟩ (fun w' hw' => by
          obtain rfl := of_some H
          exact ⟨_, rfl, (some ⟨b3, 0, none⟩), l1.length, l1.length, [b3], rfl, hw'.sel [0] rfl rfl⟩)

set_option maxHeartbeats 4000000 in
set_option maxRecDepth 100000 in
theorem laws_toIntSS_ok (w : World) {M0 : List Nat} {p0 : List (List Int)} {a_0 : Option Addr} {n_0 c_0 : Nat} {r : List (List Int)} (H : laws_toIntSS p0 = some r) (HS : St w M0 [] w) (g0 : (eList (eList (eVal (Value.int .i64) (fun _ => rfl)) 3) 53).rd w M0 p0 [.slice a_0 n_0 c_0]) :
    Calls Try.prog 37 #[.slice a_0 n_0 c_0] w (fun en w' => ∃ v, en = .returned v ∧ ∃ (a0 : Option Addr), ∃ (n0 : Nat), ∃ (c0 : Nat), ∃ (F0 : List Nat), v = .slice a0 n0 c0 ∧ St w M0 [Res.own (eList (eList (eVal (Value.int .i64) (fun _ => rfl)) 3) 53) F0 r [.slice a0 n0 c0]] w') := by
  obtain rfl := rd_n g0
  unfold laws_toIntSS at H
  refine f_enter (vs := [.slice a_0 p0.length c_0]) Try.func37 rfl Try.ntmps37 rfl (HS) ?_
  refine c_seq ?_
  refine c_reg ?_
  refine ow_batch [.p] rfl ?_
  refine ow_nil ?_
  refine x_qs ?_
  refine c_seq ?_
  refine c_reg ?_
  refine ow_batch [.p, .lenS 22 53 sl22] rfl ?_
  obtain ⟨l1, h2, H⟩ := of_bind H
  refine ow_make (e := eList (eVal (Value.int .i64) (fun _ => rfl)) 3) (zero := ([] : List Int)) rfl rfl rfl rfl rfl rfl sl22 ty53 rfl rfl rfl rfl (fun _ => (.inl ⟨rfl, rfl, rfl⟩)) h2 (fun _ => kp) (fun b3 => ?_)
  refine ow_batch [.p] rfl ?_
  refine ow_nil ?_
  refine x_qs ?_
  refine c_seq ?_
  refine c_seq ?_
  refine c_reg ?_
  refine ow_batch [.p] rfl ?_
  refine ow_nil ?_
  refine x_qs ?_
  refine c_block ?_
  refine CW.at (loopI3 (fun (l37 : List (List Int)) (F38 : List Nat) (i39 : Int) => St w M0 [Res.own (eList (eList (eVal (Value.int .i64) (fun _ => rfl)) 3) 53) F38 l37 [.slice (some ⟨b3, 0, none⟩) l1.length l1.length]]) (fun (l37 : List (List Int)) (F38 : List Nat) (i39 : Int) => [(0, .slice a_0 p0.length c_0), (3, .slice (some ⟨b3, 0, none⟩) l1.length l1.length), (4, .int .i64 i39)]) (fun kk => fun (l37 : List (List Int)) (F38 : List Nat) (i39 : Int) => laws_toIntSS_L1 p0 kk l37 i39 = some r) (fun _ _ _ H => ?_) (fun k1 ihk1 l37 F38 i39 H => ?_) Fuel (l1) ([b3]) (0) (H)) (fun _ h => St.sel [0] rfl rfl h) ⟨rfl, rfl, rfl,  trivial⟩
  · unfold laws_toIntSS_L1 at H
    exact absurd H (by simp)
  · unfold laws_toIntSS_L1 at H
    refine c_seq ?_
    refine c_seq ?_
    refine c_reg ?_
    refine ow_batch [.p, .p, .lenS 22 53 sl22, .p] rfl ?_
    refine ow_nil ?_
    refine x_qs ?_
    refine c_if rfl (fun hb => ?_) (fun hb => ?_)
    · have H := of_if_t hb H
      refine c_skip ?_
      refine x_qs ?_
      refine c_seq ?_
      refine c_block ?_
      refine c_reg ?_
      refine ow_batch [.p, .p, .p, .p] rfl ?_
      obtain ⟨e73, h74, H⟩ := of_bind H
      refine ow_ixB rfl rfl rfl rfl rfl sl22 ty53 rfl g0 h74 (fun q77 c78 hd75 hA76 => ?_)
      obtain ⟨a79, c80, rfl⟩ := rd_sl1 hd75
      refine ow_r rfl (dstOk_lt rfl) (ry_load1 rfl rfl ty53 (at_bor bor hA76)) ?_
      obtain ⟨y81, h82, H⟩ := of_bind H
      refine ow_callS rfl fn61 rfl rfl rfl rfl (fun w1 hw1 => laws_toIntS_ok w1  h82 (hw1.carve [] rfl rfl) (rds_bor hd75 w1 hw1)) (fun v83 w1 w2 hw1 hR85 => ?_)
      obtain ⟨a86, n87, c88, F89, rfl, hS84⟩ := hR85
      obtain rfl := own_nS (i := 0) hS84 rfl
      refine ⟨St w M0 [_, _], hw1.comp [] rfl rfl hS84, fun _ _ => trivial, ?_⟩
      obtain ⟨e90, h91, H⟩ := of_bind H
      refine ow_ex4 rfl (fun w1 hw1 => foc (r := 0) hw1 rfl h91) (fun b93 G94 F95 c96 => ?_)
      refine ow_fact rfl (fun w1 hw1 => hw1.1) (fun q92 => ?_)
      obtain ⟨ha97, hn98⟩ := q92
      refine ow_st (C' := St w M0 [_, _, _, _]) rfl (fun w1 hw1 => hw1.2) ?_
      refine ow_ex2 rfl (fun w1 hw1 => opn_sl (i := 3) hw1 rfl) (fun a99 c100 => ?_)
      refine ow_fact rfl (fun w1 hw1 => hw1.1) (fun q101 => ?_)
      subst q101
      refine ow_st (C' := St w M0 [_, _, _, _]) rfl (fun w1 hw1 => hw1.2) ?_
      refine ow_ixH rfl rfl rfl rfl rfl sl22 ty53 rfl (holeIn (p := 2) rfl) hn98 ha97 (idx_some h91).1 ?_
      refine ow_storeH (off := 0) [.slice a86 y81.length c88] (p := 2) (c' := [_]) rfl rfl rfl rfl rfl (by first | rfl | simp only [add_lit, add_add, add_zero]) rfl ty53 rfl rfl (by intro u hu; simp only [List.mem_cons, List.not_mem_nil, or_false] at hu; rcases hu with rfl <;> rfl) rfl rfl rfl kp ?_
      refine ow_nil ?_
      refine x_qb ?_
      refine x_qs ?_
      refine c_reg ?_
      refine ow_batch [.p, .p, .p] rfl ?_
      refine ow_nil ?_
      refine xw_ex (fun w1 hw1 => unf (p := 2) (q := 1) hw1 rfl rfl rfl hn98 ha97) (fun F102 => ?_)
      refine xw_st (C' := St w M0 [_, _, _, _, _]) (fun _ h => h) ?_
      exact x_ql (RW.at (ihk1 ((l37.set i39.toNat y81)) (F102) (IntKind.i64.wrap (i39 + 1)) (H)) (fun _ h => St.sel [4] rfl rfl h) ⟨rfl, rfl, rfl, trivial⟩)
    · have H := of_if_f hb H
      refine c_exit ?_
      refine x_qs_exit ?_
      refine x_ql_exit ?_
      refine x_qb_here ?_
      refine x_qs ?_
      refine c_seq ?_
      refine c_reg ?_
      refine ow_batch [.p, .p] rfl ?_
      refine ow_nil ?_
      refine x_qs ?_
      refine c_ret ?_
      exact x_retR (rs := [.tmp 2]) (vs := [.slice (some ⟨b3, 0, none⟩) l1.length l1.length]) rfl ⟨rfl, trivial⟩ (fun w' hw' => by
          obtain rfl := of_some H
          exact ⟨_, rfl, (some ⟨b3, 0, none⟩), l1.length, l1.length, F38, rfl, hw'.sel [0] rfl rfl⟩)

set_option maxHeartbeats 4000000 in
set_option maxRecDepth 100000 in
theorem laws_toPair_ok (w : World) {p0 : Tlaws_Pair}  {r : Timpl_Pair} (H : laws_toPair p0 = some r)   :
    Calls Try.prog 62 #[.agg #[.int .i64 p0.Truth_, .int .i64 p0.Said_]] w (fun en w' => en = .returned (.agg #[.int .i64 r.Truth_, .int .i64 r.Said_]) ∧ Ext [] w w') := by
  unfold laws_toPair at H
  refine f_enter (vs := [.agg #[.int .i64 p0.Truth_, .int .i64 p0.Said_]]) Try.func62 rfl Try.ntmps62 rfl (St.init w []) ?_
  refine c_seq ?_
  refine c_reg ?_
  refine ow_box (cs := [.int .i64 p0.Truth_, .int .i64 p0.Said_]) rfl rfl rfl rfl rfl rfl (fun _ => kp) (fun b1 => ?_)
  refine ow_alloc rfl rfl rfl rfl ty60 (fun _ => kp) (fun b2 => ?_)
  refine ow_nil ?_
  refine x_qs ?_
  refine c_seq ?_
  refine c_reg ?_
  refine ow_alloc rfl rfl rfl rfl ty60 (fun _ => kp) (fun b3 => ?_)
  refine ow_nil ?_
  refine x_qs ?_
  refine c_seq ?_
  refine c_reg ?_
  refine ow_batch [.fa 75 0 0 fa75_0] rfl ?_
  refine ow_r rfl (dstOk_lt rfl) (ry_box1 (off := 0) rfl rfl ty3 (boxIn (i := 0) rfl) rfl) ?_
  refine ow_batch [.fa 60 0 0 fa60_0] rfl ?_
  refine ow_storeC (off := 0) [.int .i64 p0.Truth_] [_, _] (i := 2) rfl rfl rfl rfl rfl rfl ty3 rfl rfl (by intro u hu; simp only [List.mem_cons, List.not_mem_nil, or_false] at hu; rcases hu with rfl <;> rfl) rfl rfl rfl kp ?_
  refine ow_nil ?_
  refine x_qs ?_
  refine c_seq ?_
  refine c_reg ?_
  refine ow_batch [.fa 75 1 1 fa75_1] rfl ?_
  refine ow_r rfl (dstOk_lt rfl) (ry_box1 (off := 1) rfl rfl ty3 (boxIn (i := 0) rfl) rfl) ?_
  refine ow_batch [.fa 60 1 1 fa60_1] rfl ?_
  refine ow_storeC (off := 1) [.int .i64 p0.Said_] [_, _] (i := 2) rfl rfl rfl rfl rfl rfl ty3 rfl rfl (by intro u hu; simp only [List.mem_cons, List.not_mem_nil, or_false] at hu; rcases hu with rfl <;> rfl) rfl rfl rfl kp ?_
  refine ow_nil ?_
  refine x_qs ?_
  refine c_seq ?_
  refine c_reg ?_
  refine ow_r rfl (dstOk_lt rfl) (ry_box (off := 0) (ds := [.int .i64 p0.Truth_, .int .i64 p0.Said_]) rfl rfl ty60 (boxIn (i := 2) rfl) rfl rfl) ?_
  refine ow_storeC (off := 0) [.int .i64 p0.Truth_, .int .i64 p0.Said_] [_, _] (i := 1) rfl rfl rfl rfl rfl rfl ty60 rfl rfl (by intro u hu; simp only [List.mem_cons, List.not_mem_nil, or_false] at hu; rcases hu with rfl | rfl <;> rfl) rfl rfl rfl kp ?_
  refine ow_nil ?_
  refine x_qs ?_
  refine c_ret ?_
  exact x_retR (rs := [.cell 2 60]) (vs := [.agg #[.int .i64 p0.Truth_, .int .i64 p0.Said_]]) rfl ⟨⟨_, [.int .i64 p0.Truth_, .int .i64 p0.Said_], _, _, _, rfl, ty60, (at_box (T := 60) 0 (boxIn (i := 1) rfl) rfl), rfl, rfl⟩, trivial⟩ (fun w' hw' => by
      obtain rfl := of_some H
      exact ⟨rfl, hw'.ext⟩)

set_option maxHeartbeats 4000000 in
set_option maxRecDepth 100000 in
theorem laws_toPairS_ok (w : World) {M0 : List Nat} {p0 : List Tlaws_Pair} {a_0 : Option Addr} {n_0 c_0 : Nat} {r : List Timpl_Pair} (H : laws_toPairS p0 = some r) (HS : St w M0 [] w) (g0 : (eList (eTlaws_Pair) 75).rd w M0 p0 [.slice a_0 n_0 c_0]) :
    Calls Try.prog 38 #[.slice a_0 n_0 c_0] w (fun en w' => ∃ v, en = .returned v ∧ ∃ (a0 : Option Addr), ∃ (n0 : Nat), ∃ (c0 : Nat), ∃ (F0 : List Nat), v = .slice a0 n0 c0 ∧ St w M0 [Res.own (eList (eTimpl_Pair) 60) F0 r [.slice a0 n0 c0]] w') := by
  obtain rfl := rd_n g0
  unfold laws_toPairS at H
  refine f_enter (vs := [.slice a_0 p0.length c_0]) Try.func38 rfl Try.ntmps38 rfl (HS) ?_
  refine c_seq ?_
  refine c_reg ?_
  refine ow_batch [.p] rfl ?_
  refine ow_nil ?_
  refine x_qs ?_
  refine c_seq ?_
  refine c_reg ?_
  refine ow_batch [.p, .lenS 23 75 sl23] rfl ?_
  obtain ⟨l1, h2, H⟩ := of_bind H
  refine ow_make (e := eTimpl_Pair) (zero := ((Timpl_Pair.mk 0 0) : Timpl_Pair)) rfl rfl rfl rfl rfl rfl sl28 ty60 rfl rfl rfl rfl (fun _ => ⟨rfl, rfl⟩) h2 (fun _ => kp) (fun b3 => ?_)
  refine ow_batch [.p] rfl ?_
  refine ow_nil ?_
  refine x_qs ?_
  refine c_seq ?_
  refine c_seq ?_
  refine c_reg ?_
  refine ow_batch [.p] rfl ?_
  refine ow_nil ?_
  refine x_qs ?_
  refine c_block ?_
  refine CW.at (loopI3 (fun (l21 : List Timpl_Pair) (F22 : List Nat) (i23 : Int) => St w M0 [Res.own (eList (eTimpl_Pair) 60) F22 l21 [.slice (some ⟨b3, 0, none⟩) l1.length l1.length]]) (fun (l21 : List Timpl_Pair) (F22 : List Nat) (i23 : Int) => [(0, .slice a_0 p0.length c_0), (3, .slice (some ⟨b3, 0, none⟩) l1.length l1.length), (4, .int .i64 i23)]) (fun kk => fun (l21 : List Timpl_Pair) (F22 : List Nat) (i23 : Int) => laws_toPairS_L1 p0 kk l21 i23 = some r) (fun _ _ _ H => ?_) (fun k1 ihk1 l21 F22 i23 H => ?_) Fuel (l1) ([b3]) (0) (H)) (fun _ h => St.sel [0] rfl rfl h) ⟨rfl, rfl, rfl,  trivial⟩
  · unfold laws_toPairS_L1 at H
    exact absurd H (by simp)
  · unfold laws_toPairS_L1 at H
    refine c_seq ?_
    refine c_seq ?_
    refine c_reg ?_
    refine ow_batch [.p, .p, .lenS 23 75 sl23, .p] rfl ?_
    refine ow_nil ?_
    refine x_qs ?_
    refine c_if rfl (fun hb => ?_) (fun hb => ?_)
    · have H := of_if_t hb H
      refine c_skip ?_
      refine x_qs ?_
      refine c_seq ?_
      refine c_block ?_
      refine c_reg ?_
      refine ow_batch [.p, .p, .p, .p] rfl ?_
      obtain ⟨e41, h42, H⟩ := of_bind H
      refine ow_ixE (e := eTlaws_Pair) (xs := p0) (j := i23) rfl rfl rfl rfl rfl sl23 ty75 rfl (fun w1 hw1 => rds_bor g0 w1 hw1) h42 rfl ?_
      refine ow_r rfl (dstOk_lt rfl) (ry_load (cs := [.int .i64 e41.Truth_, .int .i64 e41.Said_]) rfl rfl ty75 (at_castA (at_eltE (fun w1 hw1 => rds_bor g0 w1 hw1) h42 (fun _ _ h => h)) rfl) rfl) ?_
      obtain ⟨y43, h44, H⟩ := of_bind H
      refine ow_q rfl rfl (dstOk_lt rfl) (qy_call rfl fn62 rfl (fun w1 hw1 => laws_toPair_ok w1 (p0 := e41) h44)) (fun _ _ => trivial) ?_
      obtain ⟨e45, h46, H⟩ := of_bind H
      refine ow_ex4 rfl (fun w1 hw1 => foc (r := 0) hw1 rfl h46) (fun b48 G49 F50 c51 => ?_)
      refine ow_fact rfl (fun w1 hw1 => hw1.1) (fun q47 => ?_)
      obtain ⟨ha52, hn53⟩ := q47
      refine ow_st (C' := St w M0 [_, _, _]) rfl (fun w1 hw1 => hw1.2) ?_
      refine ow_fact rfl (fun w1 hw1 => opn_flat (i := 2) hw1 rfl) (fun q47 => ?_)
      obtain ⟨rfl, rfl⟩ := q47
      refine ow_st (C' := St w M0 [_, _]) rfl (fun w1 hw1 => St.mask [true, true] rfl hw1) ?_
      refine ow_ixH rfl rfl rfl rfl rfl sl28 ty60 rfl (holeIn (p := 1) rfl) hn53 ha52 (idx_some h46).1 ?_
      refine ow_storeH (off := 0) [.int .i64 y43.Truth_, .int .i64 y43.Said_] (p := 1) (c' := [_, _]) rfl rfl rfl rfl rfl (by first | rfl | simp only [add_lit, add_add, add_zero]) rfl ty60 rfl rfl (by intro u hu; simp only [List.mem_cons, List.not_mem_nil, or_false] at hu; rcases hu with rfl | rfl <;> rfl) rfl rfl rfl kp ?_
      refine ow_nil ?_
      refine x_qb ?_
      refine x_qs ?_
      refine c_reg ?_
      refine ow_batch [.p, .p, .p] rfl ?_
      refine ow_nil ?_
      refine xw_st (fun _ h => St.push0 h (Res.own (eTimpl_Pair) [] y43 [.int .i64 y43.Truth_, .int .i64 y43.Said_]) rfl ⟨rfl, rfl⟩) ?_
      refine xw_ex (fun w1 hw1 => unf (p := 1) (q := 2) hw1 rfl rfl rfl hn53 ha52) (fun F54 => ?_)
      refine xw_st (C' := St w M0 [_, _, _, _]) (fun _ h => h) ?_
      exact x_ql (RW.at (ihk1 ((l21.set i23.toNat y43)) (F54) (IntKind.i64.wrap (i23 + 1)) (H)) (fun _ h => St.sel [3] rfl rfl h) ⟨rfl, rfl, rfl, trivial⟩)
    · have H := of_if_f hb H
      refine c_exit ?_
      refine x_qs_exit ?_
      refine x_ql_exit ?_
      refine x_qb_here ?_
      refine x_qs ?_
      refine c_seq ?_
      refine c_reg ?_
      refine ow_batch [.p, .p] rfl ?_
      refine ow_nil ?_
      refine x_qs ?_
      refine c_ret ?_
      exact x_retR (rs := [.tmp 2]) (vs := [.slice (some ⟨b3, 0, none⟩) l1.length l1.length]) rfl ⟨rfl, trivial⟩ (fun w' hw' => by
          obtain rfl := of_some H
          exact ⟨_, rfl, (some ⟨b3, 0, none⟩), l1.length, l1.length, F22, rfl, hw'.sel [0] rfl rfl⟩)

set_option maxHeartbeats 4000000 in
set_option maxRecDepth 100000 in
theorem laws_toScore_ok (w : World) {M0 : List Nat} {p0 : Tlaws_Score} {cs0 : List Value} {r : Timpl_Score} (H : laws_toScore p0 = some r) (HS : St w M0 [] w) (g0 : (eTlaws_Score).rd w M0 p0 cs0) :
    Calls Try.prog 13 #[.agg cs0.toArray] w (fun en w' => ∃ v, en = .returned v ∧ ∃ (a0 : Option Addr), ∃ (n0 : Nat), ∃ (c0 : Nat), ∃ (F0 : List Nat), ∃ (a1 : Option Addr), ∃ (n1 : Nat), ∃ (c1 : Nat), ∃ (F1 : List Nat), v = .agg #[.slice a0 n0 c0, .slice a1 n1 c1] ∧ St w M0 [Res.own (eList (eList (eVal (Value.int .i64) (fun _ => rfl)) 3) 53) F0 r.Table_ [.slice a0 n0 c0], Res.own (eList (eTimpl_Pair) 60) F1 r.Last_ [.slice a1 n1 c1]] w') := by
  obtain ⟨c1, c2, rfl, g3, g4⟩ := rdo_Tlaws_Score g0
  obtain ⟨a5, c6, rfl⟩ := rd_sl1 g3
  obtain ⟨a7, c8, rfl⟩ := rd_sl1 g4
  unfold laws_toScore at H
  refine f_enter (vs := [.agg #[.slice a5 p0.Table_.length c6, .slice a7 p0.Last_.length c8]]) Try.func13 rfl Try.ntmps13 rfl (HS) ?_
  refine c_seq ?_
  refine c_reg ?_
  refine ow_box (cs := [.slice a5 p0.Table_.length c6, .slice a7 p0.Last_.length c8]) rfl rfl rfl rfl rfl rfl (fun _ => kp) (fun b9 => ?_)
  refine ow_alloc rfl rfl rfl rfl ty30 (fun _ => kp) (fun b10 => ?_)
  refine ow_nil ?_
  refine x_qs ?_
  refine c_seq ?_
  refine c_reg ?_
  refine ow_alloc rfl rfl rfl rfl ty30 (fun _ => kp) (fun b11 => ?_)
  refine ow_nil ?_
  refine x_qs ?_
  refine c_seq ?_
  refine c_reg ?_
  refine ow_batch [.fa 25 0 0 fa25_0] rfl ?_
  refine ow_r rfl (dstOk_lt rfl) (ry_box1 (off := 0) rfl rfl ty22 (boxIn (i := 0) rfl) rfl) ?_
  obtain ⟨y12, h13, H⟩ := of_bind H
  refine ow_callS rfl fn37 rfl rfl rfl rfl (fun w1 hw1 => laws_toIntSS_ok w1  h13 (hw1.carve [] rfl rfl) (rds_bor g3 w1 hw1)) (fun v14 w1 w2 hw1 hR16 => ?_)
  obtain ⟨a17, n18, c19, F20, rfl, hS15⟩ := hR16
  obtain rfl := own_nS (i := 0) hS15 rfl
  refine ⟨St w M0 [_, _, _, _], hw1.comp [] rfl rfl hS15, fun _ _ => trivial, ?_⟩
  refine ow_batch [.fa 30 0 0 fa30_0] rfl ?_
  refine ow_storeC (off := 0) [.slice a17 y12.length c19] [_, _] (i := 2) rfl rfl rfl rfl rfl rfl ty22 rfl rfl (by intro u hu; simp only [List.mem_cons, List.not_mem_nil, or_false] at hu; rcases hu with rfl <;> rfl) rfl rfl rfl kp ?_
  refine ow_nil ?_
  refine x_qs ?_
  refine c_seq ?_
  refine c_reg ?_
  refine ow_batch [.fa 25 1 1 fa25_1] rfl ?_
  refine ow_r rfl (dstOk_lt rfl) (ry_box1 (off := 1) rfl rfl ty23 (boxIn (i := 0) rfl) rfl) ?_
  obtain ⟨y21, h22, H⟩ := of_bind H
  refine ow_callS rfl fn38 rfl rfl rfl rfl (fun w1 hw1 => laws_toPairS_ok w1  h22 (hw1.carve [] rfl rfl) (rds_bor g4 w1 hw1)) (fun v23 w1 w2 hw1 hR25 => ?_)
  obtain ⟨a26, n27, c28, F29, rfl, hS24⟩ := hR25
  obtain rfl := own_nS (i := 0) hS24 rfl
  refine ⟨St w M0 [_, _, _, _, _], hw1.comp [] rfl rfl hS24, fun _ _ => trivial, ?_⟩
  refine ow_batch [.fa 30 1 1 fa30_1] rfl ?_
  refine ow_storeC (off := 1) [.slice a26 y21.length c28] [_, _] (i := 2) rfl rfl rfl rfl rfl rfl ty28 rfl rfl (by intro u hu; simp only [List.mem_cons, List.not_mem_nil, or_false] at hu; rcases hu with rfl <;> rfl) rfl rfl rfl kp ?_
  refine ow_nil ?_
  refine x_qs ?_
  refine c_seq ?_
  refine c_reg ?_
  refine ow_r rfl (dstOk_lt rfl) (ry_box (off := 0) (ds := [.slice a17 y12.length c19, .slice a26 y21.length c28]) rfl rfl ty30 (boxIn (i := 2) rfl) rfl rfl) ?_
  refine ow_storeC (off := 0) [.slice a17 y12.length c19, .slice a26 y21.length c28] [_, _] (i := 1) rfl rfl rfl rfl rfl rfl ty30 rfl rfl (by intro u hu; simp only [List.mem_cons, List.not_mem_nil, or_false] at hu; rcases hu with rfl | rfl <;> rfl) rfl rfl rfl kp ?_
  refine ow_nil ?_
  refine x_qs ?_
  refine c_ret ?_
  exact x_retR (rs := [.cell 2 30]) (vs := [.agg #[.slice a17 y12.length c19, .slice a26 y21.length c28]]) rfl ⟨⟨_, [.slice a17 y12.length c19, .slice a26 y21.length c28], _, _, _, rfl, ty30, (at_box (T := 30) 0 (boxIn (i := 1) rfl) rfl), rfl, rfl⟩, trivial⟩ (fun w' hw' => by
      obtain rfl := of_some H
      exact ⟨_, rfl, a17, y12.length, c19, F20, a26, y21.length, c28, F29, rfl, hw'.sel [3, 4] rfl rfl⟩)

set_option maxHeartbeats 4000000 in
set_option maxRecDepth 100000 in
theorem spec_l1In_ok (w : World) {p0 : Int} {p1 : Int} {p2 : Int}  {r : Bool} (H : spec_l1In p0 p1 p2 = some r)   :
    Calls Try.prog 45 #[.int .i64 p0, .int .i64 p1, .int .i64 p2] w (fun en w' => en = .returned (.bool r) ∧ Ext [] w w') := by
  unfold spec_l1In at H
  refine f_enter (vs := [.int .i64 p0, .int .i64 p1, .int .i64 p2]) Try.func45 rfl Try.ntmps45 rfl (St.init w []) ?_
  refine c_seq ?_
  refine c_reg ?_
  refine ow_batch [.p] rfl ?_
  refine ow_nil ?_
  refine x_qs ?_
  refine c_seq ?_
  refine c_reg ?_
  refine ow_batch [.p, .p, .p, .p] rfl ?_
  refine ow_cut [(14, .bool ((decide (p0 ≥ p1)) && (decide (p0 ≤ p2)))), (6, .bool false)] 4 ?_ (fun key => OW.sub (R := [(0, .int .i64 p0), (2, .int .i64 p2), (6, .bool false), (10, .bool (decide (p0 ≥ p1)))]) ?_ ⟨rfl, rfl, rfl, rfl, trivial⟩)
  · refine ow_batch [.p] rfl ?_
    refine ow_nil ?_
    refine x_qs ?_
    refine c_ret ?_
    exact x_retR (rs := [.tmp 6]) (vs := [.bool ((decide (p0 ≥ p1)) && (decide (p0 ≤ p2)))]) rfl ⟨rfl, trivial⟩ (fun w' hw' => by
        obtain rfl := of_some H
        exact ⟨rfl, hw'.ext⟩)
  · generalize (decide (p0 ≥ p1)) = t2 at key ⊢
    cases t2
    · refine ow_batch [.p, .p, .p, .p] rfl ?_
      exact OW.sub key ⟨rfl, rfl, trivial⟩
    · refine ow_batch [.p, .p, .p] rfl ?_
      refine ow_batch [.p] rfl ?_
      exact OW.sub key ⟨rfl, rfl, trivial⟩

set_option maxHeartbeats 4000000 in
set_option maxRecDepth 100000 in
theorem spec_l25Pairs_ok (w : World) {p0 : List Timpl_Pair} {p1 : Int} {p2 : Int} {a_0 : Option Addr} {n_0 c_0 : Nat} {r : Int} (H : spec_l25Pairs p0 p1 p2 = some r)  (g0 : (eList (eTimpl_Pair) 60).rd w [] p0 [.slice a_0 n_0 c_0]) :
    Calls Try.prog 41 #[.slice a_0 n_0 c_0, .int .i64 p1, .int .i64 p2] w (fun en w' => en = .returned (.int .i64 r) ∧ Ext [] w w') := by
  obtain rfl := rd_n g0
  unfold spec_l25Pairs at H
  refine f_enter (vs := [.slice a_0 p0.length c_0, .int .i64 p1, .int .i64 p2]) Try.func41 rfl Try.ntmps41 rfl (St.init w []) ?_
  refine c_seq ?_
  refine c_reg ?_
  refine ow_batch [.p] rfl ?_
  refine ow_nil ?_
  refine x_qs ?_
  refine c_seq ?_
  refine c_reg ?_
  refine ow_batch [.p] rfl ?_
  refine ow_nil ?_
  refine x_qs ?_
  refine c_seq ?_
  refine c_seq ?_
  refine c_reg ?_
  refine ow_batch [.p] rfl ?_
  refine ow_nil ?_
  refine x_qs ?_
  refine c_block ?_
  refine CW.at (loopI2 (fun (i11 : Int) (i12 : Int) => St w [] []) (fun (i11 : Int) (i12 : Int) => [(0, .slice a_0 p0.length c_0), (1, .int .i64 p1), (2, .int .i64 p2), (7, .int .i64 i11), (8, .int .i64 i12)]) (fun kk => fun (i11 : Int) (i12 : Int) => spec_l25Pairs_L1 p0 p1 p2 kk i11 i12 = some r) (fun _ _ H => ?_) (fun k1 ihk1 i11 i12 H => ?_) Fuel (0) (0) (H)) (fun _ h => St.sel [] rfl rfl h) ⟨rfl, rfl, rfl, rfl, rfl,  trivial⟩
  · unfold spec_l25Pairs_L1 at H
    exact absurd H (by simp)
  · unfold spec_l25Pairs_L1 at H
    refine c_seq ?_
    refine c_seq ?_
    refine c_reg ?_
    refine ow_batch [.p, .p, .lenS 28 60 sl28, .p] rfl ?_
    refine ow_nil ?_
    refine x_qs ?_
    refine c_if rfl (fun hb => ?_) (fun hb => ?_)
    · have H := of_if_t hb H
      refine c_skip ?_
      refine x_qs ?_
      refine c_seq ?_
      refine c_block ?_
      refine c_seq ?_
      refine c_reg ?_
      refine ow_batch [.p, .p] rfl ?_
      obtain ⟨e22, h23, H⟩ := of_bind H
      refine ow_ixE (e := eTimpl_Pair) (xs := p0) (j := i12) rfl rfl rfl rfl rfl sl28 ty60 rfl (fun w1 hw1 => rds_bor g0 w1 hw1) h23 rfl ?_
      refine ow_batch [.fa 60 0 0 fa60_0] rfl ?_
      refine ow_r rfl (dstOk_lt rfl) (ry_load1 rfl rfl ty3 (at_KA (at_castA (at_eltE (fun w1 hw1 => rds_bor g0 w1 hw1) h23 (fun _ _ h => h)) rfl) 0 1)) ?_
      refine ow_batch [.p, .p, .p] rfl ?_
      obtain ⟨u24, hu28, H⟩ := of_bind H
      refine ow_cut [(30, .bool u24), (0, .slice a_0 p0.length c_0), (1, .int .i64 p1), (2, .int .i64 p2), (7, .int .i64 i11), (8, .int .i64 i12)] 8 ?_ (fun key => OW.sub (R := [(0, .slice a_0 p0.length c_0), (1, .int .i64 p1), (2, .int .i64 p2), (7, .int .i64 i11), (8, .int .i64 i12), (22, .bool (e22.Truth_ == p1))]) ?_ ⟨rfl, rfl, rfl, rfl, rfl, rfl, trivial⟩)
      · refine ow_nil ?_
        refine x_qs ?_
        refine c_if rfl (fun hb => ?_) (fun hb => ?_)
        · have H := of_if_t hb H
          refine c_reg ?_
          refine ow_batch [.p, .p, .p] rfl ?_
          refine ow_nil ?_
          refine x_qb ?_
          refine x_qs ?_
          refine c_reg ?_
          refine ow_batch [.p, .p, .p] rfl ?_
          refine ow_nil ?_
          exact x_ql (RW.at (ihk1 (IntKind.i64.wrap (i11 + 1)) (IntKind.i64.wrap (i12 + 1)) (H)) (fun _ h => St.sel [] rfl rfl h) ⟨rfl, rfl, rfl, rfl, rfl, trivial⟩)
        · have H := of_if_f hb H
          refine c_skip ?_
          refine x_qb ?_
          refine x_qs ?_
          refine c_reg ?_
          refine ow_batch [.p, .p, .p] rfl ?_
          refine ow_nil ?_
          exact x_ql (RW.at (ihk1 (i11) (IntKind.i64.wrap (i12 + 1)) (H)) (fun _ h => St.sel [] rfl rfl h) ⟨rfl, rfl, rfl, rfl, rfl, trivial⟩)
      · clear H
        have H := hu28
        clear hu28
        generalize (e22.Truth_ == p1) = t27 at H ⊢
        cases t27
        · have H := of_if_f rfl H
          refine ow_batch [.p, .p, .p, .p, .p, .p, .p, .p] rfl ?_
          obtain rfl := of_some H
          exact OW.sub key ⟨rfl, rfl, rfl, rfl, rfl, rfl, trivial⟩
        · have H := of_if_t rfl H
          refine ow_batch [.p, .p] rfl ?_
          obtain ⟨e25, h26, H⟩ := of_bind H
          refine ow_ixE (e := eTimpl_Pair) (xs := p0) (j := i12) rfl rfl rfl rfl rfl sl28 ty60 rfl (fun w1 hw1 => rds_bor g0 w1 hw1) h26 rfl ?_
          refine ow_batch [.fa 60 1 1 fa60_1] rfl ?_
          refine ow_r rfl (dstOk_lt rfl) (ry_load1 rfl rfl ty3 (at_KA (at_castA (at_eltE (fun w1 hw1 => rds_bor g0 w1 hw1) h26 (fun _ _ h => h)) rfl) 1 1)) ?_
          refine ow_batch [.p, .p] rfl ?_
          refine ow_batch [.p] rfl ?_
          obtain rfl := of_some H
          exact OW.sub key ⟨rfl, rfl, rfl, rfl, rfl, rfl, trivial⟩
    · have H := of_if_f hb H
      refine c_exit ?_
      refine x_qs_exit ?_
      refine x_ql_exit ?_
      refine x_qb_here ?_
      refine x_qs ?_
      refine c_seq ?_
      refine c_reg ?_
      refine ow_batch [.p, .p] rfl ?_
      refine ow_nil ?_
      refine x_qs ?_
      refine c_ret ?_
      exact x_retR (rs := [.tmp 6]) (vs := [.int .i64 i11]) rfl ⟨rfl, trivial⟩ (fun w' hw' => by
          obtain rfl := of_some H
          exact ⟨rfl, hw'.ext⟩)

set_option maxHeartbeats 4000000 in
set_option maxRecDepth 100000 in
theorem spec_l1Min_ok (w : World) {p0 : Int} {p1 : Int}  {r : Int} (H : spec_l1Min p0 p1 = some r)   :
    Calls Try.prog 57 #[.int .i64 p0, .int .i64 p1] w (fun en w' => en = .returned (.int .i64 r) ∧ Ext [] w w') := by
  unfold spec_l1Min at H
  refine f_enter (vs := [.int .i64 p0, .int .i64 p1]) Try.func57 rfl Try.ntmps57 rfl (St.init w []) ?_
  refine c_seq ?_
  refine c_reg ?_
  refine ow_batch [.p] rfl ?_
  refine ow_nil ?_
  refine x_qs ?_
  refine c_seq ?_
  refine c_seq ?_
  refine c_reg ?_
  refine ow_batch [.p, .p, .p] rfl ?_
  refine ow_nil ?_
  refine x_qs ?_
  refine c_if rfl (fun hb => ?_) (fun hb => ?_)
  · have H := of_if_t hb H
    refine c_seq ?_
    refine c_reg ?_
    refine ow_batch [.p, .p] rfl ?_
    refine ow_nil ?_
    refine x_qs ?_
    refine c_ret ?_
    refine x_qs_ret ?_
    exact x_retR (rs := [.tmp 4]) (vs := [.int .i64 p0]) rfl ⟨rfl, trivial⟩ (fun w' hw' => by
        obtain rfl := of_some H
        exact ⟨rfl, hw'.ext⟩)
  · have H := of_if_f hb H
    refine c_skip ?_
    refine x_qs ?_
    refine c_seq ?_
    refine c_reg ?_
    refine ow_batch [.p, .p] rfl ?_
    refine ow_nil ?_
    refine x_qs ?_
    refine c_ret ?_
    exact x_retR (rs := [.tmp 4]) (vs := [.int .i64 p1]) rfl ⟨rfl, trivial⟩ (fun w' hw' => by
        obtain rfl := of_some H
        exact ⟨rfl, hw'.ext⟩)

set_option maxHeartbeats 4000000 in
set_option maxRecDepth 100000 in
theorem spec_ScoreOk_ok (w : World) {p0 : Int} {p1 : Timpl_Score} {cs1 : List Value} {r : Bool} (H : spec_ScoreOk p0 p1 = some r)  (g1 : (eTimpl_Score).rd w [] p1 cs1) :
    Calls Try.prog 33 #[.int .i64 p0, .agg cs1.toArray] w (fun en w' => en = .returned (.bool r) ∧ Ext [] w w') := by
  obtain ⟨c1, c2, rfl, g3, g4⟩ := rdo_Timpl_Score g1
  obtain ⟨a5, c6, rfl⟩ := rd_sl1 g3
  obtain ⟨a7, c8, rfl⟩ := rd_sl1 g4
  unfold spec_ScoreOk at H
  refine f_enter (vs := [.int .i64 p0, .agg #[.slice a5 p1.Table_.length c6, .slice a7 p1.Last_.length c8]]) Try.func33 rfl Try.ntmps33 rfl (St.init w []) ?_
  refine c_seq ?_
  refine c_reg ?_
  refine ow_box (cs := [.slice a5 p1.Table_.length c6, .slice a7 p1.Last_.length c8]) rfl rfl rfl rfl rfl rfl (fun _ => kp) (fun b9 => ?_)
  refine ow_batch [.p] rfl ?_
  refine ow_nil ?_
  refine x_qs ?_
  refine c_seq ?_
  refine c_seq ?_
  refine c_reg ?_
  refine ow_batch [.p] rfl ?_
  obtain ⟨y10, h11, H⟩ := of_bind H
  refine ow_q rfl rfl (dstOk_lt rfl) (qy_call rfl fn45 rfl (fun w1 hw1 => spec_l1In_ok w1  h11)) (fun _ _ => trivial) ?_
  refine ow_batch [.p, .p] rfl ?_
  refine ow_cut [(18, .bool ((!y10) || ((p1.Table_.length : Int) != p0))), (0, .int .i64 p0), (3, .pointer (some ⟨b9, 0, none⟩))] 6 ?_ (fun key => OW.sub (R := [(0, .int .i64 p0), (3, .pointer (some ⟨b9, 0, none⟩)), (12, .bool (!y10))]) ?_ ⟨rfl, rfl, rfl, trivial⟩)
  · refine ow_nil ?_
    refine x_qs ?_
    refine c_if rfl (fun hb => ?_) (fun hb => ?_)
    · have H := of_if_t hb H
      refine c_seq ?_
      refine c_reg ?_
      refine ow_batch [.p] rfl ?_
      refine ow_nil ?_
      refine x_qs ?_
      refine c_ret ?_
      refine x_qs_ret ?_
      exact x_retR (rs := [.tmp 4]) (vs := [.bool false]) rfl ⟨rfl, trivial⟩ (fun w' hw' => by
          obtain rfl := of_some H
          exact ⟨rfl, hw'.ext⟩)
    · have H := of_if_f hb H
      refine c_skip ?_
      refine x_qs ?_
      refine c_seq ?_
      refine c_reg ?_
      refine ow_batch [.p] rfl ?_
      refine ow_nil ?_
      refine x_qs ?_
      refine c_seq ?_
      refine c_seq ?_
      refine c_reg ?_
      refine ow_batch [.p] rfl ?_
      refine ow_nil ?_
      refine x_qs ?_
      refine c_block ?_
      refine CW.at (loopI2 (fun (i141 : Int) (i142 : Int) => St w [] [Res.box b9 30 [.slice a5 p1.Table_.length c6, .slice a7 p1.Last_.length c8]]) (fun (i141 : Int) (i142 : Int) => [(0, .int .i64 p0), (3, .pointer (some ⟨b9, 0, none⟩)), (5, .int .i64 i141), (6, .int .i64 i142)]) (fun kk => fun (i141 : Int) (i142 : Int) => spec_ScoreOk_L1 p0 p1 kk i141 i142 = some r) (fun _ _ H => ?_) (fun k1 ihk1 i141 i142 H => ?_) Fuel (0) (0) (H)) (fun _ h => St.sel [0] rfl rfl h) ⟨rfl, rfl, rfl, rfl,  trivial⟩
      · unfold spec_ScoreOk_L1 at H
        exact absurd H (by simp)
      · unfold spec_ScoreOk_L1 at H
        refine c_seq ?_
        refine c_seq ?_
        refine c_reg ?_
        refine ow_batch [.p, .p, .p] rfl ?_
        refine ow_nil ?_
        refine x_qs ?_
        refine c_if rfl (fun hb => ?_) (fun hb => ?_)
        · have H := of_if_t hb H
          refine c_skip ?_
          refine x_qs ?_
          refine c_seq ?_
          refine c_block ?_
          refine c_seq ?_
          refine c_seq ?_
          refine c_reg ?_
          refine ow_batch [.fa 30 0 0 fa30_0] rfl ?_
          refine ow_r rfl (dstOk_lt rfl) (ry_box1 (off := 0) rfl rfl ty22 (boxIn (i := 0) rfl) rfl) ?_
          refine ow_batch [.p] rfl ?_
          obtain ⟨e270, h271, H⟩ := of_bind H
          refine ow_ixB rfl rfl rfl rfl rfl sl22 ty53 rfl g3 h271 (fun q274 c275 hd272 hA273 => ?_)
          obtain ⟨a276, c277, rfl⟩ := rd_sl1 hd272
          refine ow_r rfl (dstOk_lt rfl) (ry_load1 rfl rfl ty53 (at_bor bor hA273)) ?_
          refine ow_batch [.lenS 53 3 sl53, .p, .p] rfl ?_
          refine ow_nil ?_
          refine x_qs ?_
          refine c_if rfl (fun hb => ?_) (fun hb => ?_)
          · have H := of_if_t hb H
            refine c_seq ?_
            refine c_reg ?_
            refine ow_batch [.p] rfl ?_
            refine ow_nil ?_
            refine x_qs ?_
            refine c_ret ?_
            refine x_qs_ret ?_
            refine x_qb_ret ?_
            refine x_qs_ret ?_
            refine x_ql_ret ?_
            refine x_qb_ret ?_
            refine x_qs_ret ?_
            exact x_retR (rs := [.tmp 4]) (vs := [.bool false]) rfl ⟨rfl, trivial⟩ (fun w' hw' => by
                obtain rfl := of_some H
                exact ⟨rfl, hw'.ext⟩)
          · have H := of_if_f hb H
            refine c_skip ?_
            refine x_qs ?_
            refine c_seq ?_
            refine c_reg ?_
            refine ow_batch [.p] rfl ?_
            refine ow_nil ?_
            refine x_qs ?_
            refine c_block ?_
            refine CW.at (loopI2 (fun (i317 : Int) (i318 : Int) => St w [] [Res.box b9 30 [.slice a5 p1.Table_.length c6, .slice a7 p1.Last_.length c8]]) (fun (i317 : Int) (i318 : Int) => [(0, .int .i64 p0), (3, .pointer (some ⟨b9, 0, none⟩)), (5, .int .i64 i317), (6, .int .i64 i142), (7, .int .i64 i318)]) (fun kk => fun (i317 : Int) (i318 : Int) => spec_ScoreOk_L2 p0 p1 i142 (spec_ScoreOk_L1 p0 p1 k1) kk i317 i318 = some r) (fun _ _ H => ?_) (fun k2 ihk2 i317 i318 H => ?_) Fuel (i141) (0) (H)) (fun _ h => St.sel [0] rfl rfl h) ⟨rfl, rfl, rfl, rfl, rfl,  trivial⟩
            · unfold spec_ScoreOk_L2 at H
              exact absurd H (by simp)
            · unfold spec_ScoreOk_L2 at H
              refine c_seq ?_
              refine c_seq ?_
              refine c_reg ?_
              refine ow_batch [.p, .p, .p] rfl ?_
              refine ow_nil ?_
              refine x_qs ?_
              refine c_if rfl (fun hb => ?_) (fun hb => ?_)
              · have H := of_if_t hb H
                refine c_skip ?_
                refine x_qs ?_
                refine c_seq ?_
                refine c_block ?_
                refine c_seq ?_
                refine c_seq ?_
                refine c_regQ mixed (by kernel_rfl) ?_
                refine ow_batch [.fa 30 0 0 fa30_0] rfl ?_
                refine ow_r rfl (dstOk_lt rfl) (ry_box1 (off := 0) rfl rfl ty22 (boxIn (i := 0) rfl) rfl) ?_
                refine ow_batch [.p] rfl ?_
                obtain ⟨e358, h359, H⟩ := of_bind H
                refine ow_ixB rfl rfl rfl rfl rfl sl22 ty53 rfl g3 h359 (fun q362 c363 hd360 hA361 => ?_)
                obtain ⟨a364, c365, rfl⟩ := rd_sl1 hd360
                refine ow_r rfl (dstOk_lt rfl) (ry_load1 rfl rfl ty53 (at_bor bor hA361)) ?_
                refine ow_batch [.p] rfl ?_
                obtain ⟨e366, h367, H⟩ := of_bind H
                refine ow_ixE (e := eVal (Value.int .i64) (fun _ => rfl)) (xs := e358) (j := i318) rfl rfl rfl rfl rfl sl53 ty3 rfl (fun w1 hw1 => rds_bor hd360 w1 hw1) h367 (by rw [Nat.mul_one]) ?_
                refine ow_r rfl (dstOk_lt rfl) (ry_load1 rfl rfl ty3 (at_elV (fun w1 hw1 => rds_bor hd360 w1 hw1) h367)) ?_
                obtain ⟨y368, h369, H⟩ := of_bind H
                refine ow_q rfl rfl (dstOk_lt rfl) (qy_call rfl fn45 rfl (fun w1 hw1 => spec_l1In_ok w1  h369)) (fun _ _ => trivial) ?_
                refine ow_batch [.p, .p] rfl ?_
                obtain ⟨u370, hu384, H⟩ := of_bind H
                refine ow_cut [(62, .bool u370), (0, .int .i64 p0), (3, .pointer (some ⟨b9, 0, none⟩)), (5, .int .i64 i317), (6, .int .i64 i142), (7, .int .i64 i318)] 15 ?_ (fun key => OW.sub (R := [(0, .int .i64 p0), (3, .pointer (some ⟨b9, 0, none⟩)), (5, .int .i64 i317), (6, .int .i64 i142), (7, .int .i64 i318), (47, .bool (!y368))]) ?_ ⟨rfl, rfl, rfl, rfl, rfl, rfl, trivial⟩)
                · refine ow_nilQ ?_
                  refine x_qs ?_
                  refine c_if rfl (fun hb => ?_) (fun hb => ?_)
                  · have H := of_if_t hb H
                    refine c_seq ?_
                    refine c_reg ?_
                    refine ow_batch [.p] rfl ?_
                    refine ow_nil ?_
                    refine x_qs ?_
                    refine c_ret ?_
                    refine x_qs_ret ?_
                    refine x_qb_ret ?_
                    refine x_qs_ret ?_
                    refine x_ql_ret ?_
                    refine x_qb_ret ?_
                    refine x_qb_ret ?_
                    refine x_qs_ret ?_
                    refine x_ql_ret ?_
                    refine x_qb_ret ?_
                    refine x_qs_ret ?_
                    exact x_retR (rs := [.tmp 4]) (vs := [.bool false]) rfl ⟨rfl, trivial⟩ (fun w' hw' => by
                        obtain rfl := of_some H
                        exact ⟨rfl, hw'.ext⟩)
                  · have H := of_if_f hb H
                    refine c_skip ?_
                    refine x_qs ?_
                    refine c_reg ?_
                    refine ow_batch [.p, .fa 30 0 0 fa30_0] rfl ?_
                    refine ow_r rfl (dstOk_lt rfl) (ry_box1 (off := 0) rfl rfl ty22 (boxIn (i := 0) rfl) rfl) ?_
                    refine ow_batch [.p] rfl ?_
                    obtain ⟨e385, h386, H⟩ := of_bind H
                    refine ow_ixB rfl rfl rfl rfl rfl sl22 ty53 rfl g3 h386 (fun q389 c390 hd387 hA388 => ?_)
                    obtain ⟨a391, c392, rfl⟩ := rd_sl1 hd387
                    refine ow_r rfl (dstOk_lt rfl) (ry_load1 rfl rfl ty53 (at_bor bor hA388)) ?_
                    refine ow_batch [.p] rfl ?_
                    obtain ⟨e393, h394, H⟩ := of_bind H
                    refine ow_ixE (e := eVal (Value.int .i64) (fun _ => rfl)) (xs := e385) (j := i318) rfl rfl rfl rfl rfl sl53 ty3 rfl (fun w1 hw1 => rds_bor hd387 w1 hw1) h394 (by rw [Nat.mul_one]) ?_
                    refine ow_r rfl (dstOk_lt rfl) (ry_load1 rfl rfl ty3 (at_elV (fun w1 hw1 => rds_bor hd387 w1 hw1) h394)) ?_
                    refine ow_batch [.p, .p] rfl ?_
                    refine ow_nil ?_
                    refine x_qb ?_
                    refine x_qs ?_
                    refine c_reg ?_
                    refine ow_batch [.p, .p, .p] rfl ?_
                    refine ow_nil ?_
                    exact x_ql (RW.at (ihk2 (IntKind.i64.wrap (i317 + e393)) (IntKind.i64.wrap (i318 + 1)) (H)) (fun _ h => St.sel [0] rfl rfl h) ⟨rfl, rfl, rfl, rfl, rfl, trivial⟩)
                · clear H
                  have H := hu384
                  clear hu384
                  generalize (!y368) = t383 at H ⊢
                  cases t383
                  · have H := of_if_f rfl H
                    refine ow_batch [.fa 30 1 1 fa30_1] rfl ?_
                    refine ow_r rfl (dstOk_lt rfl) (ry_box1 (off := 1) rfl rfl ty28 (boxIn (i := 0) rfl) rfl) ?_
                    refine ow_batch [.p, .p] rfl ?_
                    obtain ⟨y371, h372, H⟩ := of_bind H
                    refine ow_q rfl rfl (dstOk_lt rfl) (qy_call rfl fn41 rfl (fun w1 hw1 => spec_l25Pairs_ok w1  h372 (rds_bor g4 w1 hw1))) (fun _ _ => trivial) ?_
                    refine ow_batch [.fa 30 0 0 fa30_0] rfl ?_
                    refine ow_r rfl (dstOk_lt rfl) (ry_box1 (off := 0) rfl rfl ty22 (boxIn (i := 0) rfl) rfl) ?_
                    refine ow_batch [.p] rfl ?_
                    obtain ⟨e373, h374, H⟩ := of_bind H
                    refine ow_ixB rfl rfl rfl rfl rfl sl22 ty53 rfl g3 h374 (fun q377 c378 hd375 hA376 => ?_)
                    obtain ⟨a379, c380, rfl⟩ := rd_sl1 hd375
                    refine ow_r rfl (dstOk_lt rfl) (ry_load1 rfl rfl ty53 (at_bor bor hA376)) ?_
                    refine ow_batch [.p] rfl ?_
                    obtain ⟨e381, h382, H⟩ := of_bind H
                    refine ow_ixE (e := eVal (Value.int .i64) (fun _ => rfl)) (xs := e373) (j := i318) rfl rfl rfl rfl rfl sl53 ty3 rfl (fun w1 hw1 => rds_bor hd375 w1 hw1) h382 (by rw [Nat.mul_one]) ?_
                    refine ow_r rfl (dstOk_lt rfl) (ry_load1 rfl rfl ty3 (at_elV (fun w1 hw1 => rds_bor hd375 w1 hw1) h382)) ?_
                    refine ow_batch [.p] rfl ?_
                    refine ow_batch [.p] rfl ?_
                    obtain rfl := of_some H
                    exact OW.sub key ⟨rfl, rfl, rfl, rfl, rfl, rfl, trivial⟩
                  · have H := of_if_t rfl H
                    refine ow_batch [.p, .p, .p, .p, .p, .p, .p, .p, .p, .p, .p, .p, .p, .p, .p] rfl ?_
                    obtain rfl := of_some H
                    exact OW.sub key ⟨rfl, rfl, rfl, rfl, rfl, rfl, trivial⟩
              · have H := of_if_f hb H
                refine c_exit ?_
                refine x_qs_exit ?_
                refine x_ql_exit ?_
                refine x_qb_here ?_
                refine x_qb ?_
                refine x_qs ?_
                refine c_reg ?_
                refine ow_batch [.p, .p, .p] rfl ?_
                refine ow_nil ?_
                exact x_ql (RW.at (ihk1 (i317) (IntKind.i64.wrap (i142 + 1)) (H)) (fun _ h => St.sel [0] rfl rfl h) ⟨rfl, rfl, rfl, rfl, trivial⟩)
        · have H := of_if_f hb H
          refine c_exit ?_
          refine x_qs_exit ?_
          refine x_ql_exit ?_
          refine x_qb_here ?_
          refine x_qs ?_
          refine c_seq ?_
          refine c_seq ?_
          refine c_regQ mixed (by kernel_rfl) ?_
          refine ow_batch [.p, .p, .p] rfl ?_
          obtain ⟨u395, hu399, H⟩ := of_bind H
          refine ow_cut [(82, .bool u395), (0, .int .i64 p0), (3, .pointer (some ⟨b9, 0, none⟩))] 7 ?_ (fun key => OW.sub (R := [(0, .int .i64 p0), (3, .pointer (some ⟨b9, 0, none⟩)), (5, .int .i64 i141), (75, .bool (decide (i141 > 9999)))]) ?_ ⟨rfl, rfl, rfl, rfl, trivial⟩)
          · refine ow_nilQ ?_
            refine x_qs ?_
            refine c_if rfl (fun hb => ?_) (fun hb => ?_)
            · have H := of_if_t hb H
              refine c_seq ?_
              refine c_reg ?_
              refine ow_batch [.p] rfl ?_
              refine ow_nil ?_
              refine x_qs ?_
              refine c_ret ?_
              refine x_qs_ret ?_
              exact x_retR (rs := [.tmp 4]) (vs := [.bool false]) rfl ⟨rfl, trivial⟩ (fun w' hw' => by
                  obtain rfl := of_some H
                  exact ⟨rfl, hw'.ext⟩)
            · have H := of_if_f hb H
              refine c_skip ?_
              refine x_qs ?_
              refine c_seq ?_
              refine c_seq ?_
              refine c_reg ?_
              refine ow_batch [.p] rfl ?_
              refine ow_nil ?_
              refine x_qs ?_
              refine c_block ?_
              refine CW.at (loopI1 (fun (i412 : Int) => St w [] [Res.box b9 30 [.slice a5 p1.Table_.length c6, .slice a7 p1.Last_.length c8]]) (fun (i412 : Int) => [(0, .int .i64 p0), (3, .pointer (some ⟨b9, 0, none⟩)), (8, .int .i64 i412)]) (fun kk => fun (i412 : Int) => spec_ScoreOk_L3 p1 p0 kk i412 = some r) (fun _ H => ?_) (fun k3 ihk3 i412 H => ?_) Fuel (0) (H)) (fun _ h => St.sel [0] rfl rfl h) ⟨rfl, rfl, rfl,  trivial⟩
              · unfold spec_ScoreOk_L3 at H
                exact absurd H (by simp)
              · unfold spec_ScoreOk_L3 at H
                refine c_seq ?_
                refine c_seq ?_
                refine c_reg ?_
                refine ow_batch [.p, .fa 30 1 1 fa30_1] rfl ?_
                refine ow_r rfl (dstOk_lt rfl) (ry_box1 (off := 1) rfl rfl ty28 (boxIn (i := 0) rfl) rfl) ?_
                refine ow_batch [.lenS 28 60 sl28, .p] rfl ?_
                refine ow_nil ?_
                refine x_qs ?_
                refine c_if rfl (fun hb => ?_) (fun hb => ?_)
                · have H := of_if_t hb H
                  refine c_skip ?_
                  refine x_qs ?_
                  refine c_seq ?_
                  refine c_block ?_
                  refine c_seq ?_
                  refine c_reg ?_
                  refine ow_batch [.fa 30 1 1 fa30_1] rfl ?_
                  refine ow_r rfl (dstOk_lt rfl) (ry_box1 (off := 1) rfl rfl ty28 (boxIn (i := 0) rfl) rfl) ?_
                  refine ow_batch [.p] rfl ?_
                  obtain ⟨e425, h426, H⟩ := of_bind H
                  refine ow_ixE (e := eTimpl_Pair) (xs := p1.Last_) (j := i412) rfl rfl rfl rfl rfl sl28 ty60 rfl (fun w1 hw1 => rds_bor g4 w1 hw1) h426 rfl ?_
                  refine ow_batch [.fa 60 0 0 fa60_0] rfl ?_
                  refine ow_r rfl (dstOk_lt rfl) (ry_load1 rfl rfl ty3 (at_KA (at_castA (at_eltE (fun w1 hw1 => rds_bor g4 w1 hw1) h426 (fun _ _ h => h)) rfl) 0 1)) ?_
                  refine ow_batch [.p, .p] rfl ?_
                  obtain ⟨y427, h428, H⟩ := of_bind H
                  refine ow_q rfl rfl (dstOk_lt rfl) (qy_call rfl fn45 rfl (fun w1 hw1 => spec_l1In_ok w1  h428)) (fun _ _ => trivial) ?_
                  refine ow_batch [.p, .p] rfl ?_
                  obtain ⟨u429, hu435, H⟩ := of_bind H
                  refine ow_cut [(111, .bool u429), (0, .int .i64 p0), (3, .pointer (some ⟨b9, 0, none⟩)), (8, .int .i64 i412)] 11 ?_ (fun key => OW.sub (R := [(0, .int .i64 p0), (3, .pointer (some ⟨b9, 0, none⟩)), (8, .int .i64 i412), (100, .bool (!y427))]) ?_ ⟨rfl, rfl, rfl, rfl, trivial⟩)
                  · refine ow_nil ?_
                    refine x_qs ?_
                    refine c_if rfl (fun hb => ?_) (fun hb => ?_)
                    · have H := of_if_t hb H
                      refine c_seq ?_
                      refine c_reg ?_
                      refine ow_batch [.p] rfl ?_
                      refine ow_nil ?_
                      refine x_qs ?_
                      refine c_ret ?_
                      refine x_qb_ret ?_
                      refine x_qs_ret ?_
                      refine x_ql_ret ?_
                      refine x_qb_ret ?_
                      refine x_qs_ret ?_
                      exact x_retR (rs := [.tmp 4]) (vs := [.bool false]) rfl ⟨rfl, trivial⟩ (fun w' hw' => by
                          obtain rfl := of_some H
                          exact ⟨rfl, hw'.ext⟩)
                    · have H := of_if_f hb H
                      refine c_skip ?_
                      refine x_qb ?_
                      refine x_qs ?_
                      refine c_reg ?_
                      refine ow_batch [.p, .p, .p] rfl ?_
                      refine ow_nil ?_
                      exact x_ql (RW.at (ihk3 (IntKind.i64.wrap (i412 + 1)) (H)) (fun _ h => St.sel [0] rfl rfl h) ⟨rfl, rfl, rfl, trivial⟩)
                  · clear H
                    have H := hu435
                    clear hu435
                    generalize (!y427) = t434 at H ⊢
                    cases t434
                    · have H := of_if_f rfl H
                      refine ow_batch [.fa 30 1 1 fa30_1] rfl ?_
                      refine ow_r rfl (dstOk_lt rfl) (ry_box1 (off := 1) rfl rfl ty28 (boxIn (i := 0) rfl) rfl) ?_
                      refine ow_batch [.p] rfl ?_
                      obtain ⟨e430, h431, H⟩ := of_bind H
                      refine ow_ixE (e := eTimpl_Pair) (xs := p1.Last_) (j := i412) rfl rfl rfl rfl rfl sl28 ty60 rfl (fun w1 hw1 => rds_bor g4 w1 hw1) h431 rfl ?_
                      refine ow_batch [.fa 60 1 1 fa60_1] rfl ?_
                      refine ow_r rfl (dstOk_lt rfl) (ry_load1 rfl rfl ty3 (at_KA (at_castA (at_eltE (fun w1 hw1 => rds_bor g4 w1 hw1) h431 (fun _ _ h => h)) rfl) 1 1)) ?_
                      refine ow_batch [.p, .p] rfl ?_
                      obtain ⟨y432, h433, H⟩ := of_bind H
                      refine ow_q rfl rfl (dstOk_lt rfl) (qy_call rfl fn45 rfl (fun w1 hw1 => spec_l1In_ok w1  h433)) (fun _ _ => trivial) ?_
                      refine ow_batch [.p] rfl ?_
                      refine ow_batch [.p] rfl ?_
                      obtain rfl := of_some H
                      exact OW.sub key ⟨rfl, rfl, rfl, rfl, trivial⟩
                    · have H := of_if_t rfl H
                      refine ow_batch [.p, .p, .p, .p, .p, .p, .p, .p, .p, .p, .p] rfl ?_
                      obtain rfl := of_some H
                      exact OW.sub key ⟨rfl, rfl, rfl, rfl, trivial⟩
                · have H := of_if_f hb H
                  refine c_exit ?_
                  refine x_qs_exit ?_
                  refine x_ql_exit ?_
                  refine x_qb_here ?_
                  refine x_qs ?_
                  refine c_seq ?_
                  refine c_reg ?_
                  refine ow_batch [.p] rfl ?_
                  refine ow_nil ?_
                  refine x_qs ?_
                  refine c_ret ?_
                  exact x_retR (rs := [.tmp 4]) (vs := [.bool true]) rfl ⟨rfl, trivial⟩ (fun w' hw' => by
                      obtain rfl := of_some H
                      exact ⟨rfl, hw'.ext⟩)
          · clear H
            have H := hu399
            clear hu399
            generalize (decide (i141 > 9999)) = t398 at H ⊢
            cases t398
            · have H := of_if_f rfl H
              refine ow_batch [.fa 30 1 1 fa30_1] rfl ?_
              refine ow_r rfl (dstOk_lt rfl) (ry_box1 (off := 1) rfl rfl ty28 (boxIn (i := 0) rfl) rfl) ?_
              refine ow_batch [.lenS 28 60 sl28, .p] rfl ?_
              obtain ⟨y396, h397, H⟩ := of_bind H
              refine ow_q rfl rfl (dstOk_lt rfl) (qy_call rfl fn57 rfl (fun w1 hw1 => spec_l1Min_ok w1  h397)) (fun _ _ => trivial) ?_
              refine ow_batch [.p] rfl ?_
              refine ow_batch [.p] rfl ?_
              obtain rfl := of_some H
              exact OW.sub key ⟨rfl, rfl, rfl, trivial⟩
            · have H := of_if_t rfl H
              refine ow_batch [.p, .p, .p, .p, .p, .p, .p] rfl ?_
              obtain rfl := of_some H
              exact OW.sub key ⟨rfl, rfl, rfl, trivial⟩
  · generalize (!y10) = t13 at key ⊢
    cases t13
    · refine ow_batch [.fa 30 0 0 fa30_0] rfl ?_
      refine ow_r rfl (dstOk_lt rfl) (ry_box1 (off := 0) rfl rfl ty22 (boxIn (i := 0) rfl) rfl) ?_
      refine ow_batch [.lenS 22 53 sl22, .p, .p] rfl ?_
      refine ow_batch [.p] rfl ?_
      exact OW.sub key ⟨rfl, rfl, rfl, trivial⟩
    · refine ow_batch [.p, .p, .p, .p, .p, .p] rfl ?_
      exact OW.sub key ⟨rfl, rfl, rfl, trivial⟩

set_option maxHeartbeats 4000000 in
set_option maxRecDepth 100000 in
theorem spec_l10Sum_ok (w : World) {p0 : List Int} {a_0 : Option Addr} {n_0 c_0 : Nat} {r : Int} (H : spec_l10Sum p0 = some r)  (g0 : (eList (eVal (Value.int .i64) (fun _ => rfl)) 3).rd w [] p0 [.slice a_0 n_0 c_0]) :
    Calls Try.prog 42 #[.slice a_0 n_0 c_0] w (fun en w' => en = .returned (.int .i64 r) ∧ Ext [] w w') := by
  obtain rfl := rd_n g0
  unfold spec_l10Sum at H
  refine f_enter (vs := [.slice a_0 p0.length c_0]) Try.func42 rfl Try.ntmps42 rfl (St.init w []) ?_
  refine c_seq ?_
  refine c_reg ?_
  refine ow_batch [.p] rfl ?_
  refine ow_nil ?_
  refine x_qs ?_
  refine c_seq ?_
  refine c_reg ?_
  refine ow_batch [.p] rfl ?_
  refine ow_nil ?_
  refine x_qs ?_
  refine c_seq ?_
  refine c_seq ?_
  refine c_reg ?_
  refine ow_batch [.p] rfl ?_
  refine ow_nil ?_
  refine x_qs ?_
  refine c_block ?_
  refine CW.at (loopI2 (fun (i5 : Int) (i6 : Int) => St w [] []) (fun (i5 : Int) (i6 : Int) => [(0, .slice a_0 p0.length c_0), (3, .int .i64 i5), (4, .int .i64 i6)]) (fun kk => fun (i5 : Int) (i6 : Int) => spec_l10Sum_L1 p0 kk i5 i6 = some r) (fun _ _ H => ?_) (fun k1 ihk1 i5 i6 H => ?_) Fuel (0) (0) (H)) (fun _ h => St.sel [] rfl rfl h) ⟨rfl, rfl, rfl,  trivial⟩
  · unfold spec_l10Sum_L1 at H
    exact absurd H (by simp)
  · unfold spec_l10Sum_L1 at H
    refine c_seq ?_
    refine c_seq ?_
    refine c_reg ?_
    refine ow_batch [.p, .p, .lenS 53 3 sl53, .p] rfl ?_
    refine ow_nil ?_
    refine x_qs ?_
    refine c_if rfl (fun hb => ?_) (fun hb => ?_)
    · have H := of_if_t hb H
      refine c_skip ?_
      refine x_qs ?_
      refine c_seq ?_
      refine c_block ?_
      refine c_reg ?_
      refine ow_batch [.p, .p, .p] rfl ?_
      obtain ⟨e11, h12, H⟩ := of_bind H
      refine ow_ixE (e := eVal (Value.int .i64) (fun _ => rfl)) (xs := p0) (j := i6) rfl rfl rfl rfl rfl sl53 ty3 rfl (fun w1 hw1 => rds_bor g0 w1 hw1) h12 (by rw [Nat.mul_one]) ?_
      refine ow_r rfl (dstOk_lt rfl) (ry_load1 rfl rfl ty3 (at_elV (fun w1 hw1 => rds_bor g0 w1 hw1) h12)) ?_
      refine ow_batch [.p, .p] rfl ?_
      refine ow_nil ?_
      refine x_qb ?_
      refine x_qs ?_
      refine c_reg ?_
      refine ow_batch [.p, .p, .p] rfl ?_
      refine ow_nil ?_
      exact x_ql (RW.at (ihk1 (IntKind.i64.wrap (i5 + e11)) (IntKind.i64.wrap (i6 + 1)) (H)) (fun _ h => St.sel [] rfl rfl h) ⟨rfl, rfl, rfl, trivial⟩)
    · have H := of_if_f hb H
      refine c_exit ?_
      refine x_qs_exit ?_
      refine x_ql_exit ?_
      refine x_qb_here ?_
      refine x_qs ?_
      refine c_seq ?_
      refine c_reg ?_
      refine ow_batch [.p, .p] rfl ?_
      refine ow_nil ?_
      refine x_qs ?_
      refine c_ret ?_
      exact x_retR (rs := [.tmp 2]) (vs := [.int .i64 i5]) rfl ⟨rfl, trivial⟩ (fun w' hw' => by
          obtain rfl := of_some H
          exact ⟨rfl, hw'.ext⟩)

set_option maxHeartbeats 4000000 in
set_option maxRecDepth 100000 in
theorem spec_Count_ok (w : World) {p0 : Int} {p1 : Timpl_Score} {cs1 : List Value} {r : Int} (H : spec_Count p0 p1 = some r)  (g1 : (eTimpl_Score).rd w [] p1 cs1) :
    Calls Try.prog 18 #[.int .i64 p0, .agg cs1.toArray] w (fun en w' => en = .returned (.int .i64 r) ∧ Ext [] w w') := by
  obtain ⟨c1, c2, rfl, g3, g4⟩ := rdo_Timpl_Score g1
  obtain ⟨a5, c6, rfl⟩ := rd_sl1 g3
  obtain ⟨a7, c8, rfl⟩ := rd_sl1 g4
  unfold spec_Count at H
  refine f_enter (vs := [.int .i64 p0, .agg #[.slice a5 p1.Table_.length c6, .slice a7 p1.Last_.length c8]]) Try.func18 rfl Try.ntmps18 rfl (St.init w []) ?_
  refine c_seq ?_
  refine c_reg ?_
  refine ow_box (cs := [.slice a5 p1.Table_.length c6, .slice a7 p1.Last_.length c8]) rfl rfl rfl rfl rfl rfl (fun _ => kp) (fun b9 => ?_)
  refine ow_batch [.p] rfl ?_
  refine ow_nil ?_
  refine x_qs ?_
  refine c_seq ?_
  refine c_seq ?_
  refine c_reg ?_
  refine ow_batch [.p] rfl ?_
  refine ow_r rfl (dstOk_lt rfl) (ry_box (off := 0) (ds := [.slice a5 p1.Table_.length c6, .slice a7 p1.Last_.length c8]) rfl rfl ty30 (boxIn (i := 0) rfl) rfl rfl) ?_
  obtain ⟨y10, h11, H⟩ := of_bind H
  refine ow_q rfl rfl (dstOk_lt rfl) (qy_call rfl fn33 rfl (fun w1 hw1 => spec_ScoreOk_ok w1 (cs1 := [.slice a5 p1.Table_.length c6, .slice a7 p1.Last_.length c8]) h11 (rdm_Timpl_Score (x := p1) (c0 := [.slice a5 p1.Table_.length c6]) (c1 := [.slice a7 p1.Last_.length c8]) (rds_bor g3 w1 hw1) (rds_bor g4 w1 hw1)))) (fun _ _ => trivial) ?_
  refine ow_batch [.p] rfl ?_
  refine ow_nil ?_
  refine x_qs ?_
  refine c_if rfl (fun hb => ?_) (fun hb => ?_)
  · have H := of_if_t hb H
    refine c_seq ?_
    refine c_reg ?_
    refine ow_batch [.p] rfl ?_
    refine ow_nil ?_
    refine x_qs ?_
    refine c_ret ?_
    refine x_qs_ret ?_
    exact x_retR (rs := [.tmp 4]) (vs := [.int .i64 0]) rfl ⟨rfl, trivial⟩ (fun w' hw' => by
        obtain rfl := of_some H
        exact ⟨rfl, hw'.ext⟩)
  · have H := of_if_f hb H
    refine c_skip ?_
    refine x_qs ?_
    refine c_seq ?_
    refine c_reg ?_
    refine ow_batch [.p] rfl ?_
    refine ow_nil ?_
    refine x_qs ?_
    refine c_seq ?_
    refine c_seq ?_
    refine c_reg ?_
    refine ow_batch [.p] rfl ?_
    refine ow_nil ?_
    refine x_qs ?_
    refine c_block ?_
    refine CW.at (loopI2 (fun (i24 : Int) (i25 : Int) => St w [] [Res.box b9 30 [.slice a5 p1.Table_.length c6, .slice a7 p1.Last_.length c8]]) (fun (i24 : Int) (i25 : Int) => [(0, .int .i64 p0), (3, .pointer (some ⟨b9, 0, none⟩)), (5, .int .i64 i24), (6, .int .i64 i25)]) (fun kk => fun (i24 : Int) (i25 : Int) => spec_Count_L1 p0 p1 kk i24 i25 = some r) (fun _ _ H => ?_) (fun k1 ihk1 i24 i25 H => ?_) Fuel (0) (0) (H)) (fun _ h => St.sel [0] rfl rfl h) ⟨rfl, rfl, rfl, rfl,  trivial⟩
    · unfold spec_Count_L1 at H
      exact absurd H (by simp)
    · unfold spec_Count_L1 at H
      refine c_seq ?_
      refine c_seq ?_
      refine c_reg ?_
      refine ow_batch [.p, .p, .p] rfl ?_
      refine ow_nil ?_
      refine x_qs ?_
      refine c_if rfl (fun hb => ?_) (fun hb => ?_)
      · have H := of_if_t hb H
        refine c_skip ?_
        refine x_qs ?_
        refine c_seq ?_
        refine c_block ?_
        refine c_reg ?_
        refine ow_batch [.p, .fa 30 0 0 fa30_0] rfl ?_
        refine ow_r rfl (dstOk_lt rfl) (ry_box1 (off := 0) rfl rfl ty22 (boxIn (i := 0) rfl) rfl) ?_
        refine ow_batch [.p] rfl ?_
        obtain ⟨e38, h39, H⟩ := of_bind H
        refine ow_ixB rfl rfl rfl rfl rfl sl22 ty53 rfl g3 h39 (fun q42 c43 hd40 hA41 => ?_)
        obtain ⟨a44, c45, rfl⟩ := rd_sl1 hd40
        refine ow_r rfl (dstOk_lt rfl) (ry_load1 rfl rfl ty53 (at_bor bor hA41)) ?_
        obtain ⟨y46, h47, H⟩ := of_bind H
        refine ow_q rfl rfl (dstOk_lt rfl) (qy_call rfl fn42 rfl (fun w1 hw1 => spec_l10Sum_ok w1  h47 (rds_bor hd40 w1 hw1))) (fun _ _ => trivial) ?_
        refine ow_batch [.p, .p] rfl ?_
        refine ow_nil ?_
        refine x_qb ?_
        refine x_qs ?_
        refine c_reg ?_
        refine ow_batch [.p, .p, .p] rfl ?_
        refine ow_nil ?_
        exact x_ql (RW.at (ihk1 (IntKind.i64.wrap (i24 + y46)) (IntKind.i64.wrap (i25 + 1)) (H)) (fun _ h => St.sel [0] rfl rfl h) ⟨rfl, rfl, rfl, rfl, trivial⟩)
      · have H := of_if_f hb H
        refine c_exit ?_
        refine x_qs_exit ?_
        refine x_ql_exit ?_
        refine x_qb_here ?_
        refine x_qs ?_
        refine c_seq ?_
        refine c_reg ?_
        refine ow_batch [.p, .p] rfl ?_
        refine ow_nil ?_
        refine x_qs ?_
        refine c_ret ?_
        exact x_retR (rs := [.tmp 4]) (vs := [.int .i64 i24]) rfl ⟨rfl, trivial⟩ (fun w' hw' => by
            obtain rfl := of_some H
            exact ⟨rfl, hw'.ext⟩)

set_option maxHeartbeats 4000000 in
set_option maxRecDepth 100000 in
theorem impl_within_ok (w : World) {p0 : Int} {p1 : Int} {p2 : Int}  {r : Bool} (H : impl_within p0 p1 p2 = some r)   :
    Calls Try.prog 47 #[.int .i64 p0, .int .i64 p1, .int .i64 p2] w (fun en w' => en = .returned (.bool r) ∧ Ext [] w w') := by
  unfold impl_within at H
  refine f_enter (vs := [.int .i64 p0, .int .i64 p1, .int .i64 p2]) Try.func47 rfl Try.ntmps47 rfl (St.init w []) ?_
  refine c_seq ?_
  refine c_reg ?_
  refine ow_batch [.p] rfl ?_
  refine ow_nil ?_
  refine x_qs ?_
  refine c_seq ?_
  refine c_reg ?_
  refine ow_batch [.p, .p, .p, .p] rfl ?_
  refine ow_cut [(14, .bool ((decide (p0 ≥ p1)) && (decide (p0 ≤ p2)))), (6, .bool false)] 4 ?_ (fun key => OW.sub (R := [(0, .int .i64 p0), (2, .int .i64 p2), (6, .bool false), (10, .bool (decide (p0 ≥ p1)))]) ?_ ⟨rfl, rfl, rfl, rfl, trivial⟩)
  · refine ow_batch [.p] rfl ?_
    refine ow_nil ?_
    refine x_qs ?_
    refine c_ret ?_
    exact x_retR (rs := [.tmp 6]) (vs := [.bool ((decide (p0 ≥ p1)) && (decide (p0 ≤ p2)))]) rfl ⟨rfl, trivial⟩ (fun w' hw' => by
        obtain rfl := of_some H
        exact ⟨rfl, hw'.ext⟩)
  · generalize (decide (p0 ≥ p1)) = t2 at key ⊢
    cases t2
    · refine ow_batch [.p, .p, .p, .p] rfl ?_
      exact OW.sub key ⟨rfl, rfl, trivial⟩
    · refine ow_batch [.p, .p, .p] rfl ?_
      refine ow_batch [.p] rfl ?_
      exact OW.sub key ⟨rfl, rfl, trivial⟩

set_option maxHeartbeats 4000000 in
set_option maxRecDepth 100000 in
theorem impl_ScoreOk_1_ok (w : World) {p0 : Int}  {r : Bool} (H : impl_ScoreOk_1 p0 = some r)   :
    Calls Try.prog 59 #[.int .i64 p0] w (fun en w' => en = .returned (.bool r) ∧ Ext [] w w') := by
  unfold impl_ScoreOk_1 at H
  refine f_enter (vs := [.int .i64 p0]) Try.func59 rfl Try.ntmps59 rfl (St.init w []) ?_
  refine c_seq ?_
  refine c_reg ?_
  refine ow_batch [.p] rfl ?_
  refine ow_nil ?_
  refine x_qs ?_
  refine c_seq ?_
  refine c_reg ?_
  refine ow_batch [.p] rfl ?_
  obtain ⟨y1, h2, H⟩ := of_bind H
  refine ow_q rfl rfl (dstOk_lt rfl) (qy_call rfl fn47 rfl (fun w1 hw1 => impl_within_ok w1  h2)) (fun _ _ => trivial) ?_
  refine ow_batch [.p, .p] rfl ?_
  refine ow_nil ?_
  refine x_qs ?_
  refine c_ret ?_
  exact x_retR (rs := [.tmp 2]) (vs := [.bool (!y1)]) rfl ⟨rfl, trivial⟩ (fun w' hw' => by
      obtain rfl := of_some H
      exact ⟨rfl, hw'.ext⟩)

set_option maxHeartbeats 4000000 in
set_option maxRecDepth 100000 in
theorem impl_total_ok (w : World) {p0 : List Int} {a_0 : Option Addr} {n_0 c_0 : Nat} {r : Int} (H : impl_total p0 = some r)  (g0 : (eList (eVal (Value.int .i64) (fun _ => rfl)) 3).rd w [] p0 [.slice a_0 n_0 c_0]) :
    Calls Try.prog 44 #[.slice a_0 n_0 c_0] w (fun en w' => en = .returned (.int .i64 r) ∧ Ext [] w w') := by
  obtain rfl := rd_n g0
  unfold impl_total at H
  refine f_enter (vs := [.slice a_0 p0.length c_0]) Try.func44 rfl Try.ntmps44 rfl (St.init w []) ?_
  refine c_seq ?_
  refine c_reg ?_
  refine ow_batch [.p] rfl ?_
  refine ow_nil ?_
  refine x_qs ?_
  refine c_seq ?_
  refine c_reg ?_
  refine ow_batch [.p] rfl ?_
  refine ow_nil ?_
  refine x_qs ?_
  refine c_seq ?_
  refine c_seq ?_
  refine c_reg ?_
  refine ow_batch [.p, .lenS 53 3 sl53, .p] rfl ?_
  refine ow_nil ?_
  refine x_qs ?_
  refine c_block ?_
  refine CW.at (loopI2 (fun (i5 : Int) (i6 : Int) => St w [] []) (fun (i5 : Int) (i6 : Int) => [(3, .int .i64 i5), (6, .slice a_0 p0.length c_0), (7, .int .i64 (p0.length : Int)), (8, .int .i64 i6)]) (fun kk => fun (i5 : Int) (i6 : Int) => impl_total_L1 p0 kk i5 i6 = some r) (fun _ _ H => ?_) (fun k1 ihk1 i5 i6 H => ?_) Fuel (0) (0) (H)) (fun _ h => St.sel [] rfl rfl h) ⟨rfl, rfl, rfl, rfl,  trivial⟩
  · unfold impl_total_L1 at H
    exact absurd H (by simp)
  · unfold impl_total_L1 at H
    refine c_seq ?_
    refine c_reg ?_
    refine ow_batch [.p] rfl ?_
    refine ow_nil ?_
    refine x_qs ?_
    refine c_seq ?_
    refine c_if rfl (fun hb => ?_) (fun hb => ?_)
    · have H := of_if_t hb H
      refine c_skip ?_
      refine x_qs ?_
      refine c_seq ?_
      refine c_block ?_
      refine c_seq ?_
      refine c_reg ?_
      obtain ⟨e11, h12, H⟩ := of_bind H
      refine ow_ixE (e := eVal (Value.int .i64) (fun _ => rfl)) (xs := p0) (j := i6) rfl rfl rfl rfl rfl sl53 ty3 rfl (fun w1 hw1 => rds_bor g0 w1 hw1) h12 (by rw [Nat.mul_one]) ?_
      refine ow_r rfl (dstOk_lt rfl) (ry_load1 rfl rfl ty3 (at_elV (fun w1 hw1 => rds_bor g0 w1 hw1) h12)) ?_
      refine ow_batch [.p] rfl ?_
      refine ow_nil ?_
      refine x_qs ?_
      refine c_reg ?_
      refine ow_batch [.p, .p, .p, .p] rfl ?_
      refine ow_nil ?_
      refine x_qb ?_
      refine x_qs ?_
      refine c_reg ?_
      refine ow_batch [.p, .p] rfl ?_
      refine ow_nil ?_
      exact x_ql (RW.at (ihk1 (IntKind.i64.wrap (i5 + e11)) (IntKind.i64.wrap (i6 + 1)) (H)) (fun _ h => St.sel [] rfl rfl h) ⟨rfl, rfl, rfl, rfl, trivial⟩)
    · have H := of_if_f hb H
      refine c_exit ?_
      refine x_qs_exit ?_
      refine x_ql_exit ?_
      refine x_qb_here ?_
      refine x_qs ?_
      refine c_seq ?_
      refine c_reg ?_
      refine ow_batch [.p, .p] rfl ?_
      refine ow_nil ?_
      refine x_qs ?_
      refine c_ret ?_
      exact x_retR (rs := [.tmp 2]) (vs := [.int .i64 i5]) rfl ⟨rfl, trivial⟩ (fun w' hw' => by
          obtain rfl := of_some H
          exact ⟨rfl, hw'.ext⟩)

set_option maxHeartbeats 4000000 in
set_option maxRecDepth 100000 in
theorem impl_tableSum_ok (w : World) {p0 : List (List Int)} {a_0 : Option Addr} {n_0 c_0 : Nat} {r : Int} (H : impl_tableSum p0 = some r)  (g0 : (eList (eList (eVal (Value.int .i64) (fun _ => rfl)) 3) 53).rd w [] p0 [.slice a_0 n_0 c_0]) :
    Calls Try.prog 43 #[.slice a_0 n_0 c_0] w (fun en w' => en = .returned (.int .i64 r) ∧ Ext [] w w') := by
  obtain rfl := rd_n g0
  unfold impl_tableSum at H
  refine f_enter (vs := [.slice a_0 p0.length c_0]) Try.func43 rfl Try.ntmps43 rfl (St.init w []) ?_
  refine c_seq ?_
  refine c_reg ?_
  refine ow_batch [.p] rfl ?_
  refine ow_nil ?_
  refine x_qs ?_
  refine c_seq ?_
  refine c_reg ?_
  refine ow_batch [.p] rfl ?_
  refine ow_nil ?_
  refine x_qs ?_
  refine c_seq ?_
  refine c_seq ?_
  refine c_reg ?_
  refine ow_batch [.p, .lenS 22 53 sl22, .p] rfl ?_
  refine ow_nil ?_
  refine x_qs ?_
  refine c_block ?_
  refine CW.at (loopI2 (fun (i13 : Int) (i14 : Int) => St w [] []) (fun (i13 : Int) (i14 : Int) => [(3, .int .i64 i13), (6, .slice a_0 p0.length c_0), (7, .int .i64 (p0.length : Int)), (8, .int .i64 i14)]) (fun kk => fun (i13 : Int) (i14 : Int) => impl_tableSum_L1 p0 kk i13 i14 = some r) (fun _ _ H => ?_) (fun k1 ihk1 i13 i14 H => ?_) Fuel (0) (0) (H)) (fun _ h => St.sel [] rfl rfl h) ⟨rfl, rfl, rfl, rfl,  trivial⟩
  · unfold impl_tableSum_L1 at H
    exact absurd H (by simp)
  · unfold impl_tableSum_L1 at H
    refine c_seq ?_
    refine c_reg ?_
    refine ow_batch [.p] rfl ?_
    refine ow_nil ?_
    refine x_qs ?_
    refine c_seq ?_
    refine c_if rfl (fun hb => ?_) (fun hb => ?_)
    · have H := of_if_t hb H
      refine c_skip ?_
      refine x_qs ?_
      refine c_seq ?_
      refine c_block ?_
      refine c_seq ?_
      refine c_reg ?_
      obtain ⟨e27, h28, H⟩ := of_bind H
      refine ow_ixB rfl rfl rfl rfl rfl sl22 ty53 rfl g0 h28 (fun q31 c32 hd29 hA30 => ?_)
      obtain ⟨a33, c34, rfl⟩ := rd_sl1 hd29
      refine ow_r rfl (dstOk_lt rfl) (ry_load1 rfl rfl ty53 (at_bor bor hA30)) ?_
      refine ow_batch [.p] rfl ?_
      refine ow_nil ?_
      refine x_qs ?_
      refine c_reg ?_
      refine ow_batch [.p, .p] rfl ?_
      obtain ⟨y35, h36, H⟩ := of_bind H
      refine ow_q rfl rfl (dstOk_lt rfl) (qy_call rfl fn44 rfl (fun w1 hw1 => impl_total_ok w1  h36 (rds_bor hd29 w1 hw1))) (fun _ _ => trivial) ?_
      refine ow_batch [.p, .p] rfl ?_
      refine ow_nil ?_
      refine x_qb ?_
      refine x_qs ?_
      refine c_reg ?_
      refine ow_batch [.p, .p] rfl ?_
      refine ow_nil ?_
      exact x_ql (RW.at (ihk1 (IntKind.i64.wrap (i13 + y35)) (IntKind.i64.wrap (i14 + 1)) (H)) (fun _ h => St.sel [] rfl rfl h) ⟨rfl, rfl, rfl, rfl, trivial⟩)
    · have H := of_if_f hb H
      refine c_exit ?_
      refine x_qs_exit ?_
      refine x_ql_exit ?_
      refine x_qb_here ?_
      refine x_qs ?_
      refine c_seq ?_
      refine c_reg ?_
      refine ow_batch [.p, .p] rfl ?_
      refine ow_nil ?_
      refine x_qs ?_
      refine c_ret ?_
      exact x_retR (rs := [.tmp 2]) (vs := [.int .i64 i13]) rfl ⟨rfl, trivial⟩ (fun w' hw' => by
          obtain rfl := of_some H
          exact ⟨rfl, hw'.ext⟩)

set_option maxHeartbeats 4000000 in
set_option maxRecDepth 100000 in
theorem lib_slices_IndexFunc___int_int___impl_ScoreOk_1_ok (w : World) {p0 : List Int} {a_0 : Option Addr} {n_0 c_0 : Nat} {r : Int} (H : lib_slices_IndexFunc___int_int___impl_ScoreOk_1 p0 = some r)  (g0 : (eList (eVal (Value.int .i64) (fun _ => rfl)) 3).rd w [] p0 [.slice a_0 n_0 c_0]) :
    Calls Try.prog 76 #[.slice a_0 n_0 c_0, .func (.func 59) #[] #[]] w (fun en w' => en = .returned (.int .i64 r) ∧ Ext [] w w') := by
  obtain rfl := rd_n g0
  unfold lib_slices_IndexFunc___int_int___impl_ScoreOk_1 at H
  refine f_enter (vs := [.slice a_0 p0.length c_0, .func (.func 59) #[] #[]]) Try.func76 rfl Try.ntmps76 rfl (St.init w []) ?_
  refine c_seq ?_
  refine c_reg ?_
  refine ow_batch [.p] rfl ?_
  refine ow_nil ?_
  refine x_qs ?_
  refine c_seq ?_
  refine c_seq ?_
  refine c_reg ?_
  refine ow_batch [.p, .lenS 53 3 sl53, .p] rfl ?_
  refine ow_nil ?_
  refine x_qs ?_
  refine c_block ?_
  refine CW.at (loopI1 (fun (i6 : Int) => St w [] []) (fun (i6 : Int) => [(0, .slice a_0 p0.length c_0), (1, .func (.func 59) #[] #[]), (7, .int .i64 (p0.length : Int)), (8, .int .i64 i6)]) (fun kk => fun (i6 : Int) => lib_slices_IndexFunc___int_int___impl_ScoreOk_1_L1 p0 kk i6 = some r) (fun _ H => ?_) (fun k1 ihk1 i6 H => ?_) Fuel (0) (H)) (fun _ h => St.sel [] rfl rfl h) ⟨rfl, rfl, rfl, rfl,  trivial⟩
  · unfold lib_slices_IndexFunc___int_int___impl_ScoreOk_1_L1 at H
    exact absurd H (by simp)
  · unfold lib_slices_IndexFunc___int_int___impl_ScoreOk_1_L1 at H
    refine c_seq ?_
    refine c_reg ?_
    refine ow_batch [.p] rfl ?_
    refine ow_nil ?_
    refine x_qs ?_
    refine c_seq ?_
    refine c_if rfl (fun hb => ?_) (fun hb => ?_)
    · have H := of_if_t hb H
      refine c_skip ?_
      refine x_qs ?_
      refine c_seq ?_
      refine c_block ?_
      refine c_seq ?_
      refine c_reg ?_
      refine ow_batch [.p, .p] rfl ?_
      refine ow_nil ?_
      refine x_qs ?_
      refine c_seq ?_
      refine c_reg ?_
      refine ow_batch [.p, .p, .p] rfl ?_
      obtain ⟨e12, h13, H⟩ := of_bind H
      refine ow_ixE (e := eVal (Value.int .i64) (fun _ => rfl)) (xs := p0) (j := i6) rfl rfl rfl rfl rfl sl53 ty3 rfl (fun w1 hw1 => rds_bor g0 w1 hw1) h13 (by rw [Nat.mul_one]) ?_
      refine ow_r rfl (dstOk_lt rfl) (ry_load1 rfl rfl ty3 (at_elV (fun w1 hw1 => rds_bor g0 w1 hw1) h13)) ?_
      obtain ⟨y14, h15, H⟩ := of_bind H
      refine ow_q rfl rfl (dstOk_lt rfl) (qy_callV (cap := []) rfl fn59 rfl rfl (fun w1 hw1 => impl_ScoreOk_1_ok w1  h15)) (fun _ _ => trivial) ?_
      refine ow_nil ?_
      refine x_qs ?_
      refine c_if rfl (fun hb => ?_) (fun hb => ?_)
      · have H := of_if_t hb H
        refine c_seq ?_
        refine c_reg ?_
        refine ow_batch [.p, .p] rfl ?_
        refine ow_nil ?_
        refine x_qs ?_
        refine c_ret ?_
        refine x_qb_ret ?_
        refine x_qs_ret ?_
        refine x_ql_ret ?_
        refine x_qb_ret ?_
        refine x_qs_ret ?_
        exact x_retR (rs := [.tmp 4]) (vs := [.int .i64 i6]) rfl ⟨rfl, trivial⟩ (fun w' hw' => by
            obtain rfl := of_some H
            exact ⟨rfl, hw'.ext⟩)
      · have H := of_if_f hb H
        refine c_skip ?_
        refine x_qb ?_
        refine x_qs ?_
        refine c_reg ?_
        refine ow_batch [.p, .p] rfl ?_
        refine ow_nil ?_
        exact x_ql (RW.at (ihk1 (IntKind.i64.wrap (i6 + 1)) (H)) (fun _ h => St.sel [] rfl rfl h) ⟨rfl, rfl, rfl, rfl, trivial⟩)
    · have H := of_if_f hb H
      refine c_exit ?_
      refine x_qs_exit ?_
      refine x_ql_exit ?_
      refine x_qb_here ?_
      refine x_qs ?_
      refine c_seq ?_
      refine c_reg ?_
      refine ow_batch [.p] rfl ?_
      refine ow_nil ?_
      refine x_qs ?_
      refine c_ret ?_
      exact x_retR (rs := [.tmp 4]) (vs := [.int .i64 (-1)]) rfl ⟨rfl, trivial⟩ (fun w' hw' => by
          obtain rfl := of_some H
          exact ⟨rfl, hw'.ext⟩)

set_option maxHeartbeats 4000000 in
set_option maxRecDepth 100000 in
theorem lib_slices_ContainsFunc___int_int___impl_ScoreOk_1_ok (w : World) {p0 : List Int} {a_0 : Option Addr} {n_0 c_0 : Nat} {r : Bool} (H : lib_slices_ContainsFunc___int_int___impl_ScoreOk_1 p0 = some r)  (g0 : (eList (eVal (Value.int .i64) (fun _ => rfl)) 3).rd w [] p0 [.slice a_0 n_0 c_0]) :
    Calls Try.prog 58 #[.slice a_0 n_0 c_0, .func (.func 59) #[] #[]] w (fun en w' => en = .returned (.bool r) ∧ Ext [] w w') := by
  obtain rfl := rd_n g0
  unfold lib_slices_ContainsFunc___int_int___impl_ScoreOk_1 at H
  refine f_enter (vs := [.slice a_0 p0.length c_0, .func (.func 59) #[] #[]]) Try.func58 rfl Try.ntmps58 rfl (St.init w []) ?_
  refine c_seq ?_
  refine c_reg ?_
  refine ow_batch [.p] rfl ?_
  refine ow_nil ?_
  refine x_qs ?_
  refine c_seq ?_
  refine c_reg ?_
  refine ow_batch [.p, .p] rfl ?_
  obtain ⟨y1, h2, H⟩ := of_bind H
  refine ow_q rfl rfl (dstOk_lt rfl) (qy_call rfl fn76 rfl (fun w1 hw1 => lib_slices_IndexFunc___int_int___impl_ScoreOk_1_ok w1  h2 (rds_bor g0 w1 hw1))) (fun _ _ => trivial) ?_
  refine ow_batch [.p, .p] rfl ?_
  refine ow_nil ?_
  refine x_qs ?_
  refine c_ret ?_
  exact x_retR (rs := [.tmp 4]) (vs := [.bool (decide (y1 ≥ 0))]) rfl ⟨rfl, trivial⟩ (fun w' hw' => by
      obtain rfl := of_some H
      exact ⟨rfl, hw'.ext⟩)

set_option maxHeartbeats 4000000 in
set_option maxRecDepth 100000 in
theorem impl_ScoreOk_ok (w : World) {p0 : Int} {p1 : Timpl_Score} {cs1 : List Value} {r : Bool} (H : impl_ScoreOk p0 p1 = some r)  (g1 : (eTimpl_Score).rd w [] p1 cs1) :
    Calls Try.prog 34 #[.int .i64 p0, .agg cs1.toArray] w (fun en w' => en = .returned (.bool r) ∧ Ext [] w w') := by
  obtain ⟨c1, c2, rfl, g3, g4⟩ := rdo_Timpl_Score g1
  obtain ⟨a5, c6, rfl⟩ := rd_sl1 g3
  obtain ⟨a7, c8, rfl⟩ := rd_sl1 g4
  unfold impl_ScoreOk at H
  refine f_enter (vs := [.int .i64 p0, .agg #[.slice a5 p1.Table_.length c6, .slice a7 p1.Last_.length c8]]) Try.func34 rfl Try.ntmps34 rfl (St.init w []) ?_
  refine c_seq ?_
  refine c_reg ?_
  refine ow_box (cs := [.slice a5 p1.Table_.length c6, .slice a7 p1.Last_.length c8]) rfl rfl rfl rfl rfl rfl (fun _ => kp) (fun b9 => ?_)
  refine ow_batch [.p] rfl ?_
  refine ow_nil ?_
  refine x_qs ?_
  refine c_seq ?_
  refine c_seq ?_
  refine c_reg ?_
  refine ow_batch [.p] rfl ?_
  obtain ⟨y10, h11, H⟩ := of_bind H
  refine ow_q rfl rfl (dstOk_lt rfl) (qy_call rfl fn47 rfl (fun w1 hw1 => impl_within_ok w1  h11)) (fun _ _ => trivial) ?_
  refine ow_batch [.p, .p] rfl ?_
  refine ow_cut [(20, .bool ((!y10) || ((p1.Table_.length : Int) != p0))), (0, .int .i64 p0), (3, .pointer (some ⟨b9, 0, none⟩))] 6 ?_ (fun key => OW.sub (R := [(0, .int .i64 p0), (3, .pointer (some ⟨b9, 0, none⟩)), (14, .bool (!y10))]) ?_ ⟨rfl, rfl, rfl, trivial⟩)
  · refine ow_nil ?_
    refine x_qs ?_
    refine c_if rfl (fun hb => ?_) (fun hb => ?_)
    · have H := of_if_t hb H
      refine c_seq ?_
      refine c_reg ?_
      refine ow_batch [.p] rfl ?_
      refine ow_nil ?_
      refine x_qs ?_
      refine c_ret ?_
      refine x_qs_ret ?_
      exact x_retR (rs := [.tmp 4]) (vs := [.bool false]) rfl ⟨rfl, trivial⟩ (fun w' hw' => by
          obtain rfl := of_some H
          exact ⟨rfl, hw'.ext⟩)
    · have H := of_if_f hb H
      refine c_skip ?_
      refine x_qs ?_
      refine c_seq ?_
      refine c_seq ?_
      refine c_reg ?_
      refine ow_batch [.fa 30 0 0 fa30_0] rfl ?_
      refine ow_r rfl (dstOk_lt rfl) (ry_box1 (off := 0) rfl rfl ty22 (boxIn (i := 0) rfl) rfl) ?_
      refine ow_batch [.lenS 22 53 sl22, .p] rfl ?_
      refine ow_nil ?_
      refine x_qs ?_
      refine c_block ?_
      refine CW.at (loopI1 (fun (i28 : Int) => St w [] [Res.box b9 30 [.slice a5 p1.Table_.length c6, .slice a7 p1.Last_.length c8]]) (fun (i28 : Int) => [(0, .int .i64 p0), (3, .pointer (some ⟨b9, 0, none⟩)), (22, .slice a5 p1.Table_.length c6), (23, .int .i64 (p1.Table_.length : Int)), (24, .int .i64 i28)]) (fun kk => fun (i28 : Int) => impl_ScoreOk_L1 p1 p0 kk i28 = some r) (fun _ H => ?_) (fun k1 ihk1 i28 H => ?_) Fuel (0) (H)) (fun _ h => St.sel [0] rfl rfl h) ⟨rfl, rfl, rfl, rfl, rfl,  trivial⟩
      · unfold impl_ScoreOk_L1 at H
        exact absurd H (by simp)
      · unfold impl_ScoreOk_L1 at H
        refine c_seq ?_
        refine c_reg ?_
        refine ow_batch [.p] rfl ?_
        refine ow_nil ?_
        refine x_qs ?_
        refine c_seq ?_
        refine c_if rfl (fun hb => ?_) (fun hb => ?_)
        · have H := of_if_t hb H
          refine c_skip ?_
          refine x_qs ?_
          refine c_seq ?_
          refine c_block ?_
          refine c_seq ?_
          refine c_reg ?_
          obtain ⟨e43, h44, H⟩ := of_bind H
          refine ow_ixB rfl rfl rfl rfl rfl sl22 ty53 rfl g3 h44 (fun q47 c48 hd45 hA46 => ?_)
          obtain ⟨a49, c50, rfl⟩ := rd_sl1 hd45
          refine ow_r rfl (dstOk_lt rfl) (ry_load1 rfl rfl ty53 (at_bor bor hA46)) ?_
          refine ow_batch [.p] rfl ?_
          refine ow_nil ?_
          refine x_qs ?_
          refine c_seq ?_
          refine c_reg ?_
          refine ow_batch [.p, .lenS 53 3 sl53, .p, .p, .p] rfl ?_
          obtain ⟨u51, hu55, H⟩ := of_bind H
          refine ow_cut [(35, .bool u51), (0, .int .i64 p0), (3, .pointer (some ⟨b9, 0, none⟩)), (22, .slice a5 p1.Table_.length c6), (23, .int .i64 (p1.Table_.length : Int)), (24, .int .i64 i28)] 3 ?_ (fun key => OW.sub (R := [(0, .int .i64 p0), (3, .pointer (some ⟨b9, 0, none⟩)), (6, .slice a49 e43.length c50), (22, .slice a5 p1.Table_.length c6), (23, .int .i64 (p1.Table_.length : Int)), (24, .int .i64 i28), (32, .bool ((e43.length : Int) != p0))]) ?_ ⟨rfl, rfl, rfl, rfl, rfl, rfl, rfl, trivial⟩)
          · refine ow_nil ?_
            refine x_qs ?_
            refine c_if rfl (fun hb => ?_) (fun hb => ?_)
            · have H := of_if_t hb H
              refine c_seq ?_
              refine c_reg ?_
              refine ow_batch [.p] rfl ?_
              refine ow_nil ?_
              refine x_qs ?_
              refine c_ret ?_
              refine x_qb_ret ?_
              refine x_qs_ret ?_
              refine x_ql_ret ?_
              refine x_qb_ret ?_
              refine x_qs_ret ?_
              exact x_retR (rs := [.tmp 4]) (vs := [.bool false]) rfl ⟨rfl, trivial⟩ (fun w' hw' => by
                  obtain rfl := of_some H
                  exact ⟨rfl, hw'.ext⟩)
            · have H := of_if_f hb H
              refine c_skip ?_
              refine x_qb ?_
              refine x_qs ?_
              refine c_reg ?_
              refine ow_batch [.p, .p] rfl ?_
              refine ow_nil ?_
              exact x_ql (RW.at (ihk1 (IntKind.i64.wrap (i28 + 1)) (H)) (fun _ h => St.sel [0] rfl rfl h) ⟨rfl, rfl, rfl, rfl, rfl, trivial⟩)
          · clear H
            have H := hu55
            clear hu55
            generalize ((e43.length : Int) != p0) = t54 at H ⊢
            cases t54
            · have H := of_if_f rfl H
              refine ow_batch [.p] rfl ?_
              obtain ⟨y52, h53, H⟩ := of_bind H
              refine ow_q rfl rfl (dstOk_lt rfl) (qy_call rfl fn58 rfl (fun w1 hw1 => lib_slices_ContainsFunc___int_int___impl_ScoreOk_1_ok w1  h53 (rds_bor hd45 w1 hw1))) (fun _ _ => trivial) ?_
              refine ow_batch [.p] rfl ?_
              obtain rfl := of_some H
              exact OW.sub key ⟨rfl, rfl, rfl, rfl, rfl, rfl, trivial⟩
            · have H := of_if_t rfl H
              refine ow_batch [.p, .p, .p] rfl ?_
              obtain rfl := of_some H
              exact OW.sub key ⟨rfl, rfl, rfl, rfl, rfl, rfl, trivial⟩
        · have H := of_if_f hb H
          refine c_exit ?_
          refine x_qs_exit ?_
          refine x_ql_exit ?_
          refine x_qb_here ?_
          refine x_qs ?_
          refine c_seq ?_
          refine c_reg ?_
          refine ow_batch [.fa 30 0 0 fa30_0] rfl ?_
          refine ow_r rfl (dstOk_lt rfl) (ry_box1 (off := 0) rfl rfl ty22 (boxIn (i := 0) rfl) rfl) ?_
          obtain ⟨y56, h57, H⟩ := of_bind H
          refine ow_q rfl rfl (dstOk_lt rfl) (qy_call rfl fn43 rfl (fun w1 hw1 => impl_tableSum_ok w1  h57 (rds_bor g3 w1 hw1))) (fun _ _ => trivial) ?_
          refine ow_batch [.p] rfl ?_
          refine ow_nil ?_
          refine x_qs ?_
          refine c_seq ?_
          refine c_seq ?_
          refine c_reg ?_
          refine ow_batch [.p, .p, .p] rfl ?_
          refine ow_cut [(49, .bool ((decide (y56 > 9999)) || ((p1.Last_.length : Int) != (if 20 < y56 then 20 else y56)))), (0, .int .i64 p0), (3, .pointer (some ⟨b9, 0, none⟩))] 7 ?_ (fun key => OW.sub (R := [(0, .int .i64 p0), (3, .pointer (some ⟨b9, 0, none⟩)), (7, .int .i64 y56), (42, .bool (decide (y56 > 9999)))]) ?_ ⟨rfl, rfl, rfl, rfl, trivial⟩)
          · refine ow_nil ?_
            refine x_qs ?_
            refine c_if rfl (fun hb => ?_) (fun hb => ?_)
            · have H := of_if_t hb H
              refine c_seq ?_
              refine c_reg ?_
              refine ow_batch [.p] rfl ?_
              refine ow_nil ?_
              refine x_qs ?_
              refine c_ret ?_
              refine x_qs_ret ?_
              exact x_retR (rs := [.tmp 4]) (vs := [.bool false]) rfl ⟨rfl, trivial⟩ (fun w' hw' => by
                  obtain rfl := of_some H
                  exact ⟨rfl, hw'.ext⟩)
            · have H := of_if_f hb H
              refine c_skip ?_
              refine x_qs ?_
              refine c_seq ?_
              refine c_reg ?_
              refine ow_makeMap (κ := Timpl_Pair) kfTimpl_Pair rfl rfl rfl rfl (fun _ => kp) (fun b60 => ?_)
              refine ow_batch [.p] rfl ?_
              refine ow_nil ?_
              refine x_qs ?_
              refine c_seq ?_
              refine c_seq ?_
              refine c_reg ?_
              refine ow_batch [.fa 30 1 1 fa30_1] rfl ?_
              refine ow_r rfl (dstOk_lt rfl) (ry_box1 (off := 1) rfl rfl ty28 (boxIn (i := 0) rfl) rfl) ?_
              refine ow_batch [.lenS 28 60 sl28, .p] rfl ?_
              refine ow_nil ?_
              refine x_qs ?_
              refine c_block ?_
              refine CW.at (loopI2 (fun (i86 : Int) (m87 : List (Timpl_Pair × Int)) => St w [] [Res.box b9 30 [.slice a5 p1.Table_.length c6, .slice a7 p1.Last_.length c8], Res.map kfTimpl_Pair b60 m87]) (fun (i86 : Int) (m87 : List (Timpl_Pair × Int)) => [(0, .int .i64 p0), (3, .pointer (some ⟨b9, 0, none⟩)), (8, .map (some b60)), (52, .slice a7 p1.Last_.length c8), (53, .int .i64 (p1.Last_.length : Int)), (54, .int .i64 i86)]) (fun kk => fun (i86 : Int) (m87 : List (Timpl_Pair × Int)) => impl_ScoreOk_L2 p1 p0 kk i86 m87 = some r) (fun _ _ H => ?_) (fun k2 ihk2 i86 m87 H => ?_) Fuel (0) (([] : List (Timpl_Pair × Int))) (H)) (fun _ h => St.sel [0, 1] rfl rfl h) ⟨rfl, rfl, rfl, rfl, rfl, rfl,  trivial⟩
              · unfold impl_ScoreOk_L2 at H
                exact absurd H (by simp)
              · unfold impl_ScoreOk_L2 at H
                refine c_seq ?_
                refine c_reg ?_
                refine ow_batch [.p] rfl ?_
                refine ow_nil ?_
                refine x_qs ?_
                refine c_seq ?_
                refine c_if rfl (fun hb => ?_) (fun hb => ?_)
                · have H := of_if_t hb H
                  refine c_skip ?_
                  refine x_qs ?_
                  refine c_seq ?_
                  refine c_block ?_
                  refine c_seq ?_
                  refine c_reg ?_
                  obtain ⟨e113, h114, H⟩ := of_bind H
                  refine ow_ixE (e := eTimpl_Pair) (xs := p1.Last_) (j := i86) rfl rfl rfl rfl rfl sl28 ty60 rfl (fun w1 hw1 => rds_bor g4 w1 hw1) h114 rfl ?_
                  refine ow_r rfl (dstOk_lt rfl) (ry_load (cs := [.int .i64 e113.Truth_, .int .i64 e113.Said_]) rfl rfl ty60 (at_castA (at_eltE (fun w1 hw1 => rds_bor g4 w1 hw1) h114 (fun _ _ h => h)) rfl) rfl) ?_
                  refine ow_alloc rfl rfl rfl rfl ty60 (fun _ => kp) (fun b115 => ?_)
                  refine ow_storeC (off := 0) [.int .i64 e113.Truth_, .int .i64 e113.Said_] [_, _] (i := 2) rfl rfl rfl rfl rfl rfl ty60 rfl rfl (by intro u hu; simp only [List.mem_cons, List.not_mem_nil, or_false] at hu; rcases hu with rfl | rfl <;> rfl) rfl rfl rfl kp ?_
                  refine ow_nil ?_
                  refine x_qs ?_
                  refine c_seq ?_
                  refine c_regHT 6 [(0, true), (1, true), (2, true), (3, true), (4, false), (5, true)] (St w [] [Res.box b9 30 [.slice a5 p1.Table_.length c6, .slice a7 p1.Last_.length c8], Res.mapG kfTimpl_Pair b60 m87, Res.box b115 60 [.int .i64 e113.Truth_, .int .i64 e113.Said_]]) mixed (by kernel_rfl) (panicOk_qs (panicOk_qb (panicOk_qs (panicOk_ql (panicOk_qb (panicOk_qs panicOk_body)))))) (fun _ h => St.mask [true, true, true] rfl (St.toG 1 rfl (fun _ => rfl) h)) ?_
                  refine ow_batch [.p] rfl ?_
                  refine ow_rH rfl (dstOk_lt rfl) (ry_box (off := 0) (ds := [.int .i64 e113.Truth_, .int .i64 e113.Said_]) rfl rfl ty60 (boxIn (i := 2) rfl) rfl rfl) ?_
                  refine ow_rH rfl (dstOk_lt rfl) (ry_lookup (f := kfTimpl_Pair) (es := m87) (k := e113) rfl rfl rfl mt71 iz3 ko60 (mapInG (i := 1) rfl)) ?_
                  refine ow_batch [.p] rfl ?_
                  refine ow_mapEntry (f := kfTimpl_Pair) (r := 1) (es := m87) (k := e113) rfl rfl rfl rfl rfl rfl mt71 iz3 ko60 rfl (fun _ h => St.mask [true, true, true] rfl (St.toG 1 rfl (by first | exact fun _ => rfl | exact mEnt_get _ _) h)) ?_
                  refine ow_batch [.p] rfl ?_
                  refine ow_nilH ?_
                  refine x_qt ?_
                  refine ow_entryStore (f := kfTimpl_Pair) (r := 1) (es := m87) (k := e113) rfl rfl rfl rfl rfl rfl rfl rfl kp ?_
                  refine ow_nil ?_
                  refine x_qs ?_
                  refine c_seq ?_
                  refine c_regQ mixed (by kernel_rfl) ?_
                  refine ow_batch [.fa 60 0 0 fa60_0] rfl ?_
                  refine ow_r rfl (dstOk_lt rfl) (ry_box1 (off := 0) rfl rfl ty3 (boxIn (i := 2) rfl) rfl) ?_
                  refine ow_batch [.p, .p] rfl ?_
                  obtain ⟨y116, h117, H⟩ := of_bind H
                  refine ow_q rfl rfl (dstOk_lt rfl) (qy_call rfl fn47 rfl (fun w1 hw1 => impl_within_ok w1  h117)) (fun _ _ => trivial) ?_
                  refine ow_batch [.p, .p] rfl ?_
                  obtain ⟨u118, hu122, H⟩ := of_bind H
                  refine ow_cut [(77, .bool u118), (0, .int .i64 p0), (3, .pointer (some ⟨b9, 0, none⟩)), (8, .map (some b60)), (10, .pointer (some ⟨b115, 0, none⟩)), (52, .slice a7 p1.Last_.length c8), (53, .int .i64 (p1.Last_.length : Int)), (54, .int .i64 i86)] 7 ?_ (fun key => OW.sub (R := [(0, .int .i64 p0), (3, .pointer (some ⟨b9, 0, none⟩)), (8, .map (some b60)), (10, .pointer (some ⟨b115, 0, none⟩)), (52, .slice a7 p1.Last_.length c8), (53, .int .i64 (p1.Last_.length : Int)), (54, .int .i64 i86), (70, .bool (!y116))]) ?_ ⟨rfl, rfl, rfl, rfl, rfl, rfl, rfl, rfl, trivial⟩)
                  · refine ow_batch [.p] rfl ?_
                    obtain ⟨u123, hu135, H⟩ := of_bind H
                    refine ow_cut [(93, .bool u123), (0, .int .i64 p0), (3, .pointer (some ⟨b9, 0, none⟩)), (8, .map (some b60)), (52, .slice a7 p1.Last_.length c8), (53, .int .i64 (p1.Last_.length : Int)), (54, .int .i64 i86)] 15 ?_ (fun key => OW.sub (R := [(0, .int .i64 p0), (3, .pointer (some ⟨b9, 0, none⟩)), (8, .map (some b60)), (10, .pointer (some ⟨b115, 0, none⟩)), (52, .slice a7 p1.Last_.length c8), (53, .int .i64 (p1.Last_.length : Int)), (54, .int .i64 i86), (78, .bool u118)]) ?_ ⟨rfl, rfl, rfl, rfl, rfl, rfl, rfl, rfl, trivial⟩)
                    · refine ow_nilQ ?_
                      refine x_qs ?_
                      refine c_if rfl (fun hb => ?_) (fun hb => ?_)
                      · have H := of_if_t hb H
                        refine c_seq ?_
                        refine c_reg ?_
                        refine ow_batch [.p] rfl ?_
                        refine ow_nil ?_
                        refine x_qs ?_
                        refine c_ret ?_
                        refine x_qb_ret ?_
                        refine x_qs_ret ?_
                        refine x_ql_ret ?_
                        refine x_qb_ret ?_
                        refine x_qs_ret ?_
                        exact x_retR (rs := [.tmp 4]) (vs := [.bool false]) rfl ⟨rfl, trivial⟩ (fun w' hw' => by
                            obtain rfl := of_some H
                            exact ⟨rfl, hw'.ext⟩)
                      · have H := of_if_f hb H
                        refine c_skip ?_
                        refine x_qb ?_
                        refine x_qs ?_
                        refine c_reg ?_
                        refine ow_batch [.p, .p] rfl ?_
                        refine ow_nil ?_
                        exact x_ql (RW.at (ihk2 (IntKind.i64.wrap (i86 + 1)) ((mPut m87 e113 (IntKind.i64.wrap ((mGet m87 e113) + 1)))) (H)) (fun _ h => St.sel [0, 1] rfl rfl h) ⟨rfl, rfl, rfl, rfl, rfl, rfl, trivial⟩)
                    · clear H
                      have H := hu135
                      clear hu135
                      generalize u118 = t134 at H ⊢
                      cases t134
                      · have H := of_if_f rfl H
                        refine ow_batch [.p] rfl ?_
                        refine ow_r rfl (dstOk_lt rfl) (ry_box (off := 0) (ds := [.int .i64 e113.Truth_, .int .i64 e113.Said_]) rfl rfl ty60 (boxIn (i := 2) rfl) rfl rfl) ?_
                        refine ow_r rfl (dstOk_lt rfl) (ry_lookup (f := kfTimpl_Pair) (es := (mPut m87 e113 (IntKind.i64.wrap ((mGet m87 e113) + 1)))) (k := e113) rfl rfl rfl mt71 iz3 ko60 (mapInR (i := 1) rfl)) ?_
                        refine ow_batch [.fa 30 0 0 fa30_0] rfl ?_
                        refine ow_r rfl (dstOk_lt rfl) (ry_box1 (off := 0) rfl rfl ty22 (boxIn (i := 0) rfl) rfl) ?_
                        refine ow_batch [.fa 60 0 0 fa60_0] rfl ?_
                        refine ow_r rfl (dstOk_lt rfl) (ry_box1 (off := 0) rfl rfl ty3 (boxIn (i := 2) rfl) rfl) ?_
                        obtain ⟨e124, h125, H⟩ := of_bind H
                        refine ow_ixB rfl rfl rfl rfl rfl sl22 ty53 rfl g3 h125 (fun q128 c129 hd126 hA127 => ?_)
                        obtain ⟨a130, c131, rfl⟩ := rd_sl1 hd126
                        refine ow_r rfl (dstOk_lt rfl) (ry_load1 rfl rfl ty53 (at_bor bor hA127)) ?_
                        refine ow_batch [.fa 60 1 1 fa60_1] rfl ?_
                        refine ow_r rfl (dstOk_lt rfl) (ry_box1 (off := 1) rfl rfl ty3 (boxIn (i := 2) rfl) rfl) ?_
                        obtain ⟨e132, h133, H⟩ := of_bind H
                        refine ow_ixE (e := eVal (Value.int .i64) (fun _ => rfl)) (xs := e124) (j := e113.Said_) rfl rfl rfl rfl rfl sl53 ty3 rfl (fun w1 hw1 => rds_bor hd126 w1 hw1) h133 (by rw [Nat.mul_one]) ?_
                        refine ow_r rfl (dstOk_lt rfl) (ry_load1 rfl rfl ty3 (at_elV (fun w1 hw1 => rds_bor hd126 w1 hw1) h133)) ?_
                        refine ow_batch [.p] rfl ?_
                        refine ow_batch [.p] rfl ?_
                        obtain rfl := of_some H
                        exact OW.sub key ⟨rfl, rfl, rfl, rfl, rfl, rfl, rfl, trivial⟩
                      · have H := of_if_t rfl H
                        refine ow_batch [.p, .p, .p, .p, .p, .p, .p, .p, .p, .p, .p, .p, .p, .p, .p] rfl ?_
                        obtain rfl := of_some H
                        exact OW.sub key ⟨rfl, rfl, rfl, rfl, rfl, rfl, rfl, trivial⟩
                  · clear H
                    have H := hu122
                    clear hu122
                    generalize (!y116) = t121 at H ⊢
                    cases t121
                    · have H := of_if_f rfl H
                      refine ow_batch [.fa 60 1 1 fa60_1] rfl ?_
                      refine ow_r rfl (dstOk_lt rfl) (ry_box1 (off := 1) rfl rfl ty3 (boxIn (i := 2) rfl) rfl) ?_
                      refine ow_batch [.p, .p] rfl ?_
                      obtain ⟨y119, h120, H⟩ := of_bind H
                      refine ow_q rfl rfl (dstOk_lt rfl) (qy_call rfl fn47 rfl (fun w1 hw1 => impl_within_ok w1  h120)) (fun _ _ => trivial) ?_
                      refine ow_batch [.p] rfl ?_
                      refine ow_batch [.p] rfl ?_
                      obtain rfl := of_some H
                      exact OW.sub key ⟨rfl, rfl, rfl, rfl, rfl, rfl, rfl, rfl, trivial⟩
                    · have H := of_if_t rfl H
                      refine ow_batch [.p, .p, .p, .p, .p, .p, .p] rfl ?_
                      obtain rfl := of_some H
                      exact OW.sub key ⟨rfl, rfl, rfl, rfl, rfl, rfl, rfl, rfl, trivial⟩
                · have H := of_if_f hb H
                  refine c_exit ?_
                  refine x_qs_exit ?_
                  refine x_ql_exit ?_
                  refine x_qb_here ?_
                  refine x_qs ?_
                  refine c_seq ?_
                  refine c_reg ?_
                  refine ow_batch [.p] rfl ?_
                  refine ow_nil ?_
                  refine x_qs ?_
                  refine c_ret ?_
                  exact x_retR (rs := [.tmp 4]) (vs := [.bool true]) rfl ⟨rfl, trivial⟩ (fun w' hw' => by
                      obtain rfl := of_some H
                      exact ⟨rfl, hw'.ext⟩)
          · generalize (decide (y56 > 9999)) = t59 at key ⊢
            cases t59
            · refine ow_batch [.fa 30 1 1 fa30_1] rfl ?_
              refine ow_r rfl (dstOk_lt rfl) (ry_box1 (off := 1) rfl rfl ty28 (boxIn (i := 0) rfl) rfl) ?_
              refine ow_batch [.lenS 28 60 sl28, .p] rfl ?_
              refine ow_r rfl (dstOk_lt rfl) (ry_min rfl rfl rfl) ?_
              refine ow_batch [.p] rfl ?_
              refine ow_batch [.p] rfl ?_
              exact OW.sub key ⟨rfl, rfl, rfl, trivial⟩
            · refine ow_batch [.p, .p, .p, .p, .p, .p, .p] rfl ?_
              exact OW.sub key ⟨rfl, rfl, rfl, trivial⟩
  · generalize (!y10) = t13 at key ⊢
    cases t13
    · refine ow_batch [.fa 30 0 0 fa30_0] rfl ?_
      refine ow_r rfl (dstOk_lt rfl) (ry_box1 (off := 0) rfl rfl ty22 (boxIn (i := 0) rfl) rfl) ?_
      refine ow_batch [.lenS 22 53 sl22, .p, .p] rfl ?_
      refine ow_batch [.p] rfl ?_
      exact OW.sub key ⟨rfl, rfl, rfl, trivial⟩
    · refine ow_batch [.p, .p, .p, .p, .p, .p] rfl ?_
      exact OW.sub key ⟨rfl, rfl, rfl, trivial⟩

set_option maxHeartbeats 4000000 in
set_option maxRecDepth 100000 in
theorem laws_eqIntS_ok (w : World) {p0 : List Int} {p1 : List Int} {a_0 : Option Addr} {n_0 c_0 : Nat} {a_1 : Option Addr} {n_1 c_1 : Nat} {r : Bool} (H : laws_eqIntS p0 p1 = some r)  (g0 : (eList (eVal (Value.int .i64) (fun _ => rfl)) 3).rd w [] p0 [.slice a_0 n_0 c_0]) (g1 : (eList (eVal (Value.int .i64) (fun _ => rfl)) 3).rd w [] p1 [.slice a_1 n_1 c_1]) :
    Calls Try.prog 63 #[.slice a_0 n_0 c_0, .slice a_1 n_1 c_1] w (fun en w' => en = .returned (.bool r) ∧ Ext [] w w') := by
  obtain rfl := rd_n g0
  obtain rfl := rd_n g1
  unfold laws_eqIntS at H
  refine f_enter (vs := [.slice a_0 p0.length c_0, .slice a_1 p1.length c_1]) Try.func63 rfl Try.ntmps63 rfl (St.init w []) ?_
  refine c_seq ?_
  refine c_reg ?_
  refine ow_batch [.p] rfl ?_
  refine ow_nil ?_
  refine x_qs ?_
  refine c_seq ?_
  refine c_seq ?_
  refine c_reg ?_
  refine ow_batch [.p, .lenS 53 3 sl53, .p, .lenS 53 3 sl53, .p] rfl ?_
  refine ow_nil ?_
  refine x_qs ?_
  refine c_if rfl (fun hb => ?_) (fun hb => ?_)
  · have H := of_if_t hb H
    refine c_seq ?_
    refine c_reg ?_
    refine ow_batch [.p] rfl ?_
    refine ow_nil ?_
    refine x_qs ?_
    refine c_ret ?_
    refine x_qs_ret ?_
    exact x_retR (rs := [.tmp 4]) (vs := [.bool false]) rfl ⟨rfl, trivial⟩ (fun w' hw' => by
        obtain rfl := of_some H
        exact ⟨rfl, hw'.ext⟩)
  · have H := of_if_f hb H
    refine c_skip ?_
    refine x_qs ?_
    refine c_seq ?_
    refine c_seq ?_
    refine c_reg ?_
    refine ow_batch [.p] rfl ?_
    refine ow_nil ?_
    refine x_qs ?_
    refine c_block ?_
    refine CW.at (loopI1 (fun (i6 : Int) => St w [] []) (fun (i6 : Int) => [(0, .slice a_0 p0.length c_0), (1, .slice a_1 p1.length c_1), (5, .int .i64 i6)]) (fun kk => fun (i6 : Int) => laws_eqIntS_L1 p0 p1 kk i6 = some r) (fun _ H => ?_) (fun k1 ihk1 i6 H => ?_) Fuel (0) (H)) (fun _ h => St.sel [] rfl rfl h) ⟨rfl, rfl, rfl,  trivial⟩
    · unfold laws_eqIntS_L1 at H
      exact absurd H (by simp)
    · unfold laws_eqIntS_L1 at H
      refine c_seq ?_
      refine c_seq ?_
      refine c_reg ?_
      refine ow_batch [.p, .p, .lenS 53 3 sl53, .p] rfl ?_
      refine ow_nil ?_
      refine x_qs ?_
      refine c_if rfl (fun hb => ?_) (fun hb => ?_)
      · have H := of_if_t hb H
        refine c_skip ?_
        refine x_qs ?_
        refine c_seq ?_
        refine c_block ?_
        refine c_seq ?_
        refine c_regQ mixed (by kernel_rfl) ?_
        refine ow_batch [.p, .p] rfl ?_
        obtain ⟨e12, h13, H⟩ := of_bind H
        refine ow_ixE (e := eVal (Value.int .i64) (fun _ => rfl)) (xs := p0) (j := i6) rfl rfl rfl rfl rfl sl53 ty3 rfl (fun w1 hw1 => rds_bor g0 w1 hw1) h13 (by rw [Nat.mul_one]) ?_
        refine ow_r rfl (dstOk_lt rfl) (ry_load1 rfl rfl ty3 (at_elV (fun w1 hw1 => rds_bor g0 w1 hw1) h13)) ?_
        refine ow_batch [.p, .p] rfl ?_
        obtain ⟨e14, h15, H⟩ := of_bind H
        refine ow_ixE (e := eVal (Value.int .i64) (fun _ => rfl)) (xs := p1) (j := i6) rfl rfl rfl rfl rfl sl53 ty3 rfl (fun w1 hw1 => rds_bor g1 w1 hw1) h15 (by rw [Nat.mul_one]) ?_
        refine ow_r rfl (dstOk_lt rfl) (ry_load1 rfl rfl ty3 (at_elV (fun w1 hw1 => rds_bor g1 w1 hw1) h15)) ?_
        refine ow_batch [.p] rfl ?_
        refine ow_nilQ ?_
        refine x_qs ?_
        refine c_if rfl (fun hb => ?_) (fun hb => ?_)
        · have H := of_if_t hb H
          refine c_seq ?_
          refine c_reg ?_
          refine ow_batch [.p] rfl ?_
          refine ow_nil ?_
          refine x_qs ?_
          refine c_ret ?_
          refine x_qb_ret ?_
          refine x_qs_ret ?_
          refine x_ql_ret ?_
          refine x_qb_ret ?_
          refine x_qs_ret ?_
          exact x_retR (rs := [.tmp 4]) (vs := [.bool false]) rfl ⟨rfl, trivial⟩ (fun w' hw' => by
              obtain rfl := of_some H
              exact ⟨rfl, hw'.ext⟩)
        · have H := of_if_f hb H
          refine c_skip ?_
          refine x_qb ?_
          refine x_qs ?_
          refine c_reg ?_
          refine ow_batch [.p, .p, .p] rfl ?_
          refine ow_nil ?_
          exact x_ql (RW.at (ihk1 (IntKind.i64.wrap (i6 + 1)) (H)) (fun _ h => St.sel [] rfl rfl h) ⟨rfl, rfl, rfl, trivial⟩)
      · have H := of_if_f hb H
        refine c_exit ?_
        refine x_qs_exit ?_
        refine x_ql_exit ?_
        refine x_qb_here ?_
        refine x_qs ?_
        refine c_seq ?_
        refine c_reg ?_
        refine ow_batch [.p] rfl ?_
        refine ow_nil ?_
        refine x_qs ?_
        refine c_ret ?_
        exact x_retR (rs := [.tmp 4]) (vs := [.bool true]) rfl ⟨rfl, trivial⟩ (fun w' hw' => by
            obtain rfl := of_some H
            exact ⟨rfl, hw'.ext⟩)

set_option maxHeartbeats 4000000 in
set_option maxRecDepth 100000 in
theorem laws_eqIntSS_ok (w : World) {p0 : List (List Int)} {p1 : List (List Int)} {a_0 : Option Addr} {n_0 c_0 : Nat} {a_1 : Option Addr} {n_1 c_1 : Nat} {r : Bool} (H : laws_eqIntSS p0 p1 = some r)  (g0 : (eList (eList (eVal (Value.int .i64) (fun _ => rfl)) 3) 53).rd w [] p0 [.slice a_0 n_0 c_0]) (g1 : (eList (eList (eVal (Value.int .i64) (fun _ => rfl)) 3) 53).rd w [] p1 [.slice a_1 n_1 c_1]) :
    Calls Try.prog 39 #[.slice a_0 n_0 c_0, .slice a_1 n_1 c_1] w (fun en w' => en = .returned (.bool r) ∧ Ext [] w w') := by
  obtain rfl := rd_n g0
  obtain rfl := rd_n g1
  unfold laws_eqIntSS at H
  refine f_enter (vs := [.slice a_0 p0.length c_0, .slice a_1 p1.length c_1]) Try.func39 rfl Try.ntmps39 rfl (St.init w []) ?_
  refine c_seq ?_
  refine c_reg ?_
  refine ow_batch [.p] rfl ?_
  refine ow_nil ?_
  refine x_qs ?_
  refine c_seq ?_
  refine c_seq ?_
  refine c_reg ?_
  refine ow_batch [.p, .lenS 22 53 sl22, .p, .lenS 22 53 sl22, .p] rfl ?_
  refine ow_nil ?_
  refine x_qs ?_
  refine c_if rfl (fun hb => ?_) (fun hb => ?_)
  · have H := of_if_t hb H
    refine c_seq ?_
    refine c_reg ?_
    refine ow_batch [.p] rfl ?_
    refine ow_nil ?_
    refine x_qs ?_
    refine c_ret ?_
    refine x_qs_ret ?_
    exact x_retR (rs := [.tmp 4]) (vs := [.bool false]) rfl ⟨rfl, trivial⟩ (fun w' hw' => by
        obtain rfl := of_some H
        exact ⟨rfl, hw'.ext⟩)
  · have H := of_if_f hb H
    refine c_skip ?_
    refine x_qs ?_
    refine c_seq ?_
    refine c_seq ?_
    refine c_reg ?_
    refine ow_batch [.p] rfl ?_
    refine ow_nil ?_
    refine x_qs ?_
    refine c_block ?_
    refine CW.at (loopI1 (fun (i20 : Int) => St w [] []) (fun (i20 : Int) => [(0, .slice a_0 p0.length c_0), (1, .slice a_1 p1.length c_1), (5, .int .i64 i20)]) (fun kk => fun (i20 : Int) => laws_eqIntSS_L1 p0 p1 kk i20 = some r) (fun _ H => ?_) (fun k1 ihk1 i20 H => ?_) Fuel (0) (H)) (fun _ h => St.sel [] rfl rfl h) ⟨rfl, rfl, rfl,  trivial⟩
    · unfold laws_eqIntSS_L1 at H
      exact absurd H (by simp)
    · unfold laws_eqIntSS_L1 at H
      refine c_seq ?_
      refine c_seq ?_
      refine c_reg ?_
      refine ow_batch [.p, .p, .lenS 22 53 sl22, .p] rfl ?_
      refine ow_nil ?_
      refine x_qs ?_
      refine c_if rfl (fun hb => ?_) (fun hb => ?_)
      · have H := of_if_t hb H
        refine c_skip ?_
        refine x_qs ?_
        refine c_seq ?_
        refine c_block ?_
        refine c_seq ?_
        refine c_regQ mixed (by kernel_rfl) ?_
        refine ow_batch [.p, .p] rfl ?_
        obtain ⟨e40, h41, H⟩ := of_bind H
        refine ow_ixB rfl rfl rfl rfl rfl sl22 ty53 rfl g0 h41 (fun q44 c45 hd42 hA43 => ?_)
        obtain ⟨a46, c47, rfl⟩ := rd_sl1 hd42
        refine ow_r rfl (dstOk_lt rfl) (ry_load1 rfl rfl ty53 (at_bor bor hA43)) ?_
        refine ow_batch [.p, .p] rfl ?_
        obtain ⟨e48, h49, H⟩ := of_bind H
        refine ow_ixB rfl rfl rfl rfl rfl sl22 ty53 rfl g1 h49 (fun q52 c53 hd50 hA51 => ?_)
        obtain ⟨a54, c55, rfl⟩ := rd_sl1 hd50
        refine ow_r rfl (dstOk_lt rfl) (ry_load1 rfl rfl ty53 (at_bor bor hA51)) ?_
        obtain ⟨y56, h57, H⟩ := of_bind H
        refine ow_q rfl rfl (dstOk_lt rfl) (qy_call rfl fn63 rfl (fun w1 hw1 => laws_eqIntS_ok w1  h57 (rds_bor hd42 w1 hw1) (rds_bor hd50 w1 hw1))) (fun _ _ => trivial) ?_
        refine ow_batch [.p] rfl ?_
        refine ow_nilQ ?_
        refine x_qs ?_
        refine c_if rfl (fun hb => ?_) (fun hb => ?_)
        · have H := of_if_t hb H
          refine c_seq ?_
          refine c_reg ?_
          refine ow_batch [.p] rfl ?_
          refine ow_nil ?_
          refine x_qs ?_
          refine c_ret ?_
          refine x_qb_ret ?_
          refine x_qs_ret ?_
          refine x_ql_ret ?_
          refine x_qb_ret ?_
          refine x_qs_ret ?_
          exact x_retR (rs := [.tmp 4]) (vs := [.bool false]) rfl ⟨rfl, trivial⟩ (fun w' hw' => by
              obtain rfl := of_some H
              exact ⟨rfl, hw'.ext⟩)
        · have H := of_if_f hb H
          refine c_skip ?_
          refine x_qb ?_
          refine x_qs ?_
          refine c_reg ?_
          refine ow_batch [.p, .p, .p] rfl ?_
          refine ow_nil ?_
          exact x_ql (RW.at (ihk1 (IntKind.i64.wrap (i20 + 1)) (H)) (fun _ h => St.sel [] rfl rfl h) ⟨rfl, rfl, rfl, trivial⟩)
      · have H := of_if_f hb H
        refine c_exit ?_
        refine x_qs_exit ?_
        refine x_ql_exit ?_
        refine x_qb_here ?_
        refine x_qs ?_
        refine c_seq ?_
        refine c_reg ?_
        refine ow_batch [.p] rfl ?_
        refine ow_nil ?_
        refine x_qs ?_
        refine c_ret ?_
        exact x_retR (rs := [.tmp 4]) (vs := [.bool true]) rfl ⟨rfl, trivial⟩ (fun w' hw' => by
            obtain rfl := of_some H
            exact ⟨rfl, hw'.ext⟩)

set_option maxHeartbeats 4000000 in
set_option maxRecDepth 100000 in
theorem laws_eqPair_ok (w : World) {p0 : Timpl_Pair} {p1 : Timpl_Pair}  {r : Bool} (H : laws_eqPair p0 p1 = some r)   :
    Calls Try.prog 64 #[.agg #[.int .i64 p0.Truth_, .int .i64 p0.Said_], .agg #[.int .i64 p1.Truth_, .int .i64 p1.Said_]] w (fun en w' => en = .returned (.bool r) ∧ Ext [] w w') := by
  unfold laws_eqPair at H
  refine f_enter (vs := [.agg #[.int .i64 p0.Truth_, .int .i64 p0.Said_], .agg #[.int .i64 p1.Truth_, .int .i64 p1.Said_]]) Try.func64 rfl Try.ntmps64 rfl (St.init w []) ?_
  refine c_seq ?_
  refine c_reg ?_
  refine ow_box (cs := [.int .i64 p0.Truth_, .int .i64 p0.Said_]) rfl rfl rfl rfl rfl rfl (fun _ => kp) (fun b1 => ?_)
  refine ow_box (cs := [.int .i64 p1.Truth_, .int .i64 p1.Said_]) rfl rfl rfl rfl rfl rfl (fun _ => kp) (fun b2 => ?_)
  refine ow_batch [.p] rfl ?_
  refine ow_nil ?_
  refine x_qs ?_
  refine c_seq ?_
  refine c_seq ?_
  refine c_reg ?_
  refine ow_batch [.fa 60 0 0 fa60_0] rfl ?_
  refine ow_r rfl (dstOk_lt rfl) (ry_box1 (off := 0) rfl rfl ty3 (boxIn (i := 0) rfl) rfl) ?_
  refine ow_batch [.fa 60 0 0 fa60_0] rfl ?_
  refine ow_r rfl (dstOk_lt rfl) (ry_box1 (off := 0) rfl rfl ty3 (boxIn (i := 1) rfl) rfl) ?_
  refine ow_batch [.p] rfl ?_
  refine ow_nil ?_
  refine x_qs ?_
  refine c_if rfl (fun hb => ?_) (fun hb => ?_)
  · have H := of_if_t hb H
    refine c_seq ?_
    refine c_reg ?_
    refine ow_batch [.p] rfl ?_
    refine ow_nil ?_
    refine x_qs ?_
    refine c_ret ?_
    refine x_qs_ret ?_
    exact x_retR (rs := [.tmp 4]) (vs := [.bool false]) rfl ⟨rfl, trivial⟩ (fun w' hw' => by
        obtain rfl := of_some H
        exact ⟨rfl, hw'.ext⟩)
  · have H := of_if_f hb H
    refine c_skip ?_
    refine x_qs ?_
    refine c_seq ?_
    refine c_seq ?_
    refine c_reg ?_
    refine ow_batch [.fa 60 1 1 fa60_1] rfl ?_
    refine ow_r rfl (dstOk_lt rfl) (ry_box1 (off := 1) rfl rfl ty3 (boxIn (i := 0) rfl) rfl) ?_
    refine ow_batch [.fa 60 1 1 fa60_1] rfl ?_
    refine ow_r rfl (dstOk_lt rfl) (ry_box1 (off := 1) rfl rfl ty3 (boxIn (i := 1) rfl) rfl) ?_
    refine ow_batch [.p] rfl ?_
    refine ow_nil ?_
    refine x_qs ?_
    refine c_if rfl (fun hb => ?_) (fun hb => ?_)
    · have H := of_if_t hb H
      refine c_seq ?_
      refine c_reg ?_
      refine ow_batch [.p] rfl ?_
      refine ow_nil ?_
      refine x_qs ?_
      refine c_ret ?_
      refine x_qs_ret ?_
      exact x_retR (rs := [.tmp 4]) (vs := [.bool false]) rfl ⟨rfl, trivial⟩ (fun w' hw' => by
          obtain rfl := of_some H
          exact ⟨rfl, hw'.ext⟩)
    · have H := of_if_f hb H
      refine c_skip ?_
      refine x_qs ?_
      refine c_seq ?_
      refine c_reg ?_
      refine ow_batch [.p] rfl ?_
      refine ow_nil ?_
      refine x_qs ?_
      refine c_ret ?_
      exact x_retR (rs := [.tmp 4]) (vs := [.bool true]) rfl ⟨rfl, trivial⟩ (fun w' hw' => by
          obtain rfl := of_some H
          exact ⟨rfl, hw'.ext⟩)

set_option maxHeartbeats 4000000 in
set_option maxRecDepth 100000 in
theorem laws_eqPairS_ok (w : World) {p0 : List Timpl_Pair} {p1 : List Timpl_Pair} {a_0 : Option Addr} {n_0 c_0 : Nat} {a_1 : Option Addr} {n_1 c_1 : Nat} {r : Bool} (H : laws_eqPairS p0 p1 = some r)  (g0 : (eList (eTimpl_Pair) 60).rd w [] p0 [.slice a_0 n_0 c_0]) (g1 : (eList (eTimpl_Pair) 60).rd w [] p1 [.slice a_1 n_1 c_1]) :
    Calls Try.prog 40 #[.slice a_0 n_0 c_0, .slice a_1 n_1 c_1] w (fun en w' => en = .returned (.bool r) ∧ Ext [] w w') := by
  obtain rfl := rd_n g0
  obtain rfl := rd_n g1
  unfold laws_eqPairS at H
  refine f_enter (vs := [.slice a_0 p0.length c_0, .slice a_1 p1.length c_1]) Try.func40 rfl Try.ntmps40 rfl (St.init w []) ?_
  refine c_seq ?_
  refine c_reg ?_
  refine ow_batch [.p] rfl ?_
  refine ow_nil ?_
  refine x_qs ?_
  refine c_seq ?_
  refine c_seq ?_
  refine c_reg ?_
  refine ow_batch [.p, .lenS 28 60 sl28, .p, .lenS 28 60 sl28, .p] rfl ?_
  refine ow_nil ?_
  refine x_qs ?_
  refine c_if rfl (fun hb => ?_) (fun hb => ?_)
  · have H := of_if_t hb H
    refine c_seq ?_
    refine c_reg ?_
    refine ow_batch [.p] rfl ?_
    refine ow_nil ?_
    refine x_qs ?_
    refine c_ret ?_
    refine x_qs_ret ?_
    exact x_retR (rs := [.tmp 4]) (vs := [.bool false]) rfl ⟨rfl, trivial⟩ (fun w' hw' => by
        obtain rfl := of_some H
        exact ⟨rfl, hw'.ext⟩)
  · have H := of_if_f hb H
    refine c_skip ?_
    refine x_qs ?_
    refine c_seq ?_
    refine c_seq ?_
    refine c_reg ?_
    refine ow_batch [.p] rfl ?_
    refine ow_nil ?_
    refine x_qs ?_
    refine c_block ?_
    refine CW.at (loopI1 (fun (i9 : Int) => St w [] []) (fun (i9 : Int) => [(0, .slice a_0 p0.length c_0), (1, .slice a_1 p1.length c_1), (5, .int .i64 i9)]) (fun kk => fun (i9 : Int) => laws_eqPairS_L1 p0 p1 kk i9 = some r) (fun _ H => ?_) (fun k1 ihk1 i9 H => ?_) Fuel (0) (H)) (fun _ h => St.sel [] rfl rfl h) ⟨rfl, rfl, rfl,  trivial⟩
    · unfold laws_eqPairS_L1 at H
      exact absurd H (by simp)
    · unfold laws_eqPairS_L1 at H
      refine c_seq ?_
      refine c_seq ?_
      refine c_reg ?_
      refine ow_batch [.p, .p, .lenS 28 60 sl28, .p] rfl ?_
      refine ow_nil ?_
      refine x_qs ?_
      refine c_if rfl (fun hb => ?_) (fun hb => ?_)
      · have H := of_if_t hb H
        refine c_skip ?_
        refine x_qs ?_
        refine c_seq ?_
        refine c_block ?_
        refine c_seq ?_
        refine c_regQ mixed (by kernel_rfl) ?_
        refine ow_batch [.p, .p] rfl ?_
        obtain ⟨e18, h19, H⟩ := of_bind H
        refine ow_ixE (e := eTimpl_Pair) (xs := p0) (j := i9) rfl rfl rfl rfl rfl sl28 ty60 rfl (fun w1 hw1 => rds_bor g0 w1 hw1) h19 rfl ?_
        refine ow_r rfl (dstOk_lt rfl) (ry_load (cs := [.int .i64 e18.Truth_, .int .i64 e18.Said_]) rfl rfl ty60 (at_castA (at_eltE (fun w1 hw1 => rds_bor g0 w1 hw1) h19 (fun _ _ h => h)) rfl) rfl) ?_
        refine ow_batch [.p, .p] rfl ?_
        obtain ⟨e20, h21, H⟩ := of_bind H
        refine ow_ixE (e := eTimpl_Pair) (xs := p1) (j := i9) rfl rfl rfl rfl rfl sl28 ty60 rfl (fun w1 hw1 => rds_bor g1 w1 hw1) h21 rfl ?_
        refine ow_r rfl (dstOk_lt rfl) (ry_load (cs := [.int .i64 e20.Truth_, .int .i64 e20.Said_]) rfl rfl ty60 (at_castA (at_eltE (fun w1 hw1 => rds_bor g1 w1 hw1) h21 (fun _ _ h => h)) rfl) rfl) ?_
        obtain ⟨y22, h23, H⟩ := of_bind H
        refine ow_q rfl rfl (dstOk_lt rfl) (qy_call rfl fn64 rfl (fun w1 hw1 => laws_eqPair_ok w1 (p0 := e18) (p1 := e20) h23)) (fun _ _ => trivial) ?_
        refine ow_batch [.p] rfl ?_
        refine ow_nilQ ?_
        refine x_qs ?_
        refine c_if rfl (fun hb => ?_) (fun hb => ?_)
        · have H := of_if_t hb H
          refine c_seq ?_
          refine c_reg ?_
          refine ow_batch [.p] rfl ?_
          refine ow_nil ?_
          refine x_qs ?_
          refine c_ret ?_
          refine x_qb_ret ?_
          refine x_qs_ret ?_
          refine x_ql_ret ?_
          refine x_qb_ret ?_
          refine x_qs_ret ?_
          exact x_retR (rs := [.tmp 4]) (vs := [.bool false]) rfl ⟨rfl, trivial⟩ (fun w' hw' => by
              obtain rfl := of_some H
              exact ⟨rfl, hw'.ext⟩)
        · have H := of_if_f hb H
          refine c_skip ?_
          refine x_qb ?_
          refine x_qs ?_
          refine c_reg ?_
          refine ow_batch [.p, .p, .p] rfl ?_
          refine ow_nil ?_
          exact x_ql (RW.at (ihk1 (IntKind.i64.wrap (i9 + 1)) (H)) (fun _ h => St.sel [] rfl rfl h) ⟨rfl, rfl, rfl, trivial⟩)
      · have H := of_if_f hb H
        refine c_exit ?_
        refine x_qs_exit ?_
        refine x_ql_exit ?_
        refine x_qb_here ?_
        refine x_qs ?_
        refine c_seq ?_
        refine c_reg ?_
        refine ow_batch [.p] rfl ?_
        refine ow_nil ?_
        refine x_qs ?_
        refine c_ret ?_
        exact x_retR (rs := [.tmp 4]) (vs := [.bool true]) rfl ⟨rfl, trivial⟩ (fun w' hw' => by
            obtain rfl := of_some H
            exact ⟨rfl, hw'.ext⟩)

set_option maxHeartbeats 4000000 in
set_option maxRecDepth 100000 in
theorem laws_eqScore_ok (w : World) {p0 : Timpl_Score} {p1 : Timpl_Score} {cs0 : List Value} {cs1 : List Value} {r : Bool} (H : laws_eqScore p0 p1 = some r)  (g0 : (eTimpl_Score).rd w [] p0 cs0) (g1 : (eTimpl_Score).rd w [] p1 cs1) :
    Calls Try.prog 15 #[.agg cs0.toArray, .agg cs1.toArray] w (fun en w' => en = .returned (.bool r) ∧ Ext [] w w') := by
  obtain ⟨c1, c2, rfl, g3, g4⟩ := rdo_Timpl_Score g0
  obtain ⟨a5, c6, rfl⟩ := rd_sl1 g3
  obtain ⟨a7, c8, rfl⟩ := rd_sl1 g4
  obtain ⟨c9, c10, rfl, g11, g12⟩ := rdo_Timpl_Score g1
  obtain ⟨a13, c14, rfl⟩ := rd_sl1 g11
  obtain ⟨a15, c16, rfl⟩ := rd_sl1 g12
  unfold laws_eqScore at H
  refine f_enter (vs := [.agg #[.slice a5 p0.Table_.length c6, .slice a7 p0.Last_.length c8], .agg #[.slice a13 p1.Table_.length c14, .slice a15 p1.Last_.length c16]]) Try.func15 rfl Try.ntmps15 rfl (St.init w []) ?_
  refine c_seq ?_
  refine c_reg ?_
  refine ow_box (cs := [.slice a5 p0.Table_.length c6, .slice a7 p0.Last_.length c8]) rfl rfl rfl rfl rfl rfl (fun _ => kp) (fun b17 => ?_)
  refine ow_box (cs := [.slice a13 p1.Table_.length c14, .slice a15 p1.Last_.length c16]) rfl rfl rfl rfl rfl rfl (fun _ => kp) (fun b18 => ?_)
  refine ow_batch [.p] rfl ?_
  refine ow_nil ?_
  refine x_qs ?_
  refine c_seq ?_
  refine c_seq ?_
  refine c_reg ?_
  refine ow_batch [.fa 30 0 0 fa30_0] rfl ?_
  refine ow_r rfl (dstOk_lt rfl) (ry_box1 (off := 0) rfl rfl ty22 (boxIn (i := 0) rfl) rfl) ?_
  refine ow_batch [.fa 30 0 0 fa30_0] rfl ?_
  refine ow_r rfl (dstOk_lt rfl) (ry_box1 (off := 0) rfl rfl ty22 (boxIn (i := 1) rfl) rfl) ?_
  obtain ⟨y19, h20, H⟩ := of_bind H
  refine ow_q rfl rfl (dstOk_lt rfl) (qy_call rfl fn39 rfl (fun w1 hw1 => laws_eqIntSS_ok w1  h20 (rds_bor g3 w1 hw1) (rds_bor g11 w1 hw1))) (fun _ _ => trivial) ?_
  refine ow_batch [.p] rfl ?_
  refine ow_nil ?_
  refine x_qs ?_
  refine c_if rfl (fun hb => ?_) (fun hb => ?_)
  · have H := of_if_t hb H
    refine c_seq ?_
    refine c_reg ?_
    refine ow_batch [.p] rfl ?_
    refine ow_nil ?_
    refine x_qs ?_
    refine c_ret ?_
    refine x_qs_ret ?_
    exact x_retR (rs := [.tmp 4]) (vs := [.bool false]) rfl ⟨rfl, trivial⟩ (fun w' hw' => by
        obtain rfl := of_some H
        exact ⟨rfl, hw'.ext⟩)
  · have H := of_if_f hb H
    refine c_skip ?_
    refine x_qs ?_
    refine c_seq ?_
    refine c_seq ?_
    refine c_reg ?_
    refine ow_batch [.fa 30 1 1 fa30_1] rfl ?_
    refine ow_r rfl (dstOk_lt rfl) (ry_box1 (off := 1) rfl rfl ty28 (boxIn (i := 0) rfl) rfl) ?_
    refine ow_batch [.fa 30 1 1 fa30_1] rfl ?_
    refine ow_r rfl (dstOk_lt rfl) (ry_box1 (off := 1) rfl rfl ty28 (boxIn (i := 1) rfl) rfl) ?_
    obtain ⟨y21, h22, H⟩ := of_bind H
    refine ow_q rfl rfl (dstOk_lt rfl) (qy_call rfl fn40 rfl (fun w1 hw1 => laws_eqPairS_ok w1  h22 (rds_bor g4 w1 hw1) (rds_bor g12 w1 hw1))) (fun _ _ => trivial) ?_
    refine ow_batch [.p] rfl ?_
    refine ow_nil ?_
    refine x_qs ?_
    refine c_if rfl (fun hb => ?_) (fun hb => ?_)
    · have H := of_if_t hb H
      refine c_seq ?_
      refine c_reg ?_
      refine ow_batch [.p] rfl ?_
      refine ow_nil ?_
      refine x_qs ?_
      refine c_ret ?_
      refine x_qs_ret ?_
      exact x_retR (rs := [.tmp 4]) (vs := [.bool false]) rfl ⟨rfl, trivial⟩ (fun w' hw' => by
          obtain rfl := of_some H
          exact ⟨rfl, hw'.ext⟩)
    · have H := of_if_f hb H
      refine c_skip ?_
      refine x_qs ?_
      refine c_seq ?_
      refine c_reg ?_
      refine ow_batch [.p] rfl ?_
      refine ow_nil ?_
      refine x_qs ?_
      refine c_ret ?_
      exact x_retR (rs := [.tmp 4]) (vs := [.bool true]) rfl ⟨rfl, trivial⟩ (fun w' hw' => by
          obtain rfl := of_some H
          exact ⟨rfl, hw'.ext⟩)

set_option maxHeartbeats 4000000 in
set_option maxRecDepth 100000 in
theorem spec_l25Copy_ok (w : World) {M0 : List Nat} {p0 : Timpl_Score} {cs0 : List Value} {r : Timpl_Score} (H : spec_l25Copy p0 = some r) (HS : St w M0 [] w) (g0 : (eTimpl_Score).rd w M0 p0 cs0) :
    Calls Try.prog 49 #[.agg cs0.toArray] w (fun en w' => ∃ v, en = .returned v ∧ ∃ (a0 : Option Addr), ∃ (n0 : Nat), ∃ (c0 : Nat), ∃ (F0 : List Nat), ∃ (a1 : Option Addr), ∃ (n1 : Nat), ∃ (c1 : Nat), ∃ (F1 : List Nat), v = .agg #[.slice a0 n0 c0, .slice a1 n1 c1] ∧ St w M0 [Res.own (eList (eList (eVal (Value.int .i64) (fun _ => rfl)) 3) 53) F0 r.Table_ [.slice a0 n0 c0], Res.own (eList (eTimpl_Pair) 60) F1 r.Last_ [.slice a1 n1 c1]] w') := by
  obtain ⟨c1, c2, rfl, g3, g4⟩ := rdo_Timpl_Score g0
  obtain ⟨a5, c6, rfl⟩ := rd_sl1 g3
  obtain ⟨a7, c8, rfl⟩ := rd_sl1 g4
  unfold spec_l25Copy at H
  refine f_enter (vs := [.agg #[.slice a5 p0.Table_.length c6, .slice a7 p0.Last_.length c8]]) Try.func49 rfl Try.ntmps49 rfl (HS) ?_
  refine c_seq ?_
  refine c_reg ?_
  refine ow_box (cs := [.slice a5 p0.Table_.length c6, .slice a7 p0.Last_.length c8]) rfl rfl rfl rfl rfl rfl (fun _ => kp) (fun b9 => ?_)
  refine ow_alloc rfl rfl rfl rfl ty30 (fun _ => kp) (fun b10 => ?_)
  refine ow_nil ?_
  refine x_qs ?_
  refine c_seq ?_
  refine c_reg ?_
  refine ow_blit0 (e := eTimpl_Pair) rfl rfl rfl rfl sl28 ty60 (fun _ => kp) (fun b11 => ?_)
  refine ow_batch [.fa 30 1 1 fa30_1] rfl ?_
  refine ow_r rfl (dstOk_lt rfl) (ry_box1 (off := 1) rfl rfl ty28 (boxIn (i := 0) rfl) rfl) ?_
  obtain ⟨l12, h13, H⟩ := of_bind H
  refine ow_appF (r := 2) (ys := p0.Last_) rfl rfl rfl rfl rfl rfl sl28 ty60 rfl rfl rfl rfl rfl (fun w1 hw1 => rds_bor g4 w1 hw1) h13 (fun _ _ _ => kp) (fun a14 c15 F16 => ?_)
  refine ow_r rfl (dstOk_lt rfl) (ry_build2 [(1, [.slice a14 l12.length c15])] [.slice none 0 0, .slice a14 l12.length c15] rfl rfl ty30 fs30 rfl ⟨rfl, rfl, Nat.le_of_ble_eq_true rfl,  trivial⟩ rfl) ?_
  refine ow_alloc rfl rfl rfl rfl ty30 (fun _ => kp) (fun b17 => ?_)
  refine ow_storeC (off := 0) [.slice none 0 0, .slice a14 l12.length c15] [_, _] (i := 3) rfl rfl rfl rfl rfl rfl ty30 rfl rfl (by intro u hu; simp only [List.mem_cons, List.not_mem_nil, or_false] at hu; rcases hu with rfl | rfl <;> rfl) rfl rfl rfl kp ?_
  refine ow_nil ?_
  refine x_qs ?_
  refine c_seq ?_
  refine c_seq ?_
  refine c_reg ?_
  refine ow_batch [.p] rfl ?_
  refine ow_nil ?_
  refine x_qs ?_
  refine c_block ?_
  refine CW.weak ?_ (fun _ h => St.pushNil (e := eList (eVal (Value.int .i64) (fun _ => rfl)) 3) (T := 53) h)
  refine CW.at (loopI5 (fun (l58 : List (List Int)) (a59 : Option Addr) (c60 : Nat) (F61 : List Nat) (i62 : Int) => St w M0 [Res.box b9 30 [.slice a5 p0.Table_.length c6, .slice a7 p0.Last_.length c8], Res.box b10 30 [.slice none 0 0, .slice none 0 0], Res.box b17 30 [.slice a59 l58.length c60, .slice a14 l12.length c15], Res.own (eList (eList (eVal (Value.int .i64) (fun _ => rfl)) 3) 53) F61 l58 [.slice a59 l58.length c60], Res.own (eList (eTimpl_Pair) 60) F16 l12 [.slice a14 l12.length c15]]) (fun (l58 : List (List Int)) (a59 : Option Addr) (c60 : Nat) (F61 : List Nat) (i62 : Int) => [(1, .pointer (some ⟨b9, 0, none⟩)), (2, .pointer (some ⟨b10, 0, none⟩)), (3, .pointer (some ⟨b17, 0, none⟩)), (4, .int .i64 i62)]) (fun kk => fun (l58 : List (List Int)) (a59 : Option Addr) (c60 : Nat) (F61 : List Nat) (i62 : Int) => spec_l25Copy_L1 p0 l12 kk l58 i62 = some r) (fun _ _ _ _ _ H => ?_) (fun k1 ihk1 l58 a59 c60 F61 i62 H => ?_) Fuel (([] : List (List Int))) (none) (0) ([]) (0) (H)) (fun _ h => St.sel [0, 1, 3, 4, 2] rfl rfl h) ⟨rfl, rfl, rfl, rfl,  trivial⟩
  · unfold spec_l25Copy_L1 at H
    exact absurd H (by simp)
  · unfold spec_l25Copy_L1 at H
    refine c_seq ?_
    refine c_seq ?_
    refine c_reg ?_
    refine ow_batch [.p, .fa 30 0 0 fa30_0] rfl ?_
    refine ow_r rfl (dstOk_lt rfl) (ry_box1 (off := 0) rfl rfl ty22 (boxIn (i := 0) rfl) rfl) ?_
    refine ow_batch [.lenS 22 53 sl22, .p] rfl ?_
    refine ow_nil ?_
    refine x_qs ?_
    refine c_if rfl (fun hb => ?_) (fun hb => ?_)
    · have H := of_if_t hb H
      refine c_skip ?_
      refine x_qs ?_
      refine c_seq ?_
      refine c_block ?_
      refine c_regHT 10 [(0, true), (1, true), (3, true), (4, true), (5, true), (6, true), (7, true), (2, false), (8, false), (9, false)] (St w M0 [Res.box b9 30 [.slice a5 p0.Table_.length c6, .slice a7 p0.Last_.length c8], Res.box b10 30 [.slice none 0 0, .slice none 0 0], Res.box b17 30 [.slice a59 l58.length c60, .slice a14 l12.length c15], Res.own (eList (eList (eVal (Value.int .i64) (fun _ => rfl)) 3) 53) F61 l58 [.slice a59 l58.length c60], Res.own (eList (eTimpl_Pair) 60) F16 l12 [.slice a14 l12.length c15]]) mixed (by kernel_rfl) (panicOk_qb (panicOk_qs (panicOk_ql (panicOk_qb (panicOk_qs panicOk_body))))) (fun _ h => St.mask [true, true, true, true, true] rfl h) ?_
      refine ow_batch [.fa 30 0 0 fa30_0] rfl ?_
      refine ow_rH rfl (dstOk_lt rfl) (ry_box1 (off := 0) rfl rfl ty22 (boxIn (i := 2) rfl) rfl) ?_
      refine ow_batch [.fa 30 0 0 fa30_0] rfl ?_
      refine ow_rH rfl (dstOk_lt rfl) (ry_box1 (off := 0) rfl rfl ty22 (boxIn (i := 0) rfl) rfl) ?_
      refine ow_batch [.p] rfl ?_
      obtain ⟨e118, h119, H⟩ := of_bind H
      refine ow_ixB rfl rfl rfl rfl rfl sl22 ty53 rfl g3 h119 (fun q122 c123 hd120 hA121 => ?_)
      obtain ⟨a124, c125, rfl⟩ := rd_sl1 hd120
      refine ow_rH rfl (dstOk_lt rfl) (ry_load1 rfl rfl ty53 (at_bor (fun _ h => h.ext) hA121)) ?_
      refine ow_blit0 (e := eVal (Value.int .i64) (fun _ => rfl)) rfl rfl rfl rfl sl53 ty3 (fun _ => (fun _ h => St.mask [true, true, true, true, true] rfl h)) (fun b126 => ?_)
      obtain ⟨l127, h128, H⟩ := of_bind H
      refine ow_appR (r := 5) (ys := e118) rfl rfl rfl rfl rfl rfl sl53 ty3 rfl rfl rfl (fun w1 hw1 => rds_bor hd120 w1 hw1) h128 (fun _ _ _ => (fun _ h => St.mask [true, true, true, true, true] rfl h)) (fun a129 c130 F131 => ?_)
      refine ow_bslice [(0, [.slice a129 l127.length c130])] rfl rfl rfl rfl rfl sl22 ty53 rfl rfl ⟨rfl, rfl, Nat.le_of_ble_eq_true rfl,  trivial⟩ [.slice a129 l127.length c130] rfl (fun _ => (fun _ h => St.mask [true, true, true, true, true] rfl h)) (fun b132 => ?_)
      refine ow_st rfl (fun _ h => lit1 (p := 6) (q := 5) h rfl rfl rfl) ?_
      refine ow_nilH ?_
      refine x_qt ?_
      obtain ⟨l133, h134, H⟩ := of_bind H
      refine ow_appM (r := 3) (j := 7) rfl rfl rfl rfl rfl rfl sl22 ty53 rfl rfl rfl rfl rfl rfl rfl h134 (fun _ _ _ => kp) (fun a135 c136 F137 => ?_)
      refine ow_batch [.fa 30 0 0 fa30_0] rfl ?_
      refine ow_storeC (off := 0) [.slice a135 l133.length c136] [_, _] (i := 2) rfl rfl rfl rfl rfl rfl ty22 rfl rfl (by intro u hu; simp only [List.mem_cons, List.not_mem_nil, or_false] at hu; rcases hu with rfl <;> rfl) rfl rfl rfl kp ?_
      refine ow_nil ?_
      refine x_qb ?_
      refine x_qs ?_
      refine CW.weak (C' := St w M0 [_, _, _, _, _]) ?_ (fun _ h => St.sel [0, 1, 2, 4, 8] rfl rfl h)
      refine c_reg ?_
      refine ow_batch [.p, .p, .p] rfl ?_
      refine ow_nil ?_
      exact x_ql (RW.at (ihk1 (l133) (a135) (c136) (F137) (IntKind.i64.wrap (i62 + 1)) (H)) (fun _ h => St.sel [0, 1, 2, 4, 3] rfl rfl h) ⟨rfl, rfl, rfl, rfl, trivial⟩)
    · have H := of_if_f hb H
      refine c_exit ?_
      refine x_qs_exit ?_
      refine x_ql_exit ?_
      refine x_qb_here ?_
      refine x_qs ?_
      refine c_seq ?_
      refine c_reg ?_
      refine ow_r rfl (dstOk_lt rfl) (ry_box (off := 0) (ds := [.slice a59 l58.length c60, .slice a14 l12.length c15]) rfl rfl ty30 (boxIn (i := 2) rfl) rfl rfl) ?_
      refine ow_storeC (off := 0) [.slice a59 l58.length c60, .slice a14 l12.length c15] [_, _] (i := 1) rfl rfl rfl rfl rfl rfl ty30 rfl rfl (by intro u hu; simp only [List.mem_cons, List.not_mem_nil, or_false] at hu; rcases hu with rfl | rfl <;> rfl) rfl rfl rfl kp ?_
      refine ow_nil ?_
      refine x_qs ?_
      refine c_ret ?_
      exact x_retR (rs := [.cell 2 30]) (vs := [.agg #[.slice a59 l58.length c60, .slice a14 l12.length c15]]) rfl ⟨⟨_, [.slice a59 l58.length c60, .slice a14 l12.length c15], _, _, _, rfl, ty30, (at_box (T := 30) 0 (boxIn (i := 1) rfl) rfl), rfl, rfl⟩, trivial⟩ (fun w' hw' => by
          obtain rfl := of_some H
          exact ⟨_, rfl, a59, l58.length, c60, F61, a14, l12.length, c15, F16, rfl, hw'.sel [3, 4] rfl rfl⟩)

set_option maxHeartbeats 4000000 in
set_option maxRecDepth 100000 in
theorem spec_ScoreAdd_ok (w : World) {M0 : List Nat} {p0 : Int} {p1 : Timpl_Score} {p2 : Int} {p3 : Int} {cs1 : List Value} {r : Timpl_Score × Bool} (H : spec_ScoreAdd p0 p1 p2 p3 = some r) (HS : St w M0 [] w) (g1 : (eTimpl_Score).rd w M0 p1 cs1) :
    Calls Try.prog 27 #[.int .i64 p0, .agg cs1.toArray, .int .i64 p2, .int .i64 p3] w (fun en w' => ∃ v, en = .returned v ∧ ∃ (a0 : Option Addr), ∃ (n0 : Nat), ∃ (c0 : Nat), ∃ (F0 : List Nat), ∃ (a1 : Option Addr), ∃ (n1 : Nat), ∃ (c1 : Nat), ∃ (F1 : List Nat), v = .tuple #[.agg #[.slice a0 n0 c0, .slice a1 n1 c1], .bool r.2] ∧ St w M0 [Res.own (eList (eList (eVal (Value.int .i64) (fun _ => rfl)) 3) 53) F0 r.1.Table_ [.slice a0 n0 c0], Res.own (eList (eTimpl_Pair) 60) F1 r.1.Last_ [.slice a1 n1 c1]] w') := by
  obtain ⟨c1, c2, rfl, g3, g4⟩ := rdo_Timpl_Score g1
  obtain ⟨a5, c6, rfl⟩ := rd_sl1 g3
  obtain ⟨a7, c8, rfl⟩ := rd_sl1 g4
  unfold spec_ScoreAdd at H
  refine f_enter (vs := [.int .i64 p0, .agg #[.slice a5 p1.Table_.length c6, .slice a7 p1.Last_.length c8], .int .i64 p2, .int .i64 p3]) Try.func27 rfl Try.ntmps27 rfl (HS) ?_
  refine c_seq ?_
  refine c_reg ?_
  refine ow_box (cs := [.slice a5 p1.Table_.length c6, .slice a7 p1.Last_.length c8]) rfl rfl rfl rfl rfl rfl (fun _ => kp) (fun b9 => ?_)
  refine ow_alloc rfl rfl rfl rfl ty30 (fun _ => kp) (fun b10 => ?_)
  refine ow_batch [.p] rfl ?_
  refine ow_nil ?_
  refine x_qs ?_
  refine c_seq ?_
  refine c_reg ?_
  refine ow_r rfl (dstOk_lt rfl) (ry_box (off := 0) (ds := [.slice a5 p1.Table_.length c6, .slice a7 p1.Last_.length c8]) rfl rfl ty30 (boxIn (i := 0) rfl) rfl rfl) ?_
  obtain ⟨y11, h12, H⟩ := of_bind H
  refine ow_callS rfl fn49 rfl rfl rfl rfl (fun w1 hw1 => spec_l25Copy_ok w1 (cs0 := [.slice a5 p1.Table_.length c6, .slice a7 p1.Last_.length c8]) h12 (hw1.carve [] rfl rfl) (rdm_Timpl_Score (x := p1) (c0 := [.slice a5 p1.Table_.length c6]) (c1 := [.slice a7 p1.Last_.length c8]) (rds_bor g3 w1 hw1) (rds_bor g4 w1 hw1))) (fun v13 w1 w2 hw1 hR15 => ?_)
  obtain ⟨a16, n17, c18, F19, a20, n21, c22, F23, rfl, hS14⟩ := hR15
  obtain rfl := own_nS (i := 0) hS14 rfl
  obtain rfl := own_nS (i := 1) hS14 rfl
  refine ⟨St w M0 [_, _, _, _], hw1.comp [] rfl rfl hS14, fun _ _ => trivial, ?_⟩
  refine ow_alloc rfl rfl rfl rfl ty30 (fun _ => kp) (fun b24 => ?_)
  refine ow_storeC (off := 0) [.slice a16 y11.Table_.length c18, .slice a20 y11.Last_.length c22] [_, _] (i := 4) rfl rfl rfl rfl rfl rfl ty30 rfl rfl (by intro u hu; simp only [List.mem_cons, List.not_mem_nil, or_false] at hu; rcases hu with rfl | rfl <;> rfl) rfl rfl rfl kp ?_
  refine ow_nil ?_
  refine x_qs ?_
  refine c_seq ?_
  refine c_seq ?_
  refine c_reg ?_
  refine ow_batch [.p] rfl ?_
  refine ow_r rfl (dstOk_lt rfl) (ry_box (off := 0) (ds := [.slice a5 p1.Table_.length c6, .slice a7 p1.Last_.length c8]) rfl rfl ty30 (boxIn (i := 0) rfl) rfl rfl) ?_
  obtain ⟨y25, h26, H⟩ := of_bind H
  refine ow_q rfl rfl (dstOk_lt rfl) (qy_call rfl fn33 rfl (fun w1 hw1 => spec_ScoreOk_ok w1 (cs1 := [.slice a5 p1.Table_.length c6, .slice a7 p1.Last_.length c8]) h26 (rdm_Timpl_Score (x := p1) (c0 := [.slice a5 p1.Table_.length c6]) (c1 := [.slice a7 p1.Last_.length c8]) (rds_bor g3 w1 hw1) (rds_bor g4 w1 hw1)))) (fun _ _ => trivial) ?_
  refine ow_batch [.p, .p] rfl ?_
  obtain ⟨u27, hu31, H⟩ := of_bind H
  refine ow_cut [(23, .bool u27), (0, .int .i64 p0), (2, .int .i64 p2), (3, .int .i64 p3), (5, .pointer (some ⟨b9, 0, none⟩)), (8, .pointer (some ⟨b10, 0, none⟩)), (10, .pointer (some ⟨b24, 0, none⟩))] 6 ?_ (fun key => OW.sub (R := [(0, .int .i64 p0), (2, .int .i64 p2), (3, .int .i64 p3), (5, .pointer (some ⟨b9, 0, none⟩)), (8, .pointer (some ⟨b10, 0, none⟩)), (10, .pointer (some ⟨b24, 0, none⟩)), (17, .bool (!y25))]) ?_ ⟨rfl, rfl, rfl, rfl, rfl, rfl, rfl, trivial⟩)
  · refine ow_batch [.p] rfl ?_
    obtain ⟨u33, hu37, H⟩ := of_bind H
    refine ow_cut [(30, .bool u33), (0, .int .i64 p0), (2, .int .i64 p2), (3, .int .i64 p3), (5, .pointer (some ⟨b9, 0, none⟩)), (8, .pointer (some ⟨b10, 0, none⟩)), (10, .pointer (some ⟨b24, 0, none⟩))] 6 ?_ (fun key => OW.sub (R := [(0, .int .i64 p0), (2, .int .i64 p2), (3, .int .i64 p3), (5, .pointer (some ⟨b9, 0, none⟩)), (8, .pointer (some ⟨b10, 0, none⟩)), (10, .pointer (some ⟨b24, 0, none⟩)), (24, .bool u27)]) ?_ ⟨rfl, rfl, rfl, rfl, rfl, rfl, rfl, trivial⟩)
    · refine ow_batch [.p] rfl ?_
      obtain ⟨u38, hu42, H⟩ := of_bind H
      refine ow_cut [(36, .bool u38), (2, .int .i64 p2), (3, .int .i64 p3), (8, .pointer (some ⟨b10, 0, none⟩)), (10, .pointer (some ⟨b24, 0, none⟩))] 5 ?_ (fun key => OW.sub (R := [(0, .int .i64 p0), (2, .int .i64 p2), (3, .int .i64 p3), (5, .pointer (some ⟨b9, 0, none⟩)), (8, .pointer (some ⟨b10, 0, none⟩)), (10, .pointer (some ⟨b24, 0, none⟩)), (31, .bool u33)]) ?_ ⟨rfl, rfl, rfl, rfl, rfl, rfl, rfl, trivial⟩)
      · refine ow_nil ?_
        refine x_qs ?_
        refine c_if rfl (fun hb => ?_) (fun hb => ?_)
        · have H := of_if_t hb H
          refine c_seq ?_
          refine c_reg ?_
          refine ow_r rfl (dstOk_lt rfl) (ry_box (off := 0) (ds := [.slice a16 y11.Table_.length c18, .slice a20 y11.Last_.length c22]) rfl rfl ty30 (boxIn (i := 4) rfl) rfl rfl) ?_
          refine ow_storeC (off := 0) [.slice a16 y11.Table_.length c18, .slice a20 y11.Last_.length c22] [_, _] (i := 1) rfl rfl rfl rfl rfl rfl ty30 rfl rfl (by intro u hu; simp only [List.mem_cons, List.not_mem_nil, or_false] at hu; rcases hu with rfl | rfl <;> rfl) rfl rfl rfl kp ?_
          refine ow_batch [.p] rfl ?_
          refine ow_nil ?_
          refine x_qs ?_
          refine c_ret ?_
          refine x_qs_ret ?_
          exact x_retR (rs := [.cell 8 30, .tmp 9]) (vs := [.agg #[.slice a16 y11.Table_.length c18, .slice a20 y11.Last_.length c22], .bool false]) rfl ⟨⟨_, [.slice a16 y11.Table_.length c18, .slice a20 y11.Last_.length c22], _, _, _, rfl, ty30, (at_box (T := 30) 0 (boxIn (i := 1) rfl) rfl), rfl, rfl⟩, rfl, trivial⟩ (fun w' hw' => by
              obtain rfl := of_some H
              exact ⟨_, rfl, a16, y11.Table_.length, c18, F19, a20, y11.Last_.length, c22, F23, rfl, hw'.sel [2, 3] rfl rfl⟩)
        · have H := of_if_f hb H
          refine c_skip ?_
          refine x_qs ?_
          refine c_seq ?_
          obtain ⟨e43, h44, H⟩ := of_bind H
          refine cw_ex4 (fun w1 hw1 => foc (r := 2) hw1 rfl h44) (fun b46 G47 F48 c49 => ?_)
          refine cw_fact (fun w1 hw1 => hw1.1) (fun q45 => ?_)
          obtain ⟨ha50, hn51⟩ := q45
          refine CW.weak (C' := St w M0 [_, _, _, _, _, _, _]) ?_ (fun w1 hw1 => hw1.2)
          refine cw_ex2 (fun w1 hw1 => opn_sl (i := 6) hw1 rfl) (fun a52 c53 => ?_)
          refine cw_fact (fun w1 hw1 => hw1.1) (fun q54 => ?_)
          subst q54
          refine CW.weak (C' := St w M0 [_, _, _, _, _, _, _]) ?_ (fun w1 hw1 => hw1.2)
          refine c_regT 16 mixed (by kernel_rfl) ?_
          refine ow_batch [.fa 30 0 0 fa30_0] rfl ?_
          refine ow_r rfl (dstOk_lt rfl) (ry_box1 (off := 0) rfl rfl ty22 (boxIn (i := 4) rfl) rfl) ?_
          refine ow_batch [.p] rfl ?_
          refine ow_ixH rfl rfl rfl rfl rfl sl22 ty53 rfl (holeIn (p := 5) rfl) hn51 ha50 (idx_some h44).1 ?_
          refine ow_r rfl (dstOk_lt rfl) (ry_hole1 5 0 rfl rfl rfl ty53 (by first | rfl | simp only [add_lit, add_add, add_zero]) rfl) ?_
          refine ow_batch [.p, .fa 30 0 0 fa30_0] rfl ?_
          refine ow_r rfl (dstOk_lt rfl) (ry_box1 (off := 0) rfl rfl ty22 (boxIn (i := 4) rfl) rfl) ?_
          refine ow_batch [.p] rfl ?_
          refine ow_ixH rfl rfl rfl rfl rfl sl22 ty53 rfl (holeIn (p := 5) rfl) hn51 ha50 (idx_some h44).1 ?_
          refine ow_r rfl (dstOk_lt rfl) (ry_hole1 5 0 rfl rfl rfl ty53 (by first | rfl | simp only [add_lit, add_add, add_zero]) rfl) ?_
          refine ow_batch [.p] rfl ?_
          obtain ⟨e55, h56, H⟩ := of_bind H
          refine ow_ixE (e := eVal (Value.int .i64) (fun _ => rfl)) (xs := e43) (j := p3) rfl rfl rfl rfl rfl sl53 ty3 rfl (fun w1 hw1 => rds_own (r := 6) rfl w1 hw1) h56 (by rw [Nat.mul_one]) ?_
          refine ow_r rfl (dstOk_lt rfl) (ry_load1 rfl rfl ty3 (at_elV (fun w1 hw1 => rds_own (r := 6) rfl w1 hw1) h56)) ?_
          refine ow_batch [.p] rfl ?_
          obtain ⟨e57, h58, H⟩ := of_bind H
          refine ow_ixE (e := eVal (Value.int .i64) (fun _ => rfl)) (xs := e43) (j := p3) rfl rfl rfl rfl rfl sl53 ty3 rfl (fun w1 hw1 => rds_own (r := 6) rfl w1 hw1) h58 (by rw [Nat.mul_one]) ?_
          refine ow_nilQ ?_
          refine ow_storeV (i := 6) (j := p3) rfl rfl rfl rfl rfl rfl ty3 rfl h58 (fun _ => rfl) kp ?_
          refine ow_nil ?_
          refine x_qs ?_
          refine c_seq ?_
          refine c_reg ?_
          refine ow_batch [.fa 30 1 1 fa30_1] rfl ?_
          refine ow_r rfl (dstOk_lt rfl) (ry_box1 (off := 1) rfl rfl ty28 (boxIn (i := 4) rfl) rfl) ?_
          refine ow_batch [.p, .p] rfl ?_
          refine ow_r rfl (dstOk_lt rfl) (ry_build2 [(0, [.int .i64 p2]), (1, [.int .i64 p3])] [.int .i64 p2, .int .i64 p3] rfl rfl ty60 fs60 rfl ⟨rfl, rfl, Nat.le_of_ble_eq_true rfl, rfl, rfl, Nat.le_of_ble_eq_true rfl,  trivial⟩ rfl) ?_
          refine ow_blitF ([(Timpl_Pair.mk p2 p3)] : List Timpl_Pair) [(0, [.int .i64 p2, .int .i64 p3])] rfl rfl rfl rfl rfl sl28 ty60 rfl rfl rfl rfl ⟨rfl, rfl, Nat.le_of_ble_eq_true rfl,  trivial⟩ rfl (fun _ => kp) (fun b59 => (?_ : OW _ _ _ (St w M0 [Res.box b9 30 [.slice a5 p1.Table_.length c6, .slice a7 p1.Last_.length c8], Res.box b10 30 [.slice none 0 0, .slice none 0 0], Res.nil, Res.own (eList (eTimpl_Pair) 60) F23 y11.Last_ [.slice a20 y11.Last_.length c22], Res.box b24 30 [.slice a16 y11.Table_.length c18, .slice a20 y11.Last_.length c22], Res.hole (eList (eVal (Value.int .i64) (fun _ => rfl)) 3) 53 b46 c18 y11.Table_ p2.toNat G47 [.slice a52 e43.length c53], Res.own (eList (eVal (Value.int .i64) (fun _ => rfl)) 3) F48 (e43.set p3.toNat (IntKind.i64.wrap (e55 + 1))) [.slice a52 e43.length c53], Res.own (eList (eTimpl_Pair) 60) [b59] [(Timpl_Pair.mk p2 p3)] [.slice (some ⟨b59, 0, none⟩) ([(Timpl_Pair.mk p2 p3)] : List Timpl_Pair).length 1]]) _ _ _))
          obtain ⟨l60, h61, H⟩ := of_bind H
          refine ow_appF (r := 3) (ys := ([(Timpl_Pair.mk p2 p3)] : List Timpl_Pair)) rfl rfl rfl rfl rfl rfl sl28 ty60 rfl rfl rfl rfl rfl (fun w1 hw1 => rds_own (r := 7) rfl w1 hw1) h61 (fun _ _ _ => kp) (fun a62 c63 F64 => ?_)
          refine ow_fact rfl (fun w1 hw1 => own_nn (i := 3) hw1 rfl (app_ne h61)) (fun hz65 => ?_)
          refine ow_batch [.fa 30 1 1 fa30_1] rfl ?_
          refine ow_storeC (off := 1) [.slice a62 l60.length c63] [_, _] (i := 4) rfl rfl rfl rfl rfl rfl ty28 rfl rfl (by intro u hu; simp only [List.mem_cons, List.not_mem_nil, or_false] at hu; rcases hu with rfl <;> rfl) rfl rfl rfl kp ?_
          refine ow_nil ?_
          refine x_qs ?_
          refine c_seq ?_
          refine c_seq ?_
          refine c_reg ?_
          refine ow_batch [.fa 30 1 1 fa30_1] rfl ?_
          refine ow_r rfl (dstOk_lt rfl) (ry_box1 (off := 1) rfl rfl ty28 (boxIn (i := 4) rfl) rfl) ?_
          refine ow_batch [.lenS 28 60 sl28, .p] rfl ?_
          refine ow_nil ?_
          refine x_qs ?_
          refine c_if rfl (fun hb => ?_) (fun hb => ?_)
          · have H := of_if_t hb H
            refine c_reg ?_
            refine ow_blit0 (e := eTimpl_Pair) rfl rfl rfl rfl sl28 ty60 (fun _ => kp) (fun b66 => ?_)
            refine ow_batch [.fa 30 1 1 fa30_1] rfl ?_
            refine ow_r rfl (dstOk_lt rfl) (ry_box1 (off := 1) rfl rfl ty28 (boxIn (i := 4) rfl) rfl) ?_
            obtain ⟨l67, h68, H⟩ := of_bind H
            refine ow_vsub (e := eTimpl_Pair) (xs := l60) rfl rfl rfl rfl sl28 ty60 rfl rfl rfl h68 (fun w1 hw1 => rds_own (r := 3) rfl w1 hw1) ?_
            obtain ⟨l69, h70, H⟩ := of_bind H
            refine ow_appF (r := 8) (ys := l67) rfl rfl rfl rfl rfl rfl sl28 ty60 rfl rfl rfl rfl rfl (rd_sub (fun w1 hw1 => rds_own (r := 3) rfl w1 hw1) h68) h70 (fun _ _ _ => kp) (fun a71 c72 F73 => ?_)
            refine ow_batch [.fa 30 1 1 fa30_1] rfl ?_
            refine ow_storeC (off := 1) [.slice a71 l69.length c72] [_, _] (i := 4) rfl rfl rfl rfl rfl rfl ty28 rfl rfl (by intro u hu; simp only [List.mem_cons, List.not_mem_nil, or_false] at hu; rcases hu with rfl <;> rfl) rfl rfl rfl kp ?_
            refine ow_nil ?_
            refine x_qs ?_
            refine c_seq ?_
            refine c_reg ?_
            refine ow_r rfl (dstOk_lt rfl) (ry_box (off := 0) (ds := [.slice a16 y11.Table_.length c18, .slice a71 l69.length c72]) rfl rfl ty30 (boxIn (i := 4) rfl) rfl rfl) ?_
            refine ow_storeC (off := 0) [.slice a16 y11.Table_.length c18, .slice a71 l69.length c72] [_, _] (i := 1) rfl rfl rfl rfl rfl rfl ty30 rfl rfl (by intro u hu; simp only [List.mem_cons, List.not_mem_nil, or_false] at hu; rcases hu with rfl | rfl <;> rfl) rfl rfl rfl kp ?_
            refine ow_batch [.p] rfl ?_
            refine ow_nil ?_
            refine x_qs ?_
            refine c_ret ?_
            refine xw_ex (fun w1 hw1 => unf (p := 5) (q := 6) hw1 rfl rfl rfl hn51 ha50) (fun F74 => ?_)
            refine xw_st (C' := St w M0 [_, _, _, _, _, _, _, _, _, _]) (fun _ h => h) ?_
            exact x_retR (rs := [.cell 8 30, .tmp 9]) (vs := [.agg #[.slice a16 y11.Table_.length c18, .slice a71 l69.length c72], .bool true]) rfl ⟨⟨_, [.slice a16 y11.Table_.length c18, .slice a71 l69.length c72], _, _, _, rfl, ty30, (at_box (T := 30) 0 (boxIn (i := 1) rfl) rfl), rfl, rfl⟩, rfl, trivial⟩ (fun w' hw' => by
                obtain rfl := of_some H
                exact ⟨_, rfl, a16, y11.Table_.length, c18, F74, a71, l69.length, c72, F73, rfl, hw'.sel [9, 8] rfl rfl⟩)
          · have H := of_if_f hb H
            refine c_skip ?_
            refine x_qs ?_
            refine c_seq ?_
            refine c_reg ?_
            refine ow_r rfl (dstOk_lt rfl) (ry_box (off := 0) (ds := [.slice a16 y11.Table_.length c18, .slice a62 l60.length c63]) rfl rfl ty30 (boxIn (i := 4) rfl) rfl rfl) ?_
            refine ow_storeC (off := 0) [.slice a16 y11.Table_.length c18, .slice a62 l60.length c63] [_, _] (i := 1) rfl rfl rfl rfl rfl rfl ty30 rfl rfl (by intro u hu; simp only [List.mem_cons, List.not_mem_nil, or_false] at hu; rcases hu with rfl | rfl <;> rfl) rfl rfl rfl kp ?_
            refine ow_batch [.p] rfl ?_
            refine ow_nil ?_
            refine x_qs ?_
            refine c_ret ?_
            refine xw_ex (fun w1 hw1 => unf (p := 5) (q := 6) hw1 rfl rfl rfl hn51 ha50) (fun F75 => ?_)
            refine xw_st (C' := St w M0 [_, _, _, _, _, _, _, _, _]) (fun _ h => h) ?_
            exact x_retR (rs := [.cell 8 30, .tmp 9]) (vs := [.agg #[.slice a16 y11.Table_.length c18, .slice a62 l60.length c63], .bool true]) rfl ⟨⟨_, [.slice a16 y11.Table_.length c18, .slice a62 l60.length c63], _, _, _, rfl, ty30, (at_box (T := 30) 0 (boxIn (i := 1) rfl) rfl), rfl, rfl⟩, rfl, trivial⟩ (fun w' hw' => by
                obtain rfl := of_some H
                exact ⟨_, rfl, a16, y11.Table_.length, c18, F75, a62, l60.length, c63, F64, rfl, hw'.sel [8, 3] rfl rfl⟩)
      · clear H
        have H := hu42
        clear hu42
        generalize u33 = t41 at H ⊢
        cases t41
        · have H := of_if_f rfl H
          refine ow_batch [.p] rfl ?_
          refine ow_r rfl (dstOk_lt rfl) (ry_box (off := 0) (ds := [.slice a5 p1.Table_.length c6, .slice a7 p1.Last_.length c8]) rfl rfl ty30 (boxIn (i := 0) rfl) rfl rfl) ?_
          obtain ⟨y39, h40, H⟩ := of_bind H
          refine ow_q rfl rfl (dstOk_lt rfl) (qy_call rfl fn18 rfl (fun w1 hw1 => spec_Count_ok w1 (cs1 := [.slice a5 p1.Table_.length c6, .slice a7 p1.Last_.length c8]) h40 (rdm_Timpl_Score (x := p1) (c0 := [.slice a5 p1.Table_.length c6]) (c1 := [.slice a7 p1.Last_.length c8]) (rds_bor g3 w1 hw1) (rds_bor g4 w1 hw1)))) (fun _ _ => trivial) ?_
          refine ow_batch [.p] rfl ?_
          refine ow_batch [.p] rfl ?_
          obtain rfl := of_some H
          exact OW.sub key ⟨rfl, rfl, rfl, rfl, rfl, trivial⟩
        · have H := of_if_t rfl H
          refine ow_batch [.p, .p, .p, .p, .p] rfl ?_
          obtain rfl := of_some H
          exact OW.sub key ⟨rfl, rfl, rfl, rfl, rfl, trivial⟩
    · clear H
      have H := hu37
      clear hu37
      generalize u27 = t36 at H ⊢
      cases t36
      · have H := of_if_f rfl H
        refine ow_batch [.p, .p, .p] rfl ?_
        obtain ⟨y34, h35, H⟩ := of_bind H
        refine ow_q rfl rfl (dstOk_lt rfl) (qy_call rfl fn45 rfl (fun w1 hw1 => spec_l1In_ok w1  h35)) (fun _ _ => trivial) ?_
        refine ow_batch [.p] rfl ?_
        refine ow_batch [.p] rfl ?_
        obtain rfl := of_some H
        exact OW.sub key ⟨rfl, rfl, rfl, rfl, rfl, rfl, rfl, trivial⟩
      · have H := of_if_t rfl H
        refine ow_batch [.p, .p, .p, .p, .p, .p] rfl ?_
        obtain rfl := of_some H
        exact OW.sub key ⟨rfl, rfl, rfl, rfl, rfl, rfl, rfl, trivial⟩
  · clear H
    have H := hu31
    clear hu31
    generalize (!y25) = t30 at H ⊢
    cases t30
    · have H := of_if_f rfl H
      refine ow_batch [.p, .p, .p] rfl ?_
      obtain ⟨y28, h29, H⟩ := of_bind H
      refine ow_q rfl rfl (dstOk_lt rfl) (qy_call rfl fn45 rfl (fun w1 hw1 => spec_l1In_ok w1  h29)) (fun _ _ => trivial) ?_
      refine ow_batch [.p] rfl ?_
      refine ow_batch [.p] rfl ?_
      obtain rfl := of_some H
      exact OW.sub key ⟨rfl, rfl, rfl, rfl, rfl, rfl, rfl, trivial⟩
    · have H := of_if_t rfl H
      refine ow_batch [.p, .p, .p, .p, .p, .p] rfl ?_
      obtain rfl := of_some H
      exact OW.sub key ⟨rfl, rfl, rfl, rfl, rfl, rfl, rfl, trivial⟩

set_option maxHeartbeats 4000000 in
set_option maxRecDepth 100000 in
theorem lib_slices_Clone___int_int__ok (w : World) {M0 : List Nat} {p0 : List Int} {a_0 : Option Addr} {n_0 c_0 : Nat} {r : List Int} (H : lib_slices_Clone___int_int_ p0 = some r) (HS : St w M0 [] w) (g0 : (eList (eVal (Value.int .i64) (fun _ => rfl)) 3).rd w M0 p0 [.slice a_0 n_0 c_0]) :
    Calls Try.prog 81 #[.slice a_0 n_0 c_0] w (fun en w' => ∃ v, en = .returned v ∧ ∃ (a0 : Option Addr), ∃ (n0 : Nat), ∃ (c0 : Nat), ∃ (F0 : List Nat), v = .slice a0 n0 c0 ∧ St w M0 [Res.own (eList (eVal (Value.int .i64) (fun _ => rfl)) 3) F0 r [.slice a0 n0 c0]] w') := by
  obtain rfl := rd_n g0
  unfold lib_slices_Clone___int_int_ at H
  refine f_enter (vs := [.slice a_0 p0.length c_0]) Try.func81 rfl Try.ntmps81 rfl (HS) ?_
  refine c_seq ?_
  refine c_reg ?_
  refine ow_batch [.p] rfl ?_
  refine ow_nil ?_
  refine x_qs ?_
  refine c_seq ?_
  refine c_seq ?_
  refine c_reg ?_
  refine ow_batch [.p] rfl ?_
  refine ow_r rfl (dstOk_lt rfl) (ry_nilB rfl rfl sl53 rfl) ?_
  refine ow_nil ?_
  refine x_qs ?_
  refine c_if rfl (fun hb => ?_) (fun _ => ?_)
  · obtain rfl : p0 = [] := rd_isNone g0 hb
    have H : some ([] : List Int) = some r := by simpa [app] using H
    refine c_seq ?_
    refine c_reg ?_
    refine ow_batch [.p] rfl ?_
    refine ow_nil ?_
    refine x_qs ?_
    refine c_ret ?_
    refine x_qs_ret ?_
    refine xw_st (fun _ h => St.pushNil (e := eVal (Value.int .i64) (fun _ => rfl)) (T := 3) h) ?_
    exact x_retR (rs := [.tmp 2]) (vs := [.slice none 0 0]) rfl ⟨rfl, trivial⟩ (fun w' hw' => by
        obtain rfl := of_some H
        exact ⟨_, rfl, none, 0, 0, [], rfl, hw'.sel [0] rfl rfl⟩)
  · refine c_skip ?_
    refine x_qs ?_
    refine c_seq ?_
    refine c_reg ?_
    refine ow_blit0 (e := eVal (Value.int .i64) (fun _ => rfl)) rfl rfl rfl rfl sl53 ty3 (fun _ => kp) (fun b1 => ?_)
    refine ow_batch [.p] rfl ?_
    obtain ⟨l2, h3, H⟩ := of_bind H
    refine ow_appR (r := 0) (ys := p0) rfl rfl rfl rfl rfl rfl sl53 ty3 rfl rfl rfl (fun w1 hw1 => rds_bor g0 w1 hw1) h3 (fun _ _ _ => kp) (fun a4 c5 F6 => ?_)
    refine ow_batch [.p] rfl ?_
    refine ow_nil ?_
    refine x_qs ?_
    refine c_ret ?_
    exact x_retR (rs := [.tmp 2]) (vs := [.slice a4 l2.length c5]) rfl ⟨rfl, trivial⟩ (fun w' hw' => by
        obtain rfl := of_some H
        exact ⟨_, rfl, a4, l2.length, c5, F6, rfl, hw'.sel [0] rfl rfl⟩)

set_option maxHeartbeats 4000000 in
set_option maxRecDepth 100000 in
theorem impl_cloneLists_ok (w : World) {M0 : List Nat} {p0 : List (List Int)} {a_0 : Option Addr} {n_0 c_0 : Nat} {r : List (List Int)} (H : impl_cloneLists p0 = some r) (HS : St w M0 [] w) (g0 : (eList (eList (eVal (Value.int .i64) (fun _ => rfl)) 3) 53).rd w M0 p0 [.slice a_0 n_0 c_0]) :
    Calls Try.prog 67 #[.slice a_0 n_0 c_0] w (fun en w' => ∃ v, en = .returned v ∧ ∃ (a0 : Option Addr), ∃ (n0 : Nat), ∃ (c0 : Nat), ∃ (F0 : List Nat), v = .slice a0 n0 c0 ∧ St w M0 [Res.own (eList (eList (eVal (Value.int .i64) (fun _ => rfl)) 3) 53) F0 r [.slice a0 n0 c0]] w') := by
  obtain rfl := rd_n g0
  unfold impl_cloneLists at H
  refine f_enter (vs := [.slice a_0 p0.length c_0]) Try.func67 rfl Try.ntmps67 rfl (HS) ?_
  refine c_seq ?_
  refine c_reg ?_
  refine ow_batch [.p] rfl ?_
  refine ow_nil ?_
  refine x_qs ?_
  refine c_seq ?_
  refine c_reg ?_
  refine ow_batch [.p] rfl ?_
  refine ow_nil ?_
  refine x_qs ?_
  refine c_seq ?_
  refine c_seq ?_
  refine c_reg ?_
  refine ow_batch [.p, .lenS 22 53 sl22, .p] rfl ?_
  refine ow_nil ?_
  refine x_qs ?_
  refine c_block ?_
  refine CW.weak ?_ (fun _ h => St.pushNil (e := eList (eVal (Value.int .i64) (fun _ => rfl)) 3) (T := 53) h)
  refine CW.at (loopI5 (fun (l29 : List (List Int)) (a30 : Option Addr) (c31 : Nat) (F32 : List Nat) (i33 : Int) => St w M0 [Res.own (eList (eList (eVal (Value.int .i64) (fun _ => rfl)) 3) 53) F32 l29 [.slice a30 l29.length c31]]) (fun (l29 : List (List Int)) (a30 : Option Addr) (c31 : Nat) (F32 : List Nat) (i33 : Int) => [(3, .slice a30 l29.length c31), (6, .slice a_0 p0.length c_0), (7, .int .i64 (p0.length : Int)), (8, .int .i64 i33)]) (fun kk => fun (l29 : List (List Int)) (a30 : Option Addr) (c31 : Nat) (F32 : List Nat) (i33 : Int) => impl_cloneLists_L1 p0 kk l29 i33 = some r) (fun _ _ _ _ _ H => ?_) (fun k1 ihk1 l29 a30 c31 F32 i33 H => ?_) Fuel (([] : List (List Int))) (none) (0) ([]) (0) (H)) (fun _ h => St.sel [0] rfl rfl h) ⟨rfl, rfl, rfl, rfl,  trivial⟩
  · unfold impl_cloneLists_L1 at H
    exact absurd H (by simp)
  · unfold impl_cloneLists_L1 at H
    refine c_seq ?_
    refine c_reg ?_
    refine ow_batch [.p] rfl ?_
    refine ow_nil ?_
    refine x_qs ?_
    refine c_seq ?_
    refine c_if rfl (fun hb => ?_) (fun hb => ?_)
    · have H := of_if_t hb H
      refine c_skip ?_
      refine x_qs ?_
      refine c_seq ?_
      refine c_block ?_
      refine c_seq ?_
      refine c_reg ?_
      obtain ⟨e62, h63, H⟩ := of_bind H
      refine ow_ixB rfl rfl rfl rfl rfl sl22 ty53 rfl g0 h63 (fun q66 c67 hd64 hA65 => ?_)
      obtain ⟨a68, c69, rfl⟩ := rd_sl1 hd64
      refine ow_r rfl (dstOk_lt rfl) (ry_load1 rfl rfl ty53 (at_bor bor hA65)) ?_
      refine ow_batch [.p] rfl ?_
      refine ow_nil ?_
      refine x_qs ?_
      refine c_reg ?_
      refine ow_batch [.p, .p] rfl ?_
      obtain ⟨y70, h71, H⟩ := of_bind H
      refine ow_callS rfl fn81 rfl rfl rfl rfl (fun w1 hw1 => lib_slices_Clone___int_int__ok w1  h71 (hw1.carve [] rfl rfl) (rds_bor hd64 w1 hw1)) (fun v72 w1 w2 hw1 hR74 => ?_)
      obtain ⟨a75, n76, c77, F78, rfl, hS73⟩ := hR74
      obtain rfl := own_nS (i := 0) hS73 rfl
      refine ⟨St w M0 [_, _], hw1.comp [] rfl rfl hS73, fun _ _ => trivial, ?_⟩
      refine ow_bslice [(0, [.slice a75 y70.length c77])] rfl rfl rfl rfl rfl sl22 ty53 rfl rfl ⟨rfl, rfl, Nat.le_of_ble_eq_true rfl,  trivial⟩ [.slice a75 y70.length c77] rfl (fun _ => kp) (fun b79 => ?_)
      refine ow_st rfl (fun _ h => lit1 (p := 2) (q := 1) h rfl rfl rfl) ?_
      obtain ⟨l80, h81, H⟩ := of_bind H
      refine ow_appM (r := 0) (j := 3) rfl rfl rfl rfl rfl rfl sl22 ty53 rfl rfl rfl rfl rfl rfl rfl h81 (fun _ _ _ => kp) (fun a82 c83 F84 => ?_)
      refine ow_batch [.p] rfl ?_
      refine ow_nil ?_
      refine x_qb ?_
      refine x_qs ?_
      refine CW.weak (C' := St w M0 [_]) ?_ (fun _ h => St.sel [4] rfl rfl h)
      refine c_reg ?_
      refine ow_batch [.p, .p] rfl ?_
      refine ow_nil ?_
      exact x_ql (RW.at (ihk1 (l80) (a82) (c83) (F84) (IntKind.i64.wrap (i33 + 1)) (H)) (fun _ h => St.sel [0] rfl rfl h) ⟨rfl, rfl, rfl, rfl, trivial⟩)
    · have H := of_if_f hb H
      refine c_exit ?_
      refine x_qs_exit ?_
      refine x_ql_exit ?_
      refine x_qb_here ?_
      refine x_qs ?_
      refine c_seq ?_
      refine c_reg ?_
      refine ow_batch [.p, .p] rfl ?_
      refine ow_nil ?_
      refine x_qs ?_
      refine c_ret ?_
      exact x_retR (rs := [.tmp 2]) (vs := [.slice a30 l29.length c31]) rfl ⟨rfl, trivial⟩ (fun w' hw' => by
          obtain rfl := of_some H
          exact ⟨_, rfl, a30, l29.length, c31, F32, rfl, hw'.sel [0] rfl rfl⟩)

set_option maxHeartbeats 4000000 in
set_option maxRecDepth 100000 in
theorem lib_slices_Clone___impl_Pair_impl_Pair__ok (w : World) {M0 : List Nat} {p0 : List Timpl_Pair} {a_0 : Option Addr} {n_0 c_0 : Nat} {r : List Timpl_Pair} (H : lib_slices_Clone___impl_Pair_impl_Pair_ p0 = some r) (HS : St w M0 [] w) (g0 : (eList (eTimpl_Pair) 60).rd w M0 p0 [.slice a_0 n_0 c_0]) :
    Calls Try.prog 68 #[.slice a_0 n_0 c_0] w (fun en w' => ∃ v, en = .returned v ∧ ∃ (a0 : Option Addr), ∃ (n0 : Nat), ∃ (c0 : Nat), ∃ (F0 : List Nat), v = .slice a0 n0 c0 ∧ St w M0 [Res.own (eList (eTimpl_Pair) 60) F0 r [.slice a0 n0 c0]] w') := by
  obtain rfl := rd_n g0
  unfold lib_slices_Clone___impl_Pair_impl_Pair_ at H
  refine f_enter (vs := [.slice a_0 p0.length c_0]) Try.func68 rfl Try.ntmps68 rfl (HS) ?_
  refine c_seq ?_
  refine c_reg ?_
  refine ow_batch [.p] rfl ?_
  refine ow_nil ?_
  refine x_qs ?_
  refine c_seq ?_
  refine c_seq ?_
  refine c_reg ?_
  refine ow_batch [.p] rfl ?_
  refine ow_r rfl (dstOk_lt rfl) (ry_nilB rfl rfl sl28 rfl) ?_
  refine ow_nil ?_
  refine x_qs ?_
  refine c_if rfl (fun hb => ?_) (fun _ => ?_)
  · obtain rfl : p0 = [] := rd_isNone g0 hb
    have H : some ([] : List Timpl_Pair) = some r := by simpa [app] using H
    refine c_seq ?_
    refine c_reg ?_
    refine ow_batch [.p] rfl ?_
    refine ow_nil ?_
    refine x_qs ?_
    refine c_ret ?_
    refine x_qs_ret ?_
    refine xw_st (fun _ h => St.pushNil (e := eTimpl_Pair) (T := 60) h) ?_
    exact x_retR (rs := [.tmp 2]) (vs := [.slice none 0 0]) rfl ⟨rfl, trivial⟩ (fun w' hw' => by
        obtain rfl := of_some H
        exact ⟨_, rfl, none, 0, 0, [], rfl, hw'.sel [0] rfl rfl⟩)
  · refine c_skip ?_
    refine x_qs ?_
    refine c_seq ?_
    refine c_reg ?_
    refine ow_blit0 (e := eTimpl_Pair) rfl rfl rfl rfl sl28 ty60 (fun _ => kp) (fun b1 => ?_)
    refine ow_batch [.p] rfl ?_
    obtain ⟨l2, h3, H⟩ := of_bind H
    refine ow_appF (r := 0) (ys := p0) rfl rfl rfl rfl rfl rfl sl28 ty60 rfl rfl rfl rfl rfl (fun w1 hw1 => rds_bor g0 w1 hw1) h3 (fun _ _ _ => kp) (fun a4 c5 F6 => ?_)
    refine ow_batch [.p] rfl ?_
    refine ow_nil ?_
    refine x_qs ?_
    refine c_ret ?_
    exact x_retR (rs := [.tmp 2]) (vs := [.slice a4 l2.length c5]) rfl ⟨rfl, trivial⟩ (fun w' hw' => by
        obtain rfl := of_some H
        exact ⟨_, rfl, a4, l2.length, c5, F6, rfl, hw'.sel [0] rfl rfl⟩)

set_option maxHeartbeats 4000000 in
set_option maxRecDepth 100000 in
theorem impl_cloneScore_ok (w : World) {M0 : List Nat} {p0 : Timpl_Score} {cs0 : List Value} {r : Timpl_Score} (H : impl_cloneScore p0 = some r) (HS : St w M0 [] w) (g0 : (eTimpl_Score).rd w M0 p0 cs0) :
    Calls Try.prog 50 #[.agg cs0.toArray] w (fun en w' => ∃ v, en = .returned v ∧ ∃ (a0 : Option Addr), ∃ (n0 : Nat), ∃ (c0 : Nat), ∃ (F0 : List Nat), ∃ (a1 : Option Addr), ∃ (n1 : Nat), ∃ (c1 : Nat), ∃ (F1 : List Nat), v = .agg #[.slice a0 n0 c0, .slice a1 n1 c1] ∧ St w M0 [Res.own (eList (eList (eVal (Value.int .i64) (fun _ => rfl)) 3) 53) F0 r.Table_ [.slice a0 n0 c0], Res.own (eList (eTimpl_Pair) 60) F1 r.Last_ [.slice a1 n1 c1]] w') := by
  obtain ⟨c1, c2, rfl, g3, g4⟩ := rdo_Timpl_Score g0
  obtain ⟨a5, c6, rfl⟩ := rd_sl1 g3
  obtain ⟨a7, c8, rfl⟩ := rd_sl1 g4
  unfold impl_cloneScore at H
  refine f_enter (vs := [.agg #[.slice a5 p0.Table_.length c6, .slice a7 p0.Last_.length c8]]) Try.func50 rfl Try.ntmps50 rfl (HS) ?_
  refine c_seq ?_
  refine c_reg ?_
  refine ow_box (cs := [.slice a5 p0.Table_.length c6, .slice a7 p0.Last_.length c8]) rfl rfl rfl rfl rfl rfl (fun _ => kp) (fun b9 => ?_)
  refine ow_alloc rfl rfl rfl rfl ty30 (fun _ => kp) (fun b10 => ?_)
  refine ow_nil ?_
  refine x_qs ?_
  refine c_seq ?_
  refine c_regHT 5 [(0, true), (1, true), (3, true), (4, true), (2, false)] (St w M0 [Res.box b9 30 [.slice a5 p0.Table_.length c6, .slice a7 p0.Last_.length c8], Res.box b10 30 [.slice none 0 0, .slice none 0 0]]) mixed (by kernel_rfl) (panicOk_qs panicOk_body) (fun _ h => St.mask [true, true] rfl h) ?_
  refine ow_batch [.fa 30 0 0 fa30_0] rfl ?_
  refine ow_rH rfl (dstOk_lt rfl) (ry_box1 (off := 0) rfl rfl ty22 (boxIn (i := 0) rfl) rfl) ?_
  refine ow_batch [.fa 30 1 1 fa30_1] rfl ?_
  refine ow_rH rfl (dstOk_lt rfl) (ry_box1 (off := 1) rfl rfl ty28 (boxIn (i := 0) rfl) rfl) ?_
  obtain ⟨y20, h21, H⟩ := of_bind H
  refine ow_callS rfl fn67 rfl rfl rfl rfl (fun w1 hw1 => impl_cloneLists_ok w1  h21 (hw1.carve [] rfl rfl) (rds_bor g3 w1 hw1)) (fun v22 w1 w2 hw1 hR24 => ?_)
  obtain ⟨a25, n26, c27, F28, rfl, hS23⟩ := hR24
  obtain rfl := own_nS (i := 0) hS23 rfl
  refine ⟨St w M0 [_, _, _], hw1.comp [] rfl rfl hS23, (fun _ h => St.mask [true, true] rfl h), ?_⟩
  refine ow_nilH ?_
  refine x_qt ?_
  obtain ⟨y29, h30, H⟩ := of_bind H
  refine ow_callS rfl fn68 rfl rfl rfl rfl (fun w1 hw1 => lib_slices_Clone___impl_Pair_impl_Pair__ok w1  h30 (hw1.carve [] rfl rfl) (rds_bor g4 w1 hw1)) (fun v31 w1 w2 hw1 hR33 => ?_)
  obtain ⟨a34, n35, c36, F37, rfl, hS32⟩ := hR33
  obtain rfl := own_nS (i := 0) hS32 rfl
  refine ⟨St w M0 [_, _, _, _], hw1.comp [] rfl rfl hS32, fun _ _ => trivial, ?_⟩
  refine ow_r rfl (dstOk_lt rfl) (ry_build2 [(0, [.slice a25 y20.length c27]), (1, [.slice a34 y29.length c36])] [.slice a25 y20.length c27, .slice a34 y29.length c36] rfl rfl ty30 fs30 rfl ⟨rfl, rfl, Nat.le_of_ble_eq_true rfl, rfl, rfl, Nat.le_of_ble_eq_true rfl,  trivial⟩ rfl) ?_
  refine ow_storeC (off := 0) [.slice a25 y20.length c27, .slice a34 y29.length c36] [_, _] (i := 1) rfl rfl rfl rfl rfl rfl ty30 rfl rfl (by intro u hu; simp only [List.mem_cons, List.not_mem_nil, or_false] at hu; rcases hu with rfl | rfl <;> rfl) rfl rfl rfl kp ?_
  refine ow_nil ?_
  refine x_qs ?_
  refine c_ret ?_
  exact x_retR (rs := [.cell 2 30]) (vs := [.agg #[.slice a25 y20.length c27, .slice a34 y29.length c36]]) rfl ⟨⟨_, [.slice a25 y20.length c27, .slice a34 y29.length c36], _, _, _, rfl, ty30, (at_box (T := 30) 0 (boxIn (i := 1) rfl) rfl), rfl, rfl⟩, trivial⟩ (fun w' hw' => by
      obtain rfl := of_some H
      exact ⟨_, rfl, a25, y20.length, c27, F28, a34, y29.length, c36, F37, rfl, hw'.sel [2, 3] rfl rfl⟩)

set_option maxHeartbeats 4000000 in
set_option maxRecDepth 100000 in
theorem lib_slices_Delete___impl_Pair_impl_Pair__ok (w : World) {M0 : List Nat} {p0 : List Timpl_Pair} {p1 : Int} {p2 : Int} {a_0_0 : Option Addr} {n_0_0 c_0_0 : Nat} {F_0_0 : List Nat} {r : List Timpl_Pair} (H : lib_slices_Delete___impl_Pair_impl_Pair_ p0 p1 p2 = some r) (HS : St w M0 [Res.own (eList (eTimpl_Pair) 60) F_0_0 p0 [.slice a_0_0 n_0_0 c_0_0]] w)  :
    Calls Try.prog 51 #[.slice a_0_0 n_0_0 c_0_0, .int .i64 p1, .int .i64 p2] w (fun en w' => ∃ v, en = .returned v ∧ ∃ (a0 : Option Addr), ∃ (n0 : Nat), ∃ (c0 : Nat), ∃ (F0 : List Nat), v = .slice a0 n0 c0 ∧ St w M0 [Res.own (eList (eTimpl_Pair) 60) F0 r [.slice a0 n0 c0]] w') := by
  obtain rfl := own_nS (i := 0) HS rfl
  unfold lib_slices_Delete___impl_Pair_impl_Pair_ at H
  refine f_enter (vs := [.slice a_0_0 p0.length c_0_0, .int .i64 p1, .int .i64 p2]) Try.func51 rfl Try.ntmps51 rfl (HS) ?_
  refine c_seq ?_
  refine c_reg ?_
  refine ow_batch [.p] rfl ?_
  refine ow_nil ?_
  refine x_qs ?_
  refine c_seq ?_
  refine c_reg ?_
  refine ow_batch [.p, .p, .p, .p, .lenS 28 60 sl28] rfl ?_
  obtain ⟨l1, h2, H⟩ := of_bind H
  refine ow_slice3 (e := eTimpl_Pair) (xs := p0) rfl rfl rfl rfl rfl rfl rfl sl28 ty60 h2 (fun w1 hw1 => rds_own (r := 0) rfl w1 hw1) (fun _ => ?_)
  refine ow_nil ?_
  refine x_qs ?_
  refine c_seq ?_
  refine c_seq ?_
  refine c_reg ?_
  refine ow_batch [.p, .p, .p] rfl ?_
  refine ow_nil ?_
  refine x_qs ?_
  refine c_if rfl (fun hb => ?_) (fun hb => ?_)
  · have H := of_if_t hb H
    refine c_seq ?_
    refine c_reg ?_
    refine ow_batch [.p, .p] rfl ?_
    refine ow_nil ?_
    refine x_qs ?_
    refine c_ret ?_
    refine x_qs_ret ?_
    exact x_retR (rs := [.tmp 6]) (vs := [.slice a_0_0 p0.length c_0_0]) rfl ⟨rfl, trivial⟩ (fun w' hw' => by
        obtain rfl := of_some H
        exact ⟨_, rfl, a_0_0, p0.length, c_0_0, F_0_0, rfl, hw'.sel [0] rfl rfl⟩)
  · have H := of_if_f hb H
    refine c_skip ?_
    refine x_qs ?_
    refine c_seq ?_
    refine c_reg ?_
    refine ow_batch [.p, .lenS 28 60 sl28, .p] rfl ?_
    refine ow_nil ?_
    refine x_qs ?_
    refine c_seq ?_
    refine c_regT 6 mixed (by kernel_rfl) ?_
    refine ow_batch [.p, .p] rfl ?_
    obtain ⟨l3, h4, H⟩ := of_bind H
    refine ow_vsub (e := eTimpl_Pair) (xs := p0) rfl rfl rfl rfl sl28 ty60 rfl rfl rfl h4 (fun w1 hw1 => rds_own (r := 0) rfl w1 hw1) ?_
    refine ow_batch [.p, .p] rfl ?_
    obtain ⟨l5, h6, H⟩ := of_bind H
    refine ow_vsub (e := eTimpl_Pair) (xs := p0) rfl rfl rfl rfl sl28 ty60 rfl rfl rfl h6 (fun w1 hw1 => rds_own (r := 0) rfl w1 hw1) ?_
    refine ow_nilQ ?_
    refine ow_del (flatE_flat) (r := 0) (i := p1) (j := p2) rfl rfl rfl rfl rfl rfl sl28 ty60 rfl rfl h2 h4 h6 rfl hb kp (fun hq7 => ?_)
    refine ow_batch [.p] rfl ?_
    refine ow_nil ?_
    refine x_qs ?_
    refine c_seq ?_
    refine c_reg ?_
    refine ow_batch [.p, .p, .lenS 28 60 sl28, .p] rfl ?_
    refine ow_behind rfl rfl rfl rfl rfl rfl sl28 ty60 hq7 ?_
    refine ow_clear (flatE_flat) (r := 0) rfl rfl rfl rfl rfl sl28 ty60 rfl (by intro u hu; simp only [List.mem_cons, List.not_mem_nil, or_false] at hu; rcases hu with rfl | rfl <;> rfl) rfl rfl rfl hq7 kp ?_
    refine ow_nil ?_
    refine x_qs ?_
    refine c_seq ?_
    refine c_reg ?_
    refine ow_batch [.p, .p] rfl ?_
    refine ow_nil ?_
    refine x_qs ?_
    refine c_ret ?_
    exact x_retR (rs := [.tmp 6]) (vs := [.slice a_0_0 ((l3 ++ l5).length) c_0_0]) rfl ⟨rfl, trivial⟩ (fun w' hw' => by
        obtain rfl := of_some H
        exact ⟨_, rfl, a_0_0, ((l3 ++ l5).length), c_0_0, F_0_0, rfl, hw'.sel [0] rfl rfl⟩)

set_option maxHeartbeats 4000000 in
set_option maxRecDepth 100000 in
theorem impl_ScoreAdd_ok (w : World) {M0 : List Nat} {p0 : Int} {p1 : Timpl_Score} {p2 : Int} {p3 : Int} {cs1 : List Value} {r : Timpl_Score × Bool} (H : impl_ScoreAdd p0 p1 p2 p3 = some r) (HS : St w M0 [] w) (g1 : (eTimpl_Score).rd w M0 p1 cs1) :
    Calls Try.prog 28 #[.int .i64 p0, .agg cs1.toArray, .int .i64 p2, .int .i64 p3] w (fun en w' => ∃ v, en = .returned v ∧ ∃ (a0 : Option Addr), ∃ (n0 : Nat), ∃ (c0 : Nat), ∃ (F0 : List Nat), ∃ (a1 : Option Addr), ∃ (n1 : Nat), ∃ (c1 : Nat), ∃ (F1 : List Nat), v = .tuple #[.agg #[.slice a0 n0 c0, .slice a1 n1 c1], .bool r.2] ∧ St w M0 [Res.own (eList (eList (eVal (Value.int .i64) (fun _ => rfl)) 3) 53) F0 r.1.Table_ [.slice a0 n0 c0], Res.own (eList (eTimpl_Pair) 60) F1 r.1.Last_ [.slice a1 n1 c1]] w') := by
  obtain ⟨c1, c2, rfl, g3, g4⟩ := rdo_Timpl_Score g1
  obtain ⟨a5, c6, rfl⟩ := rd_sl1 g3
  obtain ⟨a7, c8, rfl⟩ := rd_sl1 g4
  unfold impl_ScoreAdd at H
  refine f_enter (vs := [.int .i64 p0, .agg #[.slice a5 p1.Table_.length c6, .slice a7 p1.Last_.length c8], .int .i64 p2, .int .i64 p3]) Try.func28 rfl Try.ntmps28 rfl (HS) ?_
  refine c_seq ?_
  refine c_reg ?_
  refine ow_box (cs := [.slice a5 p1.Table_.length c6, .slice a7 p1.Last_.length c8]) rfl rfl rfl rfl rfl rfl (fun _ => kp) (fun b9 => ?_)
  refine ow_alloc rfl rfl rfl rfl ty30 (fun _ => kp) (fun b10 => ?_)
  refine ow_batch [.p] rfl ?_
  refine ow_nil ?_
  refine x_qs ?_
  refine c_seq ?_
  refine c_reg ?_
  refine ow_r rfl (dstOk_lt rfl) (ry_box (off := 0) (ds := [.slice a5 p1.Table_.length c6, .slice a7 p1.Last_.length c8]) rfl rfl ty30 (boxIn (i := 0) rfl) rfl rfl) ?_
  obtain ⟨y11, h12, H⟩ := of_bind H
  refine ow_callS rfl fn50 rfl rfl rfl rfl (fun w1 hw1 => impl_cloneScore_ok w1 (cs0 := [.slice a5 p1.Table_.length c6, .slice a7 p1.Last_.length c8]) h12 (hw1.carve [] rfl rfl) (rdm_Timpl_Score (x := p1) (c0 := [.slice a5 p1.Table_.length c6]) (c1 := [.slice a7 p1.Last_.length c8]) (rds_bor g3 w1 hw1) (rds_bor g4 w1 hw1))) (fun v13 w1 w2 hw1 hR15 => ?_)
  obtain ⟨a16, n17, c18, F19, a20, n21, c22, F23, rfl, hS14⟩ := hR15
  obtain rfl := own_nS (i := 0) hS14 rfl
  obtain rfl := own_nS (i := 1) hS14 rfl
  refine ⟨St w M0 [_, _, _, _], hw1.comp [] rfl rfl hS14, fun _ _ => trivial, ?_⟩
  refine ow_alloc rfl rfl rfl rfl ty30 (fun _ => kp) (fun b24 => ?_)
  refine ow_storeC (off := 0) [.slice a16 y11.Table_.length c18, .slice a20 y11.Last_.length c22] [_, _] (i := 4) rfl rfl rfl rfl rfl rfl ty30 rfl rfl (by intro u hu; simp only [List.mem_cons, List.not_mem_nil, or_false] at hu; rcases hu with rfl | rfl <;> rfl) rfl rfl rfl kp ?_
  refine ow_nil ?_
  refine x_qs ?_
  refine c_seq ?_
  refine c_seq ?_
  refine c_reg ?_
  refine ow_batch [.p] rfl ?_
  refine ow_r rfl (dstOk_lt rfl) (ry_box (off := 0) (ds := [.slice a5 p1.Table_.length c6, .slice a7 p1.Last_.length c8]) rfl rfl ty30 (boxIn (i := 0) rfl) rfl rfl) ?_
  obtain ⟨y25, h26, H⟩ := of_bind H
  refine ow_q rfl rfl (dstOk_lt rfl) (qy_call rfl fn34 rfl (fun w1 hw1 => impl_ScoreOk_ok w1 (cs1 := [.slice a5 p1.Table_.length c6, .slice a7 p1.Last_.length c8]) h26 (rdm_Timpl_Score (x := p1) (c0 := [.slice a5 p1.Table_.length c6]) (c1 := [.slice a7 p1.Last_.length c8]) (rds_bor g3 w1 hw1) (rds_bor g4 w1 hw1)))) (fun _ _ => trivial) ?_
  refine ow_batch [.p, .p] rfl ?_
  obtain ⟨u27, hu31, H⟩ := of_bind H
  refine ow_cut [(23, .bool u27), (0, .int .i64 p0), (2, .int .i64 p2), (3, .int .i64 p3), (5, .pointer (some ⟨b9, 0, none⟩)), (8, .pointer (some ⟨b10, 0, none⟩)), (10, .pointer (some ⟨b24, 0, none⟩))] 6 ?_ (fun key => OW.sub (R := [(0, .int .i64 p0), (2, .int .i64 p2), (3, .int .i64 p3), (5, .pointer (some ⟨b9, 0, none⟩)), (8, .pointer (some ⟨b10, 0, none⟩)), (10, .pointer (some ⟨b24, 0, none⟩)), (17, .bool (!y25))]) ?_ ⟨rfl, rfl, rfl, rfl, rfl, rfl, rfl, trivial⟩)
  · refine ow_batch [.p] rfl ?_
    obtain ⟨u33, hu37, H⟩ := of_bind H
    refine ow_cut [(30, .bool u33), (2, .int .i64 p2), (3, .int .i64 p3), (5, .pointer (some ⟨b9, 0, none⟩)), (8, .pointer (some ⟨b10, 0, none⟩)), (10, .pointer (some ⟨b24, 0, none⟩))] 6 ?_ (fun key => OW.sub (R := [(0, .int .i64 p0), (2, .int .i64 p2), (3, .int .i64 p3), (5, .pointer (some ⟨b9, 0, none⟩)), (8, .pointer (some ⟨b10, 0, none⟩)), (10, .pointer (some ⟨b24, 0, none⟩)), (24, .bool u27)]) ?_ ⟨rfl, rfl, rfl, rfl, rfl, rfl, rfl, trivial⟩)
    · refine ow_batch [.p] rfl ?_
      obtain ⟨u38, hu42, H⟩ := of_bind H
      refine ow_cut [(36, .bool u38), (2, .int .i64 p2), (3, .int .i64 p3), (8, .pointer (some ⟨b10, 0, none⟩)), (10, .pointer (some ⟨b24, 0, none⟩))] 5 ?_ (fun key => OW.sub (R := [(2, .int .i64 p2), (3, .int .i64 p3), (5, .pointer (some ⟨b9, 0, none⟩)), (8, .pointer (some ⟨b10, 0, none⟩)), (10, .pointer (some ⟨b24, 0, none⟩)), (31, .bool u33)]) ?_ ⟨rfl, rfl, rfl, rfl, rfl, rfl, trivial⟩)
      · refine ow_nil ?_
        refine x_qs ?_
        refine c_if rfl (fun hb => ?_) (fun hb => ?_)
        · have H := of_if_t hb H
          refine c_seq ?_
          refine c_reg ?_
          refine ow_r rfl (dstOk_lt rfl) (ry_box (off := 0) (ds := [.slice a16 y11.Table_.length c18, .slice a20 y11.Last_.length c22]) rfl rfl ty30 (boxIn (i := 4) rfl) rfl rfl) ?_
          refine ow_storeC (off := 0) [.slice a16 y11.Table_.length c18, .slice a20 y11.Last_.length c22] [_, _] (i := 1) rfl rfl rfl rfl rfl rfl ty30 rfl rfl (by intro u hu; simp only [List.mem_cons, List.not_mem_nil, or_false] at hu; rcases hu with rfl | rfl <;> rfl) rfl rfl rfl kp ?_
          refine ow_batch [.p] rfl ?_
          refine ow_nil ?_
          refine x_qs ?_
          refine c_ret ?_
          refine x_qs_ret ?_
          exact x_retR (rs := [.cell 8 30, .tmp 9]) (vs := [.agg #[.slice a16 y11.Table_.length c18, .slice a20 y11.Last_.length c22], .bool false]) rfl ⟨⟨_, [.slice a16 y11.Table_.length c18, .slice a20 y11.Last_.length c22], _, _, _, rfl, ty30, (at_box (T := 30) 0 (boxIn (i := 1) rfl) rfl), rfl, rfl⟩, rfl, trivial⟩ (fun w' hw' => by
              obtain rfl := of_some H
              exact ⟨_, rfl, a16, y11.Table_.length, c18, F19, a20, y11.Last_.length, c22, F23, rfl, hw'.sel [2, 3] rfl rfl⟩)
        · have H := of_if_f hb H
          refine c_skip ?_
          refine x_qs ?_
          refine c_seq ?_
          refine c_reg ?_
          refine ow_batch [.fa 30 0 0 fa30_0] rfl ?_
          refine ow_r rfl (dstOk_lt rfl) (ry_box1 (off := 0) rfl rfl ty22 (boxIn (i := 4) rfl) rfl) ?_
          refine ow_batch [.p] rfl ?_
          obtain ⟨e43, h44, H⟩ := of_bind H
          refine ow_ex4 rfl (fun w1 hw1 => foc (r := 2) hw1 rfl h44) (fun b46 G47 F48 c49 => ?_)
          refine ow_fact rfl (fun w1 hw1 => hw1.1) (fun q45 => ?_)
          obtain ⟨ha50, hn51⟩ := q45
          refine ow_st (C' := St w M0 [_, _, _, _, _, _, _]) rfl (fun w1 hw1 => hw1.2) ?_
          refine ow_ex2 rfl (fun w1 hw1 => opn_sl (i := 6) hw1 rfl) (fun a52 c53 => ?_)
          refine ow_fact rfl (fun w1 hw1 => hw1.1) (fun q54 => ?_)
          subst q54
          refine ow_st (C' := St w M0 [_, _, _, _, _, _, _]) rfl (fun w1 hw1 => hw1.2) ?_
          refine ow_ixH rfl rfl rfl rfl rfl sl22 ty53 rfl (holeIn (p := 5) rfl) hn51 ha50 (idx_some h44).1 ?_
          refine ow_r rfl (dstOk_lt rfl) (ry_hole1 5 0 rfl rfl rfl ty53 (by first | rfl | simp only [add_lit, add_add, add_zero]) rfl) ?_
          refine ow_batch [.p] rfl ?_
          obtain ⟨e55, h56, H⟩ := of_bind H
          refine ow_ixE (e := eVal (Value.int .i64) (fun _ => rfl)) (xs := e43) (j := p3) rfl rfl rfl rfl rfl sl53 ty3 rfl (fun w1 hw1 => rds_own (r := 6) rfl w1 hw1) h56 (by rw [Nat.mul_one]) ?_
          refine ow_r rfl (dstOk_lt rfl) (ry_load1 rfl rfl ty3 (at_elV (fun w1 hw1 => rds_own (r := 6) rfl w1 hw1) h56)) ?_
          refine ow_batch [.p] rfl ?_
          obtain ⟨e57, h58, H⟩ := of_bind H
          refine ow_ixE (e := eVal (Value.int .i64) (fun _ => rfl)) (xs := e43) (j := p3) rfl rfl rfl rfl rfl sl53 ty3 rfl (fun w1 hw1 => rds_own (r := 6) rfl w1 hw1) h58 (by rw [Nat.mul_one]) ?_
          refine ow_storeV (i := 6) (j := p3) rfl rfl rfl rfl rfl rfl ty3 rfl h58 (fun _ => rfl) kp ?_
          refine ow_nil ?_
          refine x_qs ?_
          refine c_seq ?_
          refine c_reg ?_
          refine ow_batch [.fa 30 1 1 fa30_1] rfl ?_
          refine ow_r rfl (dstOk_lt rfl) (ry_box1 (off := 1) rfl rfl ty28 (boxIn (i := 4) rfl) rfl) ?_
          refine ow_batch [.p, .p] rfl ?_
          refine ow_r rfl (dstOk_lt rfl) (ry_build2 [(0, [.int .i64 p2]), (1, [.int .i64 p3])] [.int .i64 p2, .int .i64 p3] rfl rfl ty60 fs60 rfl ⟨rfl, rfl, Nat.le_of_ble_eq_true rfl, rfl, rfl, Nat.le_of_ble_eq_true rfl,  trivial⟩ rfl) ?_
          refine ow_blitF ([(Timpl_Pair.mk p2 p3)] : List Timpl_Pair) [(0, [.int .i64 p2, .int .i64 p3])] rfl rfl rfl rfl rfl sl28 ty60 rfl rfl rfl rfl ⟨rfl, rfl, Nat.le_of_ble_eq_true rfl,  trivial⟩ rfl (fun _ => kp) (fun b59 => (?_ : OW _ _ _ (St w M0 [Res.box b9 30 [.slice a5 p1.Table_.length c6, .slice a7 p1.Last_.length c8], Res.box b10 30 [.slice none 0 0, .slice none 0 0], Res.nil, Res.own (eList (eTimpl_Pair) 60) F23 y11.Last_ [.slice a20 y11.Last_.length c22], Res.box b24 30 [.slice a16 y11.Table_.length c18, .slice a20 y11.Last_.length c22], Res.hole (eList (eVal (Value.int .i64) (fun _ => rfl)) 3) 53 b46 c18 y11.Table_ p2.toNat G47 [.slice a52 e43.length c53], Res.own (eList (eVal (Value.int .i64) (fun _ => rfl)) 3) F48 (e43.set p3.toNat (IntKind.i64.wrap (e55 + 1))) [.slice a52 e43.length c53], Res.own (eList (eTimpl_Pair) 60) [b59] [(Timpl_Pair.mk p2 p3)] [.slice (some ⟨b59, 0, none⟩) ([(Timpl_Pair.mk p2 p3)] : List Timpl_Pair).length 1]]) _ _ _))
          obtain ⟨l60, h61, H⟩ := of_bind H
          refine ow_appF (r := 3) (ys := ([(Timpl_Pair.mk p2 p3)] : List Timpl_Pair)) rfl rfl rfl rfl rfl rfl sl28 ty60 rfl rfl rfl rfl rfl (fun w1 hw1 => rds_own (r := 7) rfl w1 hw1) h61 (fun _ _ _ => kp) (fun a62 c63 F64 => ?_)
          refine ow_fact rfl (fun w1 hw1 => own_nn (i := 3) hw1 rfl (app_ne h61)) (fun hz65 => ?_)
          refine ow_batch [.fa 30 1 1 fa30_1] rfl ?_
          refine ow_storeC (off := 1) [.slice a62 l60.length c63] [_, _] (i := 4) rfl rfl rfl rfl rfl rfl ty28 rfl rfl (by intro u hu; simp only [List.mem_cons, List.not_mem_nil, or_false] at hu; rcases hu with rfl <;> rfl) rfl rfl rfl kp ?_
          refine ow_nil ?_
          refine x_qs ?_
          refine c_seq ?_
          refine c_seq ?_
          refine c_reg ?_
          refine ow_batch [.fa 30 1 1 fa30_1] rfl ?_
          refine ow_r rfl (dstOk_lt rfl) (ry_box1 (off := 1) rfl rfl ty28 (boxIn (i := 4) rfl) rfl) ?_
          refine ow_batch [.lenS 28 60 sl28, .p] rfl ?_
          refine ow_nil ?_
          refine x_qs ?_
          refine c_if rfl (fun hb => ?_) (fun hb => ?_)
          · have H := of_if_t hb H
            refine c_reg ?_
            refine ow_batch [.fa 30 1 1 fa30_1] rfl ?_
            refine ow_r rfl (dstOk_lt rfl) (ry_box1 (off := 1) rfl rfl ty28 (boxIn (i := 4) rfl) rfl) ?_
            obtain ⟨y66, h67, H⟩ := of_bind H
            refine ow_callS rfl fn51 rfl rfl rfl rfl (fun w1 hw1 => lib_slices_Delete___impl_Pair_impl_Pair__ok w1  h67 (hw1.carve [3] rfl rfl)) (fun v68 w1 w2 hw1 hR70 => ?_)
            obtain ⟨a71, n72, c73, F74, rfl, hS69⟩ := hR70
            obtain rfl := own_nS (i := 0) hS69 rfl
            refine ⟨St w M0 [_, _, _, _, _, _, _, _, _], hw1.comp [3] rfl rfl hS69, fun _ _ => trivial, ?_⟩
            refine ow_batch [.fa 30 1 1 fa30_1] rfl ?_
            refine ow_storeC (off := 1) [.slice a71 y66.length c73] [_, _] (i := 4) rfl rfl rfl rfl rfl rfl ty28 rfl rfl (by intro u hu; simp only [List.mem_cons, List.not_mem_nil, or_false] at hu; rcases hu with rfl <;> rfl) rfl rfl rfl kp ?_
            refine ow_nil ?_
            refine x_qs ?_
            refine c_seq ?_
            refine CW.weak (C' := St w M0 [_, _, _, _, _, _, _]) ?_ (fun _ h => St.sel [0, 1, 4, 5, 6, 7, 8] rfl rfl h)
            refine c_reg ?_
            refine ow_r rfl (dstOk_lt rfl) (ry_box (off := 0) (ds := [.slice a16 y11.Table_.length c18, .slice a71 y66.length c73]) rfl rfl ty30 (boxIn (i := 2) rfl) rfl rfl) ?_
            refine ow_storeC (off := 0) [.slice a16 y11.Table_.length c18, .slice a71 y66.length c73] [_, _] (i := 1) rfl rfl rfl rfl rfl rfl ty30 rfl rfl (by intro u hu; simp only [List.mem_cons, List.not_mem_nil, or_false] at hu; rcases hu with rfl | rfl <;> rfl) rfl rfl rfl kp ?_
            refine ow_batch [.p] rfl ?_
            refine ow_nil ?_
            refine x_qs ?_
            refine c_ret ?_
            refine xw_ex (fun w1 hw1 => unf (p := 3) (q := 4) hw1 rfl rfl rfl hn51 ha50) (fun F75 => ?_)
            refine xw_st (C' := St w M0 [_, _, _, _, _, _, _, _]) (fun _ h => h) ?_
            exact x_retR (rs := [.cell 8 30, .tmp 9]) (vs := [.agg #[.slice a16 y11.Table_.length c18, .slice a71 y66.length c73], .bool true]) rfl ⟨⟨_, [.slice a16 y11.Table_.length c18, .slice a71 y66.length c73], _, _, _, rfl, ty30, (at_box (T := 30) 0 (boxIn (i := 1) rfl) rfl), rfl, rfl⟩, rfl, trivial⟩ (fun w' hw' => by
                obtain rfl := of_some H
                exact ⟨_, rfl, a16, y11.Table_.length, c18, F75, a71, y66.length, c73, F74, rfl, hw'.sel [7, 6] rfl rfl⟩)
          · have H := of_if_f hb H
            refine c_skip ?_
            refine x_qs ?_
            refine c_seq ?_
            refine c_reg ?_
            refine ow_r rfl (dstOk_lt rfl) (ry_box (off := 0) (ds := [.slice a16 y11.Table_.length c18, .slice a62 l60.length c63]) rfl rfl ty30 (boxIn (i := 4) rfl) rfl rfl) ?_
            refine ow_storeC (off := 0) [.slice a16 y11.Table_.length c18, .slice a62 l60.length c63] [_, _] (i := 1) rfl rfl rfl rfl rfl rfl ty30 rfl rfl (by intro u hu; simp only [List.mem_cons, List.not_mem_nil, or_false] at hu; rcases hu with rfl | rfl <;> rfl) rfl rfl rfl kp ?_
            refine ow_batch [.p] rfl ?_
            refine ow_nil ?_
            refine x_qs ?_
            refine c_ret ?_
            refine xw_ex (fun w1 hw1 => unf (p := 5) (q := 6) hw1 rfl rfl rfl hn51 ha50) (fun F76 => ?_)
            refine xw_st (C' := St w M0 [_, _, _, _, _, _, _, _, _]) (fun _ h => h) ?_
            exact x_retR (rs := [.cell 8 30, .tmp 9]) (vs := [.agg #[.slice a16 y11.Table_.length c18, .slice a62 l60.length c63], .bool true]) rfl ⟨⟨_, [.slice a16 y11.Table_.length c18, .slice a62 l60.length c63], _, _, _, rfl, ty30, (at_box (T := 30) 0 (boxIn (i := 1) rfl) rfl), rfl, rfl⟩, rfl, trivial⟩ (fun w' hw' => by
                obtain rfl := of_some H
                exact ⟨_, rfl, a16, y11.Table_.length, c18, F76, a62, l60.length, c63, F64, rfl, hw'.sel [8, 3] rfl rfl⟩)
      · clear H
        have H := hu42
        clear hu42
        generalize u33 = t41 at H ⊢
        cases t41
        · have H := of_if_f rfl H
          refine ow_batch [.fa 30 0 0 fa30_0] rfl ?_
          refine ow_r rfl (dstOk_lt rfl) (ry_box1 (off := 0) rfl rfl ty22 (boxIn (i := 0) rfl) rfl) ?_
          obtain ⟨y39, h40, H⟩ := of_bind H
          refine ow_q rfl rfl (dstOk_lt rfl) (qy_call rfl fn43 rfl (fun w1 hw1 => impl_tableSum_ok w1  h40 (rds_bor g3 w1 hw1))) (fun _ _ => trivial) ?_
          refine ow_batch [.p] rfl ?_
          refine ow_batch [.p] rfl ?_
          obtain rfl := of_some H
          exact OW.sub key ⟨rfl, rfl, rfl, rfl, rfl, trivial⟩
        · have H := of_if_t rfl H
          refine ow_batch [.p, .p, .p, .p, .p] rfl ?_
          obtain rfl := of_some H
          exact OW.sub key ⟨rfl, rfl, rfl, rfl, rfl, trivial⟩
    · clear H
      have H := hu37
      clear hu37
      generalize u27 = t36 at H ⊢
      cases t36
      · have H := of_if_f rfl H
        refine ow_batch [.p, .p, .p] rfl ?_
        obtain ⟨y34, h35, H⟩ := of_bind H
        refine ow_q rfl rfl (dstOk_lt rfl) (qy_call rfl fn47 rfl (fun w1 hw1 => impl_within_ok w1  h35)) (fun _ _ => trivial) ?_
        refine ow_batch [.p] rfl ?_
        refine ow_batch [.p] rfl ?_
        obtain rfl := of_some H
        exact OW.sub key ⟨rfl, rfl, rfl, rfl, rfl, rfl, trivial⟩
      · have H := of_if_t rfl H
        refine ow_batch [.p, .p, .p, .p, .p, .p] rfl ?_
        obtain rfl := of_some H
        exact OW.sub key ⟨rfl, rfl, rfl, rfl, rfl, rfl, trivial⟩
  · clear H
    have H := hu31
    clear hu31
    generalize (!y25) = t30 at H ⊢
    cases t30
    · have H := of_if_f rfl H
      refine ow_batch [.p, .p, .p] rfl ?_
      obtain ⟨y28, h29, H⟩ := of_bind H
      refine ow_q rfl rfl (dstOk_lt rfl) (qy_call rfl fn47 rfl (fun w1 hw1 => impl_within_ok w1  h29)) (fun _ _ => trivial) ?_
      refine ow_batch [.p] rfl ?_
      refine ow_batch [.p] rfl ?_
      obtain rfl := of_some H
      exact OW.sub key ⟨rfl, rfl, rfl, rfl, rfl, rfl, rfl, trivial⟩
    · have H := of_if_t rfl H
      refine ow_batch [.p, .p, .p, .p, .p, .p] rfl ?_
      obtain rfl := of_some H
      exact OW.sub key ⟨rfl, rfl, rfl, rfl, rfl, rfl, rfl, trivial⟩

set_option maxHeartbeats 4000000 in
set_option maxRecDepth 100000 in
theorem laws_markIntS_ok (w : World) {M0 : List Nat} {p0 : List Int} {p1 : Int} {a_0_0 : Option Addr} {n_0_0 c_0_0 : Nat} {F_0_0 : List Nat} {r : Int × (List Int)} (H : laws_markIntS p0 p1 = some r) (HS : St w M0 [Res.own (eList (eVal (Value.int .i64) (fun _ => rfl)) 3) F_0_0 p0 [.slice a_0_0 n_0_0 c_0_0]] w)  :
    Calls Try.prog 69 #[.slice a_0_0 n_0_0 c_0_0, .int .i64 p1] w (fun en w' => ∃ v, en = .returned v ∧ ∃ (F0 : List Nat), v = .int .i64 r.1 ∧ St w M0 [Res.own (eList (eVal (Value.int .i64) (fun _ => rfl)) 3) F0 r.2 [.slice a_0_0 n_0_0 c_0_0]] w') := by
  obtain rfl := own_nS (i := 0) HS rfl
  unfold laws_markIntS at H
  refine f_enter (vs := [.slice a_0_0 p0.length c_0_0, .int .i64 p1]) Try.func69 rfl Try.ntmps69 rfl (HS) ?_
  refine c_seq ?_
  refine c_reg ?_
  refine ow_batch [.p] rfl ?_
  refine ow_nil ?_
  refine x_qs ?_
  refine c_seq ?_
  refine c_seq ?_
  refine c_reg ?_
  refine ow_batch [.p] rfl ?_
  refine ow_nil ?_
  refine x_qs ?_
  refine c_block ?_
  refine CW.at (loopI3 (fun (l6 : List Int) (i7 : Int) (i9 : Int) => St w M0 [Res.own (eList (eVal (Value.int .i64) (fun _ => rfl)) 3) F_0_0 l6 [.slice a_0_0 p0.length c_0_0]]) (fun (l6 : List Int) (i7 : Int) (i9 : Int) => [(0, .slice a_0_0 p0.length c_0_0), (1, .int .i64 i7), (5, .int .i64 i9)]) (fun kk => fun (l6 : List Int) (i7 : Int) (i9 : Int) => laws_markIntS_L1 p0 kk l6 i7 i9 = some r) (fun _ _ _ H => ?_) (fun k1 ihk1 l6 i7 i9 H => ?_) Fuel (p0) (p1) (0) (H)) (fun _ h => St.sel [0] rfl rfl h) ⟨rfl, rfl, rfl,  trivial⟩
  · unfold laws_markIntS_L1 at H
    exact absurd H (by simp)
  · unfold laws_markIntS_L1 at H
    refine c_seq ?_
    refine c_seq ?_
    refine c_reg ?_
    refine ow_batch [.p, .p, .lenS 53 3 sl53, .p] rfl ?_
    refine ow_nil ?_
    refine x_qs ?_
    refine c_if rfl (fun hb => ?_) (fun hb => ?_)
    · have H := of_if_t hb H
      refine c_skip ?_
      refine x_qs ?_
      refine c_seq ?_
      refine c_block ?_
      refine c_seq ?_
      refine c_reg ?_
      refine ow_batch [.p, .p, .p] rfl ?_
      obtain ⟨e15, h16, H⟩ := of_bind H
      refine ow_ixE (e := eVal (Value.int .i64) (fun _ => rfl)) (xs := l6) (j := i9) rfl rfl rfl rfl rfl sl53 ty3 rfl (fun w1 hw1 => rds_own (r := 0) rfl w1 hw1) h16 (by rw [Nat.mul_one]) ?_
      refine ow_storeV (i := 0) (j := i9) rfl rfl rfl rfl rfl rfl ty3 rfl h16 (fun _ => rfl) kp ?_
      refine ow_nil ?_
      refine x_qs ?_
      refine c_reg ?_
      refine ow_batch [.p, .p, .p] rfl ?_
      refine ow_nil ?_
      refine x_qb ?_
      refine x_qs ?_
      refine c_reg ?_
      refine ow_batch [.p, .p, .p] rfl ?_
      refine ow_nil ?_
      exact x_ql (RW.at (ihk1 ((l6.set i9.toNat i7)) (IntKind.i64.wrap (i7 + 1)) (IntKind.i64.wrap (i9 + 1)) (H)) (fun _ h => St.sel [0] rfl rfl h) ⟨rfl, rfl, rfl, trivial⟩)
    · have H := of_if_f hb H
      refine c_exit ?_
      refine x_qs_exit ?_
      refine x_ql_exit ?_
      refine x_qb_here ?_
      refine x_qs ?_
      refine c_seq ?_
      refine c_reg ?_
      refine ow_batch [.p, .p] rfl ?_
      refine ow_nil ?_
      refine x_qs ?_
      refine c_ret ?_
      exact x_retR (rs := [.tmp 4]) (vs := [.int .i64 i7]) rfl ⟨rfl, trivial⟩ (fun w' hw' => by
          obtain rfl := of_some H
          exact ⟨_, rfl, F_0_0, rfl, hw'.sel [0] rfl rfl⟩)

set_option maxHeartbeats 4000000 in
set_option maxRecDepth 100000 in
theorem laws_markIntSS_ok (w : World) {M0 : List Nat} {p0 : List (List Int)} {p1 : Int} {a_0_0 : Option Addr} {n_0_0 c_0_0 : Nat} {F_0_0 : List Nat} {r : Int × (List (List Int))} (H : laws_markIntSS p0 p1 = some r) (HS : St w M0 [Res.own (eList (eList (eVal (Value.int .i64) (fun _ => rfl)) 3) 53) F_0_0 p0 [.slice a_0_0 n_0_0 c_0_0]] w)  :
    Calls Try.prog 52 #[.slice a_0_0 n_0_0 c_0_0, .int .i64 p1] w (fun en w' => ∃ v, en = .returned v ∧ ∃ (F0 : List Nat), v = .int .i64 r.1 ∧ St w M0 [Res.own (eList (eList (eVal (Value.int .i64) (fun _ => rfl)) 3) 53) F0 r.2 [.slice a_0_0 n_0_0 c_0_0]] w') := by
  obtain rfl := own_nS (i := 0) HS rfl
  unfold laws_markIntSS at H
  refine f_enter (vs := [.slice a_0_0 p0.length c_0_0, .int .i64 p1]) Try.func52 rfl Try.ntmps52 rfl (HS) ?_
  refine c_seq ?_
  refine c_reg ?_
  refine ow_batch [.p] rfl ?_
  refine ow_nil ?_
  refine x_qs ?_
  refine c_seq ?_
  refine c_seq ?_
  refine c_reg ?_
  refine ow_batch [.p] rfl ?_
  refine ow_nil ?_
  refine x_qs ?_
  refine c_block ?_
  refine CW.at (loopI4 (fun (l24 : List (List Int)) (F25 : List Nat) (i26 : Int) (i27 : Int) => St w M0 [Res.own (eList (eList (eVal (Value.int .i64) (fun _ => rfl)) 3) 53) F25 l24 [.slice a_0_0 p0.length c_0_0]]) (fun (l24 : List (List Int)) (F25 : List Nat) (i26 : Int) (i27 : Int) => [(0, .slice a_0_0 p0.length c_0_0), (1, .int .i64 i26), (5, .int .i64 i27)]) (fun kk => fun (l24 : List (List Int)) (F25 : List Nat) (i26 : Int) (i27 : Int) => laws_markIntSS_L1 p0 kk l24 i26 i27 = some r) (fun _ _ _ _ H => ?_) (fun k1 ihk1 l24 F25 i26 i27 H => ?_) Fuel (p0) (F_0_0) (p1) (0) (H)) (fun _ h => St.sel [0] rfl rfl h) ⟨rfl, rfl, rfl,  trivial⟩
  · unfold laws_markIntSS_L1 at H
    exact absurd H (by simp)
  · unfold laws_markIntSS_L1 at H
    refine c_seq ?_
    refine c_seq ?_
    refine c_reg ?_
    refine ow_batch [.p, .p, .lenS 22 53 sl22, .p] rfl ?_
    refine ow_nil ?_
    refine x_qs ?_
    refine c_if rfl (fun hb => ?_) (fun hb => ?_)
    · have H := of_if_t hb H
      refine c_skip ?_
      refine x_qs ?_
      refine c_seq ?_
      refine c_block ?_
      refine c_reg ?_
      refine ow_batch [.p, .p] rfl ?_
      obtain ⟨e51, h52, H⟩ := of_bind H
      refine ow_ex4 rfl (fun w1 hw1 => foc (r := 0) hw1 rfl h52) (fun b54 G55 F56 c57 => ?_)
      refine ow_fact rfl (fun w1 hw1 => hw1.1) (fun q53 => ?_)
      obtain ⟨ha58, hn59⟩ := q53
      refine ow_st (C' := St w M0 [_, _, _]) rfl (fun w1 hw1 => hw1.2) ?_
      refine ow_ex2 rfl (fun w1 hw1 => opn_sl (i := 2) hw1 rfl) (fun a60 c61 => ?_)
      refine ow_fact rfl (fun w1 hw1 => hw1.1) (fun q62 => ?_)
      subst q62
      refine ow_st (C' := St w M0 [_, _, _]) rfl (fun w1 hw1 => hw1.2) ?_
      refine ow_ixH rfl rfl rfl rfl rfl sl22 ty53 rfl (holeIn (p := 1) rfl) hn59 ha58 (idx_some h52).1 ?_
      refine ow_r rfl (dstOk_lt rfl) (ry_hole1 1 0 rfl rfl rfl ty53 (by first | rfl | simp only [add_lit, add_add, add_zero]) rfl) ?_
      refine ow_batch [.p] rfl ?_
      obtain ⟨y63, h64, H⟩ := of_bind H
      refine ow_callS rfl fn69 rfl rfl rfl rfl (fun w1 hw1 => laws_markIntS_ok w1  h64 (hw1.carve [2] rfl rfl)) (fun v65 w1 w2 hw1 hR67 => ?_)
      obtain ⟨F68, rfl, hS66⟩ := hR67
      refine ⟨St w M0 [_, _, _, _], hw1.comp [2] rfl rfl hS66, fun _ _ => trivial, ?_⟩
      refine ow_batch [.p] rfl ?_
      refine ow_nil ?_
      refine x_qb ?_
      refine x_qs ?_
      refine CW.weak (C' := St w M0 [_, _]) ?_ (fun _ h => St.sel [1, 3] rfl rfl h)
      refine c_reg ?_
      refine ow_batch [.p, .p, .p] rfl ?_
      refine ow_nil ?_
      refine xw_ex (fun w1 hw1 => unf (p := 0) (q := 1) hw1 rfl rfl rfl hn59 ha58) (fun F69 => ?_)
      refine xw_st (C' := St w M0 [_, _, _]) (fun _ h => h) ?_
      exact x_ql (RW.at (ihk1 ((l24.set i27.toNat y63.2)) (F69) (y63.1) (IntKind.i64.wrap (i27 + 1)) (H)) (fun _ h => St.sel [2] rfl rfl h) ⟨rfl, rfl, rfl, trivial⟩)
    · have H := of_if_f hb H
      refine c_exit ?_
      refine x_qs_exit ?_
      refine x_ql_exit ?_
      refine x_qb_here ?_
      refine x_qs ?_
      refine c_seq ?_
      refine c_reg ?_
      refine ow_batch [.p, .p] rfl ?_
      refine ow_nil ?_
      refine x_qs ?_
      refine c_ret ?_
      exact x_retR (rs := [.tmp 4]) (vs := [.int .i64 i26]) rfl ⟨rfl, trivial⟩ (fun w' hw' => by
          obtain rfl := of_some H
          exact ⟨_, rfl, F25, rfl, hw'.sel [0] rfl rfl⟩)

set_option maxHeartbeats 4000000 in
set_option maxRecDepth 100000 in
theorem laws_markPairS_ok (w : World) {M0 : List Nat} {p0 : List Timpl_Pair} {p1 : Int} {a_0_0 : Option Addr} {n_0_0 c_0_0 : Nat} {F_0_0 : List Nat} {r : Int × (List Timpl_Pair)} (H : laws_markPairS p0 p1 = some r) (HS : St w M0 [Res.own (eList (eTimpl_Pair) 60) F_0_0 p0 [.slice a_0_0 n_0_0 c_0_0]] w)  :
    Calls Try.prog 53 #[.slice a_0_0 n_0_0 c_0_0, .int .i64 p1] w (fun en w' => ∃ v, en = .returned v ∧ ∃ (F0 : List Nat), v = .int .i64 r.1 ∧ St w M0 [Res.own (eList (eTimpl_Pair) 60) F0 r.2 [.slice a_0_0 n_0_0 c_0_0]] w') := by
  obtain rfl := own_nS (i := 0) HS rfl
  unfold laws_markPairS at H
  refine f_enter (vs := [.slice a_0_0 p0.length c_0_0, .int .i64 p1]) Try.func53 rfl Try.ntmps53 rfl (HS) ?_
  refine c_seq ?_
  refine c_reg ?_
  refine ow_batch [.p] rfl ?_
  refine ow_nil ?_
  refine x_qs ?_
  refine c_seq ?_
  refine c_seq ?_
  refine c_reg ?_
  refine ow_batch [.p] rfl ?_
  refine ow_nil ?_
  refine x_qs ?_
  refine c_block ?_
  refine CW.at (loopI4 (fun (l15 : List Timpl_Pair) (F16 : List Nat) (i17 : Int) (i18 : Int) => St w M0 [Res.own (eList (eTimpl_Pair) 60) F16 l15 [.slice a_0_0 p0.length c_0_0]]) (fun (l15 : List Timpl_Pair) (F16 : List Nat) (i17 : Int) (i18 : Int) => [(0, .slice a_0_0 p0.length c_0_0), (1, .int .i64 i17), (5, .int .i64 i18)]) (fun kk => fun (l15 : List Timpl_Pair) (F16 : List Nat) (i17 : Int) (i18 : Int) => laws_markPairS_L1 p0 kk l15 i17 i18 = some r) (fun _ _ _ _ H => ?_) (fun k1 ihk1 l15 F16 i17 i18 H => ?_) Fuel (p0) (F_0_0) (p1) (0) (H)) (fun _ h => St.sel [0] rfl rfl h) ⟨rfl, rfl, rfl,  trivial⟩
  · unfold laws_markPairS_L1 at H
    exact absurd H (by simp)
  · unfold laws_markPairS_L1 at H
    refine c_seq ?_
    refine c_seq ?_
    refine c_reg ?_
    refine ow_batch [.p, .p, .lenS 28 60 sl28, .p] rfl ?_
    refine ow_nil ?_
    refine x_qs ?_
    refine c_if rfl (fun hb => ?_) (fun hb => ?_)
    · have H := of_if_t hb H
      refine c_skip ?_
      refine x_qs ?_
      refine c_seq ?_
      refine c_block ?_
      refine c_seq ?_
      refine c_reg ?_
      refine ow_batch [.p, .p, .p] rfl ?_
      obtain ⟨e34, h35, H⟩ := of_bind H
      refine ow_ex4 rfl (fun w1 hw1 => foc (r := 0) hw1 rfl h35) (fun b37 G38 F39 c40 => ?_)
      refine ow_fact rfl (fun w1 hw1 => hw1.1) (fun q36 => ?_)
      obtain ⟨ha41, hn42⟩ := q36
      refine ow_st (C' := St w M0 [_, _, _]) rfl (fun w1 hw1 => hw1.2) ?_
      refine ow_fact rfl (fun w1 hw1 => opn_flat (i := 2) hw1 rfl) (fun q36 => ?_)
      obtain ⟨rfl, rfl⟩ := q36
      refine ow_st (C' := St w M0 [_, _]) rfl (fun w1 hw1 => St.mask [true, true] rfl hw1) ?_
      refine ow_ixH rfl rfl rfl rfl rfl sl28 ty60 rfl (holeIn (p := 1) rfl) hn42 ha41 (idx_some h35).1 ?_
      refine ow_batch [.fa 60 0 0 fa60_0] rfl ?_
      refine ow_storeH (off := 0) [.int .i64 i17] (p := 1) (c' := [_, _]) rfl rfl rfl rfl rfl (by first | rfl | simp only [add_lit, add_add, add_zero]) rfl ty3 rfl rfl (by intro u hu; simp only [List.mem_cons, List.not_mem_nil, or_false] at hu; rcases hu with rfl <;> rfl) rfl rfl rfl kp ?_
      refine ow_nil ?_
      refine x_qs ?_
      refine c_seq ?_
      refine c_reg ?_
      refine ow_batch [.p, .p, .p] rfl ?_
      refine ow_nil ?_
      refine x_qs ?_
      refine c_seq ?_
      refine c_reg ?_
      refine ow_batch [.p, .p, .p] rfl ?_
      refine ow_ixH rfl rfl rfl rfl rfl sl28 ty60 rfl (holeIn (p := 1) rfl) hn42 ha41 (idx_some h35).1 ?_
      refine ow_batch [.fa 60 1 1 fa60_1] rfl ?_
      refine ow_storeH (off := 1) [.int .i64 (IntKind.i64.wrap (i17 + 1))] (p := 1) (c' := [_, _]) rfl rfl rfl rfl rfl (by first | rfl | simp only [add_lit, add_add, add_zero]) rfl ty3 rfl rfl (by intro u hu; simp only [List.mem_cons, List.not_mem_nil, or_false] at hu; rcases hu with rfl <;> rfl) rfl rfl rfl kp ?_
      refine ow_nil ?_
      refine x_qs ?_
      refine c_reg ?_
      refine ow_batch [.p, .p, .p] rfl ?_
      refine ow_nil ?_
      refine x_qb ?_
      refine x_qs ?_
      refine c_reg ?_
      refine ow_batch [.p, .p, .p] rfl ?_
      refine ow_nil ?_
      refine xw_st (fun _ h => St.push0 h (Res.own (eTimpl_Pair) [] (Timpl_Pair.mk i17 (IntKind.i64.wrap (i17 + 1))) [.int .i64 i17, .int .i64 (IntKind.i64.wrap (i17 + 1))]) rfl ⟨rfl, rfl⟩) ?_
      refine xw_ex (fun w1 hw1 => unf (p := 1) (q := 2) hw1 rfl rfl rfl hn42 ha41) (fun F43 => ?_)
      refine xw_st (C' := St w M0 [_, _, _, _]) (fun _ h => h) ?_
      exact x_ql (RW.at (ihk1 ((l15.set i18.toNat (Timpl_Pair.mk i17 (IntKind.i64.wrap (i17 + 1))))) (F43) (IntKind.i64.wrap ((IntKind.i64.wrap (i17 + 1)) + 1)) (IntKind.i64.wrap (i18 + 1)) (H)) (fun _ h => St.sel [3] rfl rfl h) ⟨rfl, rfl, rfl, trivial⟩)
    · have H := of_if_f hb H
      refine c_exit ?_
      refine x_qs_exit ?_
      refine x_ql_exit ?_
      refine x_qb_here ?_
      refine x_qs ?_
      refine c_seq ?_
      refine c_reg ?_
      refine ow_batch [.p, .p] rfl ?_
      refine ow_nil ?_
      refine x_qs ?_
      refine c_ret ?_
      exact x_retR (rs := [.tmp 4]) (vs := [.int .i64 i17]) rfl ⟨rfl, trivial⟩ (fun w' hw' => by
          obtain rfl := of_some H
          exact ⟨_, rfl, F16, rfl, hw'.sel [0] rfl rfl⟩)

set_option maxHeartbeats 4000000 in
set_option maxRecDepth 100000 in
theorem laws_markScore_ok (w : World) {M0 : List Nat} {p0 : Timpl_Score} {p1 : Int} {a_0_0 : Option Addr} {n_0_0 c_0_0 : Nat} {F_0_0 : List Nat} {a_0_1 : Option Addr} {n_0_1 c_0_1 : Nat} {F_0_1 : List Nat} {r : Int × Timpl_Score} (H : laws_markScore p0 p1 = some r) (HS : St w M0 [Res.own (eList (eList (eVal (Value.int .i64) (fun _ => rfl)) 3) 53) F_0_0 p0.Table_ [.slice a_0_0 n_0_0 c_0_0], Res.own (eList (eTimpl_Pair) 60) F_0_1 p0.Last_ [.slice a_0_1 n_0_1 c_0_1]] w)  :
    Calls Try.prog 29 #[.agg #[.slice a_0_0 n_0_0 c_0_0, .slice a_0_1 n_0_1 c_0_1], .int .i64 p1] w (fun en w' => ∃ v, en = .returned v ∧ ∃ (F0 : List Nat), ∃ (F1 : List Nat), v = .int .i64 r.1 ∧ St w M0 [Res.own (eList (eList (eVal (Value.int .i64) (fun _ => rfl)) 3) 53) F0 r.2.Table_ [.slice a_0_0 n_0_0 c_0_0], Res.own (eList (eTimpl_Pair) 60) F1 r.2.Last_ [.slice a_0_1 n_0_1 c_0_1]] w') := by
  obtain rfl := own_nS (i := 0) HS rfl
  obtain rfl := own_nS (i := 1) HS rfl
  unfold laws_markScore at H
  refine f_enter (vs := [.agg #[.slice a_0_0 p0.Table_.length c_0_0, .slice a_0_1 p0.Last_.length c_0_1], .int .i64 p1]) Try.func29 rfl Try.ntmps29 rfl (HS) ?_
  refine c_seq ?_
  refine c_reg ?_
  refine ow_box (cs := [.slice a_0_0 p0.Table_.length c_0_0, .slice a_0_1 p0.Last_.length c_0_1]) rfl rfl rfl rfl rfl rfl (fun _ => kp) (fun b1 => ?_)
  refine ow_batch [.p] rfl ?_
  refine ow_nil ?_
  refine x_qs ?_
  refine c_seq ?_
  refine c_reg ?_
  refine ow_batch [.fa 30 0 0 fa30_0] rfl ?_
  refine ow_r rfl (dstOk_lt rfl) (ry_box1 (off := 0) rfl rfl ty22 (boxIn (i := 2) rfl) rfl) ?_
  refine ow_batch [.p] rfl ?_
  obtain ⟨y2, h3, H⟩ := of_bind H
  refine ow_callS rfl fn52 rfl rfl rfl rfl (fun w1 hw1 => laws_markIntSS_ok w1  h3 (hw1.carve [0] rfl rfl)) (fun v4 w1 w2 hw1 hR6 => ?_)
  obtain ⟨F7, rfl, hS5⟩ := hR6
  refine ⟨St w M0 [_, _, _, _], hw1.comp [0] rfl rfl hS5, fun _ _ => trivial, ?_⟩
  refine ow_batch [.p] rfl ?_
  refine ow_nil ?_
  refine x_qs ?_
  refine c_seq ?_
  refine c_reg ?_
  refine ow_batch [.fa 30 1 1 fa30_1] rfl ?_
  refine ow_r rfl (dstOk_lt rfl) (ry_box1 (off := 1) rfl rfl ty28 (boxIn (i := 2) rfl) rfl) ?_
  refine ow_batch [.p] rfl ?_
  obtain ⟨y8, h9, H⟩ := of_bind H
  refine ow_callS rfl fn53 rfl rfl rfl rfl (fun w1 hw1 => laws_markPairS_ok w1  h9 (hw1.carve [1] rfl rfl)) (fun v10 w1 w2 hw1 hR12 => ?_)
  obtain ⟨F13, rfl, hS11⟩ := hR12
  refine ⟨St w M0 [_, _, _, _, _], hw1.comp [1] rfl rfl hS11, fun _ _ => trivial, ?_⟩
  refine ow_batch [.p] rfl ?_
  refine ow_nil ?_
  refine x_qs ?_
  refine c_seq ?_
  refine CW.weak (C' := St w M0 [_, _, _]) ?_ (fun _ h => St.sel [2, 3, 4] rfl rfl h)
  refine c_reg ?_
  refine ow_batch [.p, .p] rfl ?_
  refine ow_nil ?_
  refine x_qs ?_
  refine c_ret ?_
  exact x_retR (rs := [.tmp 4]) (vs := [.int .i64 y8.1]) rfl ⟨rfl, trivial⟩ (fun w' hw' => by
      obtain rfl := of_some H
      exact ⟨_, rfl, F7, F13, rfl, hw'.sel [1, 2] rfl rfl⟩)

set_option maxHeartbeats 4000000 in
set_option maxRecDepth 100000 in
theorem laws_heldIntS_ok (w : World) {p0 : List Int} {p1 : Int} {a_0 : Option Addr} {n_0 c_0 : Nat} {r : Int} (H : laws_heldIntS p0 p1 = some r)  (g0 : (eList (eVal (Value.int .i64) (fun _ => rfl)) 3).rd w [] p0 [.slice a_0 n_0 c_0]) :
    Calls Try.prog 70 #[.slice a_0 n_0 c_0, .int .i64 p1] w (fun en w' => en = .returned (.int .i64 r) ∧ Ext [] w w') := by
  obtain rfl := rd_n g0
  unfold laws_heldIntS at H
  refine f_enter (vs := [.slice a_0 p0.length c_0, .int .i64 p1]) Try.func70 rfl Try.ntmps70 rfl (St.init w []) ?_
  refine c_seq ?_
  refine c_reg ?_
  refine ow_batch [.p] rfl ?_
  refine ow_nil ?_
  refine x_qs ?_
  refine c_seq ?_
  refine c_seq ?_
  refine c_reg ?_
  refine ow_batch [.p] rfl ?_
  refine ow_nil ?_
  refine x_qs ?_
  refine c_block ?_
  refine CW.at (loopI2 (fun (i5 : Int) (i6 : Int) => St w [] []) (fun (i5 : Int) (i6 : Int) => [(0, .slice a_0 p0.length c_0), (1, .int .i64 i5), (5, .int .i64 i6)]) (fun kk => fun (i5 : Int) (i6 : Int) => laws_heldIntS_L1 p0 kk i5 i6 = some r) (fun _ _ H => ?_) (fun k1 ihk1 i5 i6 H => ?_) Fuel (p1) (0) (H)) (fun _ h => St.sel [] rfl rfl h) ⟨rfl, rfl, rfl,  trivial⟩
  · unfold laws_heldIntS_L1 at H
    exact absurd H (by simp)
  · unfold laws_heldIntS_L1 at H
    refine c_seq ?_
    refine c_seq ?_
    refine c_reg ?_
    refine ow_batch [.p, .p, .lenS 53 3 sl53, .p] rfl ?_
    refine ow_nil ?_
    refine x_qs ?_
    refine c_if rfl (fun hb => ?_) (fun hb => ?_)
    · have H := of_if_t hb H
      refine c_skip ?_
      refine x_qs ?_
      refine c_seq ?_
      refine c_block ?_
      refine c_seq ?_
      refine c_seq ?_
      refine c_reg ?_
      refine ow_batch [.p, .p] rfl ?_
      obtain ⟨e11, h12, H⟩ := of_bind H
      refine ow_ixE (e := eVal (Value.int .i64) (fun _ => rfl)) (xs := p0) (j := i6) rfl rfl rfl rfl rfl sl53 ty3 rfl (fun w1 hw1 => rds_bor g0 w1 hw1) h12 (by rw [Nat.mul_one]) ?_
      refine ow_r rfl (dstOk_lt rfl) (ry_load1 rfl rfl ty3 (at_elV (fun w1 hw1 => rds_bor g0 w1 hw1) h12)) ?_
      refine ow_batch [.p, .p] rfl ?_
      refine ow_nil ?_
      refine x_qs ?_
      refine c_if rfl (fun hb => ?_) (fun hb => ?_)
      · have H := of_if_t hb H
        refine c_seq ?_
        refine c_reg ?_
        refine ow_batch [.p] rfl ?_
        refine ow_nil ?_
        refine x_qs ?_
        refine c_ret ?_
        refine x_qs_ret ?_
        refine x_qb_ret ?_
        refine x_qs_ret ?_
        refine x_ql_ret ?_
        refine x_qb_ret ?_
        refine x_qs_ret ?_
        exact x_retR (rs := [.tmp 4]) (vs := [.int .i64 (-1)]) rfl ⟨rfl, trivial⟩ (fun w' hw' => by
            obtain rfl := of_some H
            exact ⟨rfl, hw'.ext⟩)
      · have H := of_if_f hb H
        refine c_skip ?_
        refine x_qs ?_
        refine c_reg ?_
        refine ow_batch [.p, .p, .p] rfl ?_
        refine ow_nil ?_
        refine x_qb ?_
        refine x_qs ?_
        refine c_reg ?_
        refine ow_batch [.p, .p, .p] rfl ?_
        refine ow_nil ?_
        exact x_ql (RW.at (ihk1 (IntKind.i64.wrap (i5 + 1)) (IntKind.i64.wrap (i6 + 1)) (H)) (fun _ h => St.sel [] rfl rfl h) ⟨rfl, rfl, rfl, trivial⟩)
    · have H := of_if_f hb H
      refine c_exit ?_
      refine x_qs_exit ?_
      refine x_ql_exit ?_
      refine x_qb_here ?_
      refine x_qs ?_
      refine c_seq ?_
      refine c_reg ?_
      refine ow_batch [.p, .p] rfl ?_
      refine ow_nil ?_
      refine x_qs ?_
      refine c_ret ?_
      exact x_retR (rs := [.tmp 4]) (vs := [.int .i64 i5]) rfl ⟨rfl, trivial⟩ (fun w' hw' => by
          obtain rfl := of_some H
          exact ⟨rfl, hw'.ext⟩)

set_option maxHeartbeats 4000000 in
set_option maxRecDepth 100000 in
theorem laws_heldIntSS_ok (w : World) {p0 : List (List Int)} {p1 : Int} {a_0 : Option Addr} {n_0 c_0 : Nat} {r : Int} (H : laws_heldIntSS p0 p1 = some r)  (g0 : (eList (eList (eVal (Value.int .i64) (fun _ => rfl)) 3) 53).rd w [] p0 [.slice a_0 n_0 c_0]) :
    Calls Try.prog 54 #[.slice a_0 n_0 c_0, .int .i64 p1] w (fun en w' => en = .returned (.int .i64 r) ∧ Ext [] w w') := by
  obtain rfl := rd_n g0
  unfold laws_heldIntSS at H
  refine f_enter (vs := [.slice a_0 p0.length c_0, .int .i64 p1]) Try.func54 rfl Try.ntmps54 rfl (St.init w []) ?_
  refine c_seq ?_
  refine c_reg ?_
  refine ow_batch [.p] rfl ?_
  refine ow_nil ?_
  refine x_qs ?_
  refine c_seq ?_
  refine c_seq ?_
  refine c_reg ?_
  refine ow_batch [.p] rfl ?_
  refine ow_nil ?_
  refine x_qs ?_
  refine c_block ?_
  refine CW.at (loopI2 (fun (i13 : Int) (i14 : Int) => St w [] []) (fun (i13 : Int) (i14 : Int) => [(0, .slice a_0 p0.length c_0), (1, .int .i64 i13), (5, .int .i64 i14)]) (fun kk => fun (i13 : Int) (i14 : Int) => laws_heldIntSS_L1 p0 kk i13 i14 = some r) (fun _ _ H => ?_) (fun k1 ihk1 i13 i14 H => ?_) Fuel (p1) (0) (H)) (fun _ h => St.sel [] rfl rfl h) ⟨rfl, rfl, rfl,  trivial⟩
  · unfold laws_heldIntSS_L1 at H
    exact absurd H (by simp)
  · unfold laws_heldIntSS_L1 at H
    refine c_seq ?_
    refine c_seq ?_
    refine c_reg ?_
    refine ow_batch [.p, .p, .lenS 22 53 sl22, .p] rfl ?_
    refine ow_nil ?_
    refine x_qs ?_
    refine c_if rfl (fun hb => ?_) (fun hb => ?_)
    · have H := of_if_t hb H
      refine c_skip ?_
      refine x_qs ?_
      refine c_seq ?_
      refine c_block ?_
      refine c_seq ?_
      refine c_reg ?_
      refine ow_batch [.p, .p] rfl ?_
      obtain ⟨e27, h28, H⟩ := of_bind H
      refine ow_ixB rfl rfl rfl rfl rfl sl22 ty53 rfl g0 h28 (fun q31 c32 hd29 hA30 => ?_)
      obtain ⟨a33, c34, rfl⟩ := rd_sl1 hd29
      refine ow_r rfl (dstOk_lt rfl) (ry_load1 rfl rfl ty53 (at_bor bor hA30)) ?_
      refine ow_batch [.p] rfl ?_
      obtain ⟨y35, h36, H⟩ := of_bind H
      refine ow_q rfl rfl (dstOk_lt rfl) (qy_call rfl fn70 rfl (fun w1 hw1 => laws_heldIntS_ok w1  h36 (rds_bor hd29 w1 hw1))) (fun _ _ => trivial) ?_
      refine ow_batch [.p] rfl ?_
      refine ow_nil ?_
      refine x_qs ?_
      refine c_seq ?_
      refine c_reg ?_
      refine ow_batch [.p, .p] rfl ?_
      refine ow_nil ?_
      refine x_qs ?_
      refine c_if rfl (fun hb => ?_) (fun hb => ?_)
      · have H := of_if_t hb H
        refine c_seq ?_
        refine c_reg ?_
        refine ow_batch [.p] rfl ?_
        refine ow_nil ?_
        refine x_qs ?_
        refine c_ret ?_
        refine x_qb_ret ?_
        refine x_qs_ret ?_
        refine x_ql_ret ?_
        refine x_qb_ret ?_
        refine x_qs_ret ?_
        exact x_retR (rs := [.tmp 4]) (vs := [.int .i64 (-1)]) rfl ⟨rfl, trivial⟩ (fun w' hw' => by
            obtain rfl := of_some H
            exact ⟨rfl, hw'.ext⟩)
      · have H := of_if_f hb H
        refine c_skip ?_
        refine x_qb ?_
        refine x_qs ?_
        refine c_reg ?_
        refine ow_batch [.p, .p, .p] rfl ?_
        refine ow_nil ?_
        exact x_ql (RW.at (ihk1 (y35) (IntKind.i64.wrap (i14 + 1)) (H)) (fun _ h => St.sel [] rfl rfl h) ⟨rfl, rfl, rfl, trivial⟩)
    · have H := of_if_f hb H
      refine c_exit ?_
      refine x_qs_exit ?_
      refine x_ql_exit ?_
      refine x_qb_here ?_
      refine x_qs ?_
      refine c_seq ?_
      refine c_reg ?_
      refine ow_batch [.p, .p] rfl ?_
      refine ow_nil ?_
      refine x_qs ?_
      refine c_ret ?_
      exact x_retR (rs := [.tmp 4]) (vs := [.int .i64 i13]) rfl ⟨rfl, trivial⟩ (fun w' hw' => by
          obtain rfl := of_some H
          exact ⟨rfl, hw'.ext⟩)

set_option maxHeartbeats 4000000 in
set_option maxRecDepth 100000 in
theorem laws_heldPairS_ok (w : World) {p0 : List Timpl_Pair} {p1 : Int} {a_0 : Option Addr} {n_0 c_0 : Nat} {r : Int} (H : laws_heldPairS p0 p1 = some r)  (g0 : (eList (eTimpl_Pair) 60).rd w [] p0 [.slice a_0 n_0 c_0]) :
    Calls Try.prog 55 #[.slice a_0 n_0 c_0, .int .i64 p1] w (fun en w' => en = .returned (.int .i64 r) ∧ Ext [] w w') := by
  obtain rfl := rd_n g0
  unfold laws_heldPairS at H
  refine f_enter (vs := [.slice a_0 p0.length c_0, .int .i64 p1]) Try.func55 rfl Try.ntmps55 rfl (St.init w []) ?_
  refine c_seq ?_
  refine c_reg ?_
  refine ow_batch [.p] rfl ?_
  refine ow_nil ?_
  refine x_qs ?_
  refine c_seq ?_
  refine c_seq ?_
  refine c_reg ?_
  refine ow_batch [.p] rfl ?_
  refine ow_nil ?_
  refine x_qs ?_
  refine c_block ?_
  refine CW.at (loopI2 (fun (i7 : Int) (i9 : Int) => St w [] []) (fun (i7 : Int) (i9 : Int) => [(0, .slice a_0 p0.length c_0), (1, .int .i64 i7), (5, .int .i64 i9)]) (fun kk => fun (i7 : Int) (i9 : Int) => laws_heldPairS_L1 p0 kk i7 i9 = some r) (fun _ _ H => ?_) (fun k1 ihk1 i7 i9 H => ?_) Fuel (p1) (0) (H)) (fun _ h => St.sel [] rfl rfl h) ⟨rfl, rfl, rfl,  trivial⟩
  · unfold laws_heldPairS_L1 at H
    exact absurd H (by simp)
  · unfold laws_heldPairS_L1 at H
    refine c_seq ?_
    refine c_seq ?_
    refine c_reg ?_
    refine ow_batch [.p, .p, .lenS 28 60 sl28, .p] rfl ?_
    refine ow_nil ?_
    refine x_qs ?_
    refine c_if rfl (fun hb => ?_) (fun hb => ?_)
    · have H := of_if_t hb H
      refine c_skip ?_
      refine x_qs ?_
      refine c_seq ?_
      refine c_block ?_
      refine c_seq ?_
      refine c_seq ?_
      refine c_reg ?_
      refine ow_batch [.p, .p] rfl ?_
      obtain ⟨e16, h17, H⟩ := of_bind H
      refine ow_ixE (e := eTimpl_Pair) (xs := p0) (j := i9) rfl rfl rfl rfl rfl sl28 ty60 rfl (fun w1 hw1 => rds_bor g0 w1 hw1) h17 rfl ?_
      refine ow_batch [.fa 60 0 0 fa60_0] rfl ?_
      refine ow_r rfl (dstOk_lt rfl) (ry_load1 rfl rfl ty3 (at_KA (at_castA (at_eltE (fun w1 hw1 => rds_bor g0 w1 hw1) h17 (fun _ _ h => h)) rfl) 0 1)) ?_
      refine ow_batch [.p, .p] rfl ?_
      refine ow_nil ?_
      refine x_qs ?_
      refine c_if rfl (fun hb => ?_) (fun hb => ?_)
      · have H := of_if_t hb H
        refine c_seq ?_
        refine c_reg ?_
        refine ow_batch [.p] rfl ?_
        refine ow_nil ?_
        refine x_qs ?_
        refine c_ret ?_
        refine x_qs_ret ?_
        refine x_qb_ret ?_
        refine x_qs_ret ?_
        refine x_ql_ret ?_
        refine x_qb_ret ?_
        refine x_qs_ret ?_
        exact x_retR (rs := [.tmp 4]) (vs := [.int .i64 (-1)]) rfl ⟨rfl, trivial⟩ (fun w' hw' => by
            obtain rfl := of_some H
            exact ⟨rfl, hw'.ext⟩)
      · have H := of_if_f hb H
        refine c_skip ?_
        refine x_qs ?_
        refine c_seq ?_
        refine c_reg ?_
        refine ow_batch [.p, .p, .p] rfl ?_
        refine ow_nil ?_
        refine x_qs ?_
        refine c_seq ?_
        refine c_seq ?_
        refine c_reg ?_
        refine ow_batch [.p, .p] rfl ?_
        obtain ⟨e18, h19, H⟩ := of_bind H
        refine ow_ixE (e := eTimpl_Pair) (xs := p0) (j := i9) rfl rfl rfl rfl rfl sl28 ty60 rfl (fun w1 hw1 => rds_bor g0 w1 hw1) h19 rfl ?_
        refine ow_batch [.fa 60 1 1 fa60_1] rfl ?_
        refine ow_r rfl (dstOk_lt rfl) (ry_load1 rfl rfl ty3 (at_KA (at_castA (at_eltE (fun w1 hw1 => rds_bor g0 w1 hw1) h19 (fun _ _ h => h)) rfl) 1 1)) ?_
        refine ow_batch [.p, .p] rfl ?_
        refine ow_nil ?_
        refine x_qs ?_
        refine c_if rfl (fun hb => ?_) (fun hb => ?_)
        · have H := of_if_t hb H
          refine c_seq ?_
          refine c_reg ?_
          refine ow_batch [.p] rfl ?_
          refine ow_nil ?_
          refine x_qs ?_
          refine c_ret ?_
          refine x_qs_ret ?_
          refine x_qb_ret ?_
          refine x_qs_ret ?_
          refine x_ql_ret ?_
          refine x_qb_ret ?_
          refine x_qs_ret ?_
          exact x_retR (rs := [.tmp 4]) (vs := [.int .i64 (-1)]) rfl ⟨rfl, trivial⟩ (fun w' hw' => by
              obtain rfl := of_some H
              exact ⟨rfl, hw'.ext⟩)
        · have H := of_if_f hb H
          refine c_skip ?_
          refine x_qs ?_
          refine c_reg ?_
          refine ow_batch [.p, .p, .p] rfl ?_
          refine ow_nil ?_
          refine x_qb ?_
          refine x_qs ?_
          refine c_reg ?_
          refine ow_batch [.p, .p, .p] rfl ?_
          refine ow_nil ?_
          exact x_ql (RW.at (ihk1 (IntKind.i64.wrap ((IntKind.i64.wrap (i7 + 1)) + 1)) (IntKind.i64.wrap (i9 + 1)) (H)) (fun _ h => St.sel [] rfl rfl h) ⟨rfl, rfl, rfl, trivial⟩)
    · have H := of_if_f hb H
      refine c_exit ?_
      refine x_qs_exit ?_
      refine x_ql_exit ?_
      refine x_qb_here ?_
      refine x_qs ?_
      refine c_seq ?_
      refine c_reg ?_
      refine ow_batch [.p, .p] rfl ?_
      refine ow_nil ?_
      refine x_qs ?_
      refine c_ret ?_
      exact x_retR (rs := [.tmp 4]) (vs := [.int .i64 i7]) rfl ⟨rfl, trivial⟩ (fun w' hw' => by
          obtain rfl := of_some H
          exact ⟨rfl, hw'.ext⟩)

set_option maxHeartbeats 4000000 in
set_option maxRecDepth 100000 in
theorem laws_heldScore_ok (w : World) {p0 : Timpl_Score} {p1 : Int} {cs0 : List Value} {r : Int} (H : laws_heldScore p0 p1 = some r)  (g0 : (eTimpl_Score).rd w [] p0 cs0) :
    Calls Try.prog 30 #[.agg cs0.toArray, .int .i64 p1] w (fun en w' => en = .returned (.int .i64 r) ∧ Ext [] w w') := by
  obtain ⟨c1, c2, rfl, g3, g4⟩ := rdo_Timpl_Score g0
  obtain ⟨a5, c6, rfl⟩ := rd_sl1 g3
  obtain ⟨a7, c8, rfl⟩ := rd_sl1 g4
  unfold laws_heldScore at H
  refine f_enter (vs := [.agg #[.slice a5 p0.Table_.length c6, .slice a7 p0.Last_.length c8], .int .i64 p1]) Try.func30 rfl Try.ntmps30 rfl (St.init w []) ?_
  refine c_seq ?_
  refine c_reg ?_
  refine ow_box (cs := [.slice a5 p0.Table_.length c6, .slice a7 p0.Last_.length c8]) rfl rfl rfl rfl rfl rfl (fun _ => kp) (fun b9 => ?_)
  refine ow_batch [.p] rfl ?_
  refine ow_nil ?_
  refine x_qs ?_
  refine c_seq ?_
  refine c_reg ?_
  refine ow_batch [.fa 30 0 0 fa30_0] rfl ?_
  refine ow_r rfl (dstOk_lt rfl) (ry_box1 (off := 0) rfl rfl ty22 (boxIn (i := 0) rfl) rfl) ?_
  refine ow_batch [.p] rfl ?_
  obtain ⟨y10, h11, H⟩ := of_bind H
  refine ow_q rfl rfl (dstOk_lt rfl) (qy_call rfl fn54 rfl (fun w1 hw1 => laws_heldIntSS_ok w1  h11 (rds_bor g3 w1 hw1))) (fun _ _ => trivial) ?_
  refine ow_batch [.p] rfl ?_
  refine ow_nil ?_
  refine x_qs ?_
  refine c_seq ?_
  refine c_seq ?_
  refine c_reg ?_
  refine ow_batch [.p, .p] rfl ?_
  refine ow_nil ?_
  refine x_qs ?_
  refine c_if rfl (fun hb => ?_) (fun hb => ?_)
  · have H := of_if_t hb H
    refine c_seq ?_
    refine c_reg ?_
    refine ow_batch [.p] rfl ?_
    refine ow_nil ?_
    refine x_qs ?_
    refine c_ret ?_
    refine x_qs_ret ?_
    exact x_retR (rs := [.tmp 4]) (vs := [.int .i64 (-1)]) rfl ⟨rfl, trivial⟩ (fun w' hw' => by
        obtain rfl := of_some H
        exact ⟨rfl, hw'.ext⟩)
  · have H := of_if_f hb H
    refine c_skip ?_
    refine x_qs ?_
    refine c_seq ?_
    refine c_reg ?_
    refine ow_batch [.fa 30 1 1 fa30_1] rfl ?_
    refine ow_r rfl (dstOk_lt rfl) (ry_box1 (off := 1) rfl rfl ty28 (boxIn (i := 0) rfl) rfl) ?_
    refine ow_batch [.p] rfl ?_
    obtain ⟨y12, h13, H⟩ := of_bind H
    refine ow_q rfl rfl (dstOk_lt rfl) (qy_call rfl fn55 rfl (fun w1 hw1 => laws_heldPairS_ok w1  h13 (rds_bor g4 w1 hw1))) (fun _ _ => trivial) ?_
    refine ow_batch [.p] rfl ?_
    refine ow_nil ?_
    refine x_qs ?_
    refine c_seq ?_
    refine c_seq ?_
    refine c_reg ?_
    refine ow_batch [.p, .p] rfl ?_
    refine ow_nil ?_
    refine x_qs ?_
    refine c_if rfl (fun hb => ?_) (fun hb => ?_)
    · have H := of_if_t hb H
      refine c_seq ?_
      refine c_reg ?_
      refine ow_batch [.p] rfl ?_
      refine ow_nil ?_
      refine x_qs ?_
      refine c_ret ?_
      refine x_qs_ret ?_
      exact x_retR (rs := [.tmp 4]) (vs := [.int .i64 (-1)]) rfl ⟨rfl, trivial⟩ (fun w' hw' => by
          obtain rfl := of_some H
          exact ⟨rfl, hw'.ext⟩)
    · have H := of_if_f hb H
      refine c_skip ?_
      refine x_qs ?_
      refine c_seq ?_
      refine c_reg ?_
      refine ow_batch [.p, .p] rfl ?_
      refine ow_nil ?_
      refine x_qs ?_
      refine c_ret ?_
      exact x_retR (rs := [.tmp 4]) (vs := [.int .i64 y12]) rfl ⟨rfl, trivial⟩ (fun w' hw' => by
          obtain rfl := of_some H
          exact ⟨rfl, hw'.ext⟩)

end Go.Vk
